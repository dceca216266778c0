/- Seat pack: bytes lent and kept; At, Word; the document's. -/
import Derived.Test.YthfgelbbcdgopaaMT
import Derived.Test.YthfgelbbcdgopaaPB
namespace Go.Ax
set_option linter.unusedVariables false
set_option linter.unusedSimpArgs false

/-- The marks behind lent bytes (the first k). -/
def marksL (k : Nat) : List (BitVec 8) := (List.range k).map fun i => BitVec.ofNat 8 (150 + i)
theorem marksL_succ (k : Nat) : marksL (k + 1) = marksL k ++ [BitVec.ofNat 8 (150 + k)] := by simp [marksL, List.range_succ]
theorem marksL_len (k : Nat) : (marksL k).length = k := by simp [marksL]

theorem mark_wrap {k : Nat} (hk : k < 66) : IntKind.u8.wrap ((150 + k : Nat) : Int) = bi (BitVec.ofNat 8 (150 + k)) := by
  rw [wrap8_bi]; congr 1

theorem clone_app {h : Heap} {v : Value} {bs : List (BitVec 8)} (r : Reads h v (bs.map bv)) (hl : bs.length ≤ 140737488351232) :
    ∃ v1 h1 q1, aappend (hnew h [] 1) 1 1 [.int .u8 0] (.slice (some ⟨h.dyn.length, 0, some 0⟩) 0 0) v = some (v1, h1) ∧ Own h1 v1 q1 (bs.map bv) ∧ Grow h h1 ∧ h.dyn.length ≤ q1 ∧ TopS v1 := by
  have hv : slen v = some (bs.map bv).length ∧ firstN (hnew h [] 1) 1 (bs.map bv).length v = some (bs.map bv) := by
    rcases r.grow (Grow.new h [] 1) with ⟨rfl, h0⟩ | ⟨a, c, rfl, hl⟩
    · rw [h0]; exact ⟨rfl, rfl⟩
    · refine ⟨rfl, ?_⟩
      simp only [firstN, Nat.mul_one]
      exact loadN_of _ _ hl
  have own0 : Own (hnew h [] 1) (.slice (some ⟨h.dyn.length, 0, some 0⟩) 0 0) h.dyn.length [] := .inr (.inr ⟨0, [], rfl, by decide, RowAt.new _ _ _⟩)
  by_cases h0 : bs = []
  · subst h0
    have e := own0.app0 (by simp) (bytes := 1) (z := .int .u8 0) hv.1 hv.2
    exact ⟨_, _, h.dyn.length, e, own0, Grow.new _ _ _, Nat.le_refl _, fun b n c e => by cases e; exact .inr (.inr (Nat.le_refl _))⟩
  · have hg : (bs.map bv).all goodC = true := by rw [List.all_eq_true]; intro x hx; rw [List.mem_map] at hx; obtain ⟨y, _, rfl⟩ := hx; simp [bv]
    obtain ⟨v', h', q', e, o, c, _, d⟩ := own0.app (bytes := 1) (z := .int .u8 0) (by simpa using h0) hv.1 hv.2 hg (by simp; omega) (by simp; omega)
    obtain ⟨b, m, ht⟩ := aappend_top e hv.1 (by simpa using h0) (fun b n c e => by cases e; exact .inr (.inr (Nat.le_refl _)))
    refine ⟨v', h', q', e, by simpa using o, (Grow.new h [] 1).after c fun n hn hb => by have := hb.1; omega, ?_, ht ▸ TopS.full⟩
    rcases d with ⟨h1, _⟩ | h1
    · omega
    · rw [h1]; simp

end Go.Ax
