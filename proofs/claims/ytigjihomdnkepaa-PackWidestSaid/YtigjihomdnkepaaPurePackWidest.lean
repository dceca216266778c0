/- Numbers go into the widths that are not below the greatest of theirs, and into no others; numbers of unlike kinds take the same bytes. No condition: every input. -/
import Derived.Test.YtigjihomdnkepaaSx6
import Derived.Test.YtigjihomdnkepaaQPackuint64
import Derived.Test.YtigjihomdnkepaaQPackuint32
import Derived.Test.YtigjihomdnkepaaQFit
set_option linter.unusedVariables false
set_option linter.unusedSimpArgs false
namespace Go.Proofs.Ytigjihomdnkepaa.Pure
open Go.RowKit Go.Proofs.Ytigjihomdnkepaa.S Go.Proofs.YtigjihomdnkepaaV Go.Proofs.YtigjihomdnkepaaW.PrintWords Go.Proofs.YtigjihomdnkepaaW.PrintLast Go.Proofs.YtigjihomdnkepaaW.PrintMore

/-- The end: both packed. -/
theorem widest_j1 (l0 l : List Int) (hl0 : l0.take l.length = l) (hlen0 : l.length ≤ l0.length) (hn : l.length ≤ 1048576) (h32 : Fit 32 l) (a : Int) (w : Nat) (hw : ∀ v : Nat, w ≤ v ↔ Fit v l) (k : Nat) (hk : 100000000 ≤ k) :
    colonnadelaw02_PackWidest.j1 k l0 a (w : Int) l = some true := by
  obtain ⟨k, rfl⟩ : ∃ m, k = m + 1 := ⟨k - 1, by omega⟩
  rw [colonnadelaw02_PackWidest.j1, if_pos (by omega), if_pos (by omega), Int.toNat_natCast, hl0]
  unfold colonnadelaw02_num.f
  by_cases ha : 0 ≤ a ∧ a ≤ 64
  · obtain ⟨v, rfl⟩ := Int.eq_ofNat_of_zero_le ha.1
    have hv : v ≤ 64 := by omega
    have hmul : l.length * (v + 2) ≤ 1048576 * 66 := Nat.mul_le_mul hn (by omega)
    have p32 := uint32_pack l v hv (by omega) h32 k (by omega)
    have p64 := uint64_pack l v hv (by omega) (fit_up (by decide) h32) k (by omega)
    by_cases hf : Fit v l
    · obtain ⟨b, pb, bb, lb, nb⟩ := p32.1 hf
      obtain ⟨c, pc, bc, lc, nc⟩ := p64.1 hf
      have he : b = c := num_inj bb bc (by rw [lb, lc]) (by rw [nb, nc])
      have hwv := (hw v).2 hf
      rw [pb, pc, he]
      simp only [Option.bind_some]
      rw [if_pos (by omega), if_pos trivial, if_pos trivial]
      have : (v : Int) ≤ 64 := by omega
      simp [this]
    · have hwv : ¬ w ≤ v := fun h => hf ((hw v).1 h)
      rw [p32.2 hf, p64.2 hf]
      simp only [Option.bind_some]
      rw [if_neg (by omega), if_pos trivial, if_pos trivial]
      simp
  · rw [uint32_refused l a (by omega) (by omega) k, uint64_refused l a (by omega) (by omega) k]
    simp only [Option.bind_some]
    have h3 : ¬ 16777216 < l.length := by omega
    simp only [h3, if_false, if_true]
    by_cases h1 : a ≥ (w : Int)
    · rw [if_pos h1]
      have : ¬ a ≤ 64 := by omega
      simp [this]
    · rw [if_neg h1]
      simp
theorem widest_l0 (l0 : List Int) (h32 : Fit 32 l0) (hlen : l0.length ≤ 9223372036854775807) (a : Int) (d : Nat) : ∀ (k i w : Nat), i + d = min l0.length 1048576 → (∀ v : Nat, w ≤ v ↔ Fit v (l0.take i)) → 100000001 + d ≤ k →
    colonnadelaw02_PackWidest.l0 k l0 a (w : Int) (l0.take i) (i : Int) = some true := by
  induction d with
  | zero =>
    intro k i w hi hw hk
    obtain ⟨k, rfl⟩ : ∃ m, k = m + 1 := ⟨k - 1, by omega⟩
    have hti : (l0.take i).length = i := by rw [List.length_take]; omega
    have hj := widest_j1 l0 (l0.take i) (by rw [hti]) (by omega) (by omega) (h32.take i) a w hw k (by omega)
    rw [colonnadelaw02_PackWidest.l0]
    by_cases h1 : (i : Int) < (l0.length : Int)
    · rw [if_pos h1, if_neg (by omega)]; exact hj
    · rw [if_neg h1]; exact hj
  | succ d ih =>
    intro k i w hi hw hk
    obtain ⟨k, rfl⟩ : ∃ m, k = m + 2 := ⟨k - 2, by omega⟩
    have hx := h32.get i
    obtain ⟨x, hxe⟩ : ∃ x : Nat, l0.getD i 0 = (x : Int) := ⟨(l0.getD i 0).toNat, by omega⟩
    have hrd : rd l0 (i : Int) = (x : Int) := by unfold rd; rw [Int.toNat_natCast, hxe]
    rw [hxe, Int.toNat_natCast] at hx
    have hti : (l0.take i).length = i := by rw [List.length_take]; omega
    rw [colonnadelaw02_PackWidest.l0, if_pos (by omega), if_pos (by omega), if_pos (by omega), hrd, wrap_u64, show (x : Int) % 18446744073709551616 = (x : Int) by omega, width_is k x (by omega)]
    simp only [Option.bind_some]
    rw [if_pos (by omega), w64 (by omega) (by omega), show mx (w : Int) (wid x : Int) = ((max w (wid x) : Nat) : Int) by unfold mx; split <;> omega]
    have hget : l0[i]'(show i < l0.length by omega) = (x : Int) := by
      rw [← hxe, List.getD_eq_getElem?_getD, List.getElem?_eq_getElem (show i < l0.length by omega)]; rfl
    have hts : l0.take (i + 1) = l0.take i ++ [(x : Int)] := by rw [List.take_succ_eq_append_getElem (show i < l0.length by omega), hget]
    rw [← hts]
    refine ih (k + 1) (i + 1) (max w (wid x)) (by omega) (fun v => ?_) (by omega)
    rw [hts, Fit.append, Fit.cons, ← hw v, Int.toNat_natCast, ← wid_le]
    have : Fit v [] := fun _ h => by cases h
    simp only [this, and_true]
    omega
theorem PackWidest : colonnadelaw02_PackWidest.Pure := by
  intro l0 a1 hm hs hwf hwa
  have h32 : Fit 32 l0 := fun x hx => by
    have := wf_u32.1 (hwf x hx)
    exact ⟨this.1, by omega⟩
  refine ⟨200000000, ?_⟩
  unfold colonnadelaw02_PackWidest.f
  rw [awake_is _ (by omega)]
  simp only [Option.bind_some, if_true]
  exact widest_l0 l0 h32 (by omega) a1 (min l0.length 1048576) 200000000 0 0 (by omega) (fun v => by simp; exact fun _ h => by cases h) (by omega)
end Go.Proofs.Ytigjihomdnkepaa.Pure
