/- Seat bits: what a set is, and the calls that make and read one. -/
import Derived.Test.YtpemffaclmpnnaaDoorMR
import Derived.Test.YtpemffaclmpnnaaDoorMH
import Derived.Test.YtpemffaclmpnnaaDoorXK
namespace Go.Ax
set_option linter.unusedVariables false
set_option linter.unusedSimpArgs false

def wv (x : BitVec 64) : Value := .int .u64 (wi x)

/-- A slice of words of the program's own. -/
def Words (h : Heap) (b : Option Addr) (c q : Nat) (ws : List (BitVec 64)) : Prop :=
  (b = none ∧ c = 0 ∧ ws = []) ∨ ∃ v, b = some ⟨q, 0, some v⟩ ∧ RowAt h q v 1 (ws.map wv) ∧ ws.length ≤ c ∧ c ≤ gcap

structure SetAt (h : Heap) (p q n : Nat) (ws : List (BitVec 64)) : Prop where
  ex : ∃ b c, RowAt h p 0 0 [.int .i64 n, .slice b ws.length c] ∧ Words h b c q ws
  ne : ws ≠ [] → p ≠ q

def ptr (p : Nat) : Value := .pointer (some ⟨p, 0, some 0⟩)

theorem Words.chg {S : Nat → Prop} {h h' : Heap} {b : Option Addr} {c q : Nat} {ws : List (BitVec 64)} (w : Words h b c q ws) (k : Chg S h h') (hs : ¬ S q) : Words h' b c q ws := by
  rcases w with w | ⟨v, h1, h2, h3⟩
  · exact .inl w
  · exact .inr ⟨v, h1, h2.chg k hs, h3⟩

theorem SetAt.chg {S : Nat → Prop} {h h' : Heap} {p q n : Nat} {ws : List (BitVec 64)} (s : SetAt h p q n ws) (k : Chg S h h') (hp : ¬ S p) (hq : ¬ S q) : SetAt h' p q n ws := by
  obtain ⟨b, c, h1, h2⟩ := s.ex
  exact ⟨⟨b, c, h1.chg k hp, h2.chg k hq⟩, s.ne⟩

theorem Words.le {h : Heap} {b : Option Addr} {c q : Nat} {ws : List (BitVec 64)} (w : Words h b c q ws) : ws = [] ∨ q < h.dyn.length := by
  rcases w with ⟨_, _, w⟩ | ⟨v, _, r, _⟩
  · exact .inl w
  · exact .inr r.lt

theorem SetAt.grow {h h' : Heap} {p q n : Nat} {ws : List (BitVec 64)} (s : SetAt h p q n ws) (k : Grow h h') : SetAt h' p q n ws := s.chg k id id

theorem len_spec {h : Heap} {p q n : Nat} {ws : List (BitVec 64)} (s : SetAt h p q n ws) : Gives P T (.fn F_bits_Set_Len) [ptr p] h fun v h' => v = .int .i64 n ∧ h' = h := by
  obtain ⟨b, c, h1, h2⟩ := s.ex
  refine gives_go t_bits_Set_Len (by simp [c_bits_Set_Len]) ?_
  simp [c_bits_Set_Len, ptr, h1.get (i := 0) rfl]

theorem len_nil {h : Heap} : Gives P T (.fn F_bits_Set_Len) [.pointer none] h fun v h' => v = .int .i64 0 ∧ h' = h := by
  refine gives_go t_bits_Set_Len (by simp [c_bits_Set_Len]) ?_
  simp [c_bits_Set_Len]

theorem words_spec {h : Heap} {n : Nat} (hn : n ≤ 16777216) : Gives P T (.fn F_bits_words) [.int .i64 n] h fun v h' => v = .int .i64 ((n + 63) / 64 : Nat) ∧ h' = h := by
  refine gives_go t_bits_words (by simp [c_bits_words]) ?_
  have e : ((n : Int) + 63).tdiv 64 = ((n : Int) + 63) / 64 := Int.tdiv_eq_ediv_of_nonneg (by omega)
  simp (disch := omega) [c_bits_words, wrap_i64, e]

theorem new_spec {h : Heap} {n : Nat} (hn : n ≤ 16777216) : Gives P T (.fn F_bits_New) [.int .i64 n] h fun v h' => ∃ p q, v = ptr p ∧ SetAt h' p q n (List.replicate ((n + 63) / 64) 0) ∧ Grow h h' ∧ h.dyn.length ≤ p ∧ h.dyn.length ≤ q := by
  refine gives_by t_bits_New (by simp [c_bits_New]) fun Q hQ => ?_
  have h1 : ¬ ((16777216 : Int) < n) := by omega
  have h0 : ¬ ((n : Int) < 0) := by omega
  simp [c_bits_New, h1, h0]
  refine got_call (words_spec hn) ?_
  rintro _ _ ⟨rfl, rfl⟩
  rename_i h
  have hm : (n + 63) / 64 ≤ 262144 := by omega
  have e : ((n : Int) + 63) / 64 = ((n + 63) / 64 : Nat) := by simp
  simp
  rw [e, mkS_nat (by omega) (by omega)]
  simp
  refine hQ _ _ ⟨h.dyn.length + 1, h.dyn.length, rfl, ⟨⟨some ⟨h.dyn.length, 0, some 0⟩, (n + 63) / 64, by simpa using RowAt.new (hnew h (List.replicate ((n + 63) / 64) (Value.int .u64 0)) 1) [.int .i64 n, .slice (some ⟨h.dyn.length, 0, some 0⟩) ((n + 63) / 64) ((n + 63) / 64)] 0, .inr ⟨0, rfl, ?_, by simp, by unfold gcap; omega⟩⟩, fun _ => by omega⟩, ((Grow.new _ _ _).trans (Grow.new _ _ _)), by omega, by omega⟩
  have := RowAt.new h (List.replicate ((n + 63) / 64) (Value.int .u64 0)) 1
  have e2 : (List.replicate ((n + 63) / 64) (0 : BitVec 64)).map wv = List.replicate ((n + 63) / 64) (Value.int .u64 0) := by simp [wv]
  rw [e2]
  exact this.grow (Grow.new _ _ _)

/-- Appending words to an empty slice of no room. -/
theorem app_words {h : Heap} {q v c : Nat} {a0 : Addr} {ws : List (BitVec 64)} (r : RowAt h q v 1 (ws.map wv)) (hl : ws.length ≤ 16777216) (h0 : ws ≠ []) :
    aappend h 1 8 [.int .u64 0] (.slice (some a0) 0 0) (.slice (some ⟨q, 0, some v⟩) ws.length c) = some (.slice (some ⟨h.dyn.length, 0, some 0⟩) ws.length gcap, hnew h (ws.map wv) 1) := by
  have hp : 0 < ws.length := List.length_pos_iff.2 h0
  have hg : (ws.map wv).all goodC = true := by simp [List.all_map, wv, goodC]
  simp only [aappend, slen, firstN, Nat.mul_one]
  rw [loadN_row_all r (by simp)]
  simp only
  rw [if_neg (by omega), if_neg (by simp; exact List.all_eq_true.1 (by simpa using hg)), if_pos (by unfold gcap; omega), if_neg (by omega)]
  simp only [Nat.zero_mul, loadN, appNew, List.nil_append]
  rw [if_pos (by omega)]
  simp

theorem clone_spec {h : Heap} {b : Option Addr} {c q : Nat} {ws : List (BitVec 64)} (w : Words h b c q ws) (hl : ws.length ≤ 16777216) :
    Gives P T (.fn F_slices_Clone_uint64_uint64) [.slice b ws.length c] h fun v h' => ∃ b' c' q', v = .slice b' ws.length c' ∧ Words h' b' c' q' ws ∧ Grow h h' ∧ h.dyn.length ≤ q' := by
  refine gives_by t_slices_Clone_uint64_uint64 (by simp [c_slices_Clone_uint64_uint64]) fun Q hQ => ?_
  rcases w with ⟨rfl, rfl, rfl⟩ | ⟨v, rfl, r, h1, h2⟩
  · simp [c_slices_Clone_uint64_uint64]
    exact hQ _ _ ⟨none, 0, h.dyn.length, rfl, .inl ⟨rfl, rfl, rfl⟩, Chg.refl _, Nat.le_refl _⟩
  · simp [c_slices_Clone_uint64_uint64]
    by_cases h0 : ws = []
    · subst h0
      simp [aappend, slen, firstN, loadN]
      exact hQ _ _ ⟨_, _, h.dyn.length, rfl, .inr ⟨0, rfl, RowAt.new _ _ _, by simp, by unfold gcap; omega⟩, Grow.new _ _ _, Nat.le_refl _⟩
    · rw [app_words (r.grow (Grow.new _ _ _)) hl h0]
      simp
      exact hQ _ _ ⟨some ⟨h.dyn.length + 1, 0, some 0⟩, gcap, h.dyn.length + 1, rfl, .inr ⟨0, rfl, by simpa using RowAt.new (hnew h [] 1) (ws.map wv) 1, by unfold gcap; omega, Nat.le_refl _⟩, (Grow.new _ _ _).trans (Grow.new _ _ _), by omega⟩

theorem Words_spec {h : Heap} {p q n : Nat} {ws : List (BitVec 64)} (s : SetAt h p q n ws) (hl : ws.length ≤ 16777216) :
    Gives P T (.fn F_bits_Set_Words) [ptr p] h fun v h' => ∃ b' c' q', v = .slice b' ws.length c' ∧ Words h' b' c' q' ws ∧ Grow h h' ∧ h.dyn.length ≤ q' := by
  obtain ⟨b, c, h1, h2⟩ := s.ex
  refine gives_by t_bits_Set_Words (by simp [c_bits_Set_Words]) fun Q hQ => ?_
  simp [c_bits_Set_Words, ptr, h1.get (i := 1) rfl]
  refine got_call (clone_spec h2 hl) ?_
  rintro _ h' ⟨b', c', q', rfl, w', g, hq⟩
  simp
  exact hQ _ _ ⟨b', c', q', rfl, w', g, hq⟩

theorem Clone_spec {h : Heap} {p q n : Nat} {ws : List (BitVec 64)} (s : SetAt h p q n ws) (hl : ws.length ≤ 16777216) :
    Gives P T (.fn F_bits_Set_Clone) [ptr p] h fun v h' => ∃ p' q', v = ptr p' ∧ SetAt h' p' q' n ws ∧ Grow h h' ∧ h.dyn.length ≤ p' ∧ h.dyn.length ≤ q' := by
  obtain ⟨b, c, h1, h2⟩ := s.ex
  refine gives_by t_bits_Set_Clone (by simp [c_bits_Set_Clone]) fun Q hQ => ?_
  simp [c_bits_Set_Clone, ptr, h1.get (i := 1) rfl, h1.get (i := 0) rfl]
  refine got_call (clone_spec h2 hl) ?_
  rintro _ h' ⟨b', c', q', rfl, w', g, hq⟩
  simp [(h1.grow g).get (i := 0) rfl, pushP_in]
  exact hQ _ _ ⟨h'.dyn.length, q', rfl, ⟨⟨b', c', RowAt.new _ _ _, w'.chg (Grow.new _ _ _) id⟩, fun h0 => by have := w'.le.resolve_left h0; omega⟩, g.trans (Grow.new _ _ _), g.len, hq⟩

end Go.Ax
