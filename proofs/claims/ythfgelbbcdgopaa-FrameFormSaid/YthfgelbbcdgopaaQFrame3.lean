/- OpenFrame and OpenPacked of the program: what they answer. -/
import Derived.Test.YthfgelbbcdgopaaQFrame2
import Derived.Test.YthfgelbbcdgopaaSx2
set_option linter.unusedVariables false
set_option linter.unusedSimpArgs false
namespace Go.Proofs.Ythfgelbbcdgopaa.S
open Go.RowKit Go.Proofs.YthfgelbbcdgopaaV Go.Proofs.YthfgelbbcdgopaaW.PrintWords Go.Proofs.YthfgelbbcdgopaaW.PrintLast Go.Proofs.YthfgelbbcdgopaaW.PrintMore
open Classical

theorem own_is (l : List Int) (h : l.length ≤ 140737488355328) : frame_own.f l = some l := by unfold frame_own.f; rw [if_pos h]
theorem bytes_not (n w : Int) (h : ¬ (0 ≤ n ∧ n ≤ 16777216 ∧ 0 ≤ w ∧ w ≤ 64)) : ∃ e : Int, pack_Bytes.f n w = some (0, e) ∧ e ≠ 0 ∧ e = (if n < 0 then 2 else if 16777216 < n then 3 else 20) := by
  unfold pack_Bytes.f
  by_cases h1 : n < 0
  · rw [if_pos h1, if_pos h1]; exact ⟨2, rfl, by decide, rfl⟩
  · rw [if_neg h1, if_neg h1]
    by_cases h2 : n > 16777216
    · rw [if_pos h2, if_pos h2]; exact ⟨3, rfl, by decide, rfl⟩
    · rw [if_neg h2, if_neg h2, may_is, Option.bind_some, if_neg (by simp; omega)]
      exact ⟨20, rfl, by decide, rfl⟩
/-- Lanes of n numbers of w bits: all the bytes, and nothing behind the last number. -/
def IsLanes (l : List Int) (n w : Nat) : Prop := l.length = (n * w + 7) / 8 ∧ num l < 2 ^ (n * w)
theorem unpack_cases (l : List Int) (hb : Bytes l) (hl : l.length ≤ 1152921504606846975) (w n : Nat) (hw : w ≤ 64) (hn : n ≤ 16777216) (k : Nat) (hk : n + 17 ≤ k) :
    (IsLanes l n w ∧ pack_Unpack_uint64.f k l (w : Int) (n : Int) = some (lanesOf w n (num l), 0)) ∨
    (¬ IsLanes l n w ∧ ∃ e : Int, pack_Unpack_uint64.f k l (w : Int) (n : Int) = some ([], e) ∧ e ≠ 0 ∧ e = (if l.length < (n * w + 7) / 8 then 22 else 23)) := by
  by_cases h : IsLanes l n w
  · exact .inl ⟨h, (uint64_unpack l hb hl w n hw hn k hk h.1 h.2).1 (fun x hx => by
      have := lanesOf_fit w n (num l) x hx
      exact ⟨this.1, Nat.lt_of_lt_of_le this.2 (Nat.pow_le_pow_right (by decide) hw)⟩)⟩
  · refine .inr ⟨h, ?_⟩
    obtain ⟨e, h1, h2⟩ := uint64_unpack_not l hb hl (w : Int) (n : Int) (by omega) k (by omega) (fun h2 => h ⟨by simpa using h2.2.2.2.2.1, by simpa using h2.2.2.2.2.2⟩)
    rw [if_neg (by omega), if_neg (by omega), if_neg (by omega), Int.toNat_natCast, Int.toNat_natCast] at h2
    exact ⟨e, h1, by rw [h2]; split <;> decide, h2⟩
theorem fit64_lanesOf (w n N : Nat) (hw : w ≤ 64) : Fit 64 (lanesOf w n N) := fun x hx => by
  have := lanesOf_fit w n N x hx
  exact ⟨this.1, Nat.lt_of_lt_of_le this.2 (Nat.pow_le_pow_right (by decide) hw)⟩
theorem values_not (m : Int) (l : List Int) (n w : Int) (e : Int) (he : e ≠ 0) (k : Nat) (hu : pack_Unpack_uint64.f k l w n = some ([], e)) : frame_Values.f k m l n w = some ([], e) := by
  unfold frame_Values.f
  rw [hu, Option.bind_some]
  (try dsimp only)
  rw [if_neg he]
/-- All codes lead to integers. -/
def Under (m : Int) (c : List Int) : Prop := ∀ x ∈ c, x ≤ 9223372036854775807 - m
/-- A code is nought; of no codes the base is nought. -/
def Nought (m : Int) (c : List Int) : Prop := (c = [] ∧ m = 0) ∨ 0 ∈ c
theorem open_l0 (l : List Int) (hl8 : 8 ≤ l.length) (hll : l.length ≤ 140737488355328) (m : Int) (hm : I64 m) (c : List Int) (hlen : c.length ≤ 9223372036854775806) (d : Nat) : ∀ (k i : Nat) (z : Bool), i + d = c.length → d + 1 ≤ k →
    frame_OpenFrame.l0 k l m z c (c.length : Int) (i : Int) = some (if Under m (c.drop i) ∧ (z = true ∨ 0 ∈ c.drop i) then (m, l.drop 8, 0) else (0, [], 70)) := by
  induction d with
  | zero =>
    intro k i z hi hk
    obtain ⟨k, rfl⟩ : ∃ m, k = m + 1 := ⟨k - 1, by omega⟩
    have hnil : c.drop i = [] := List.drop_of_length_le (by omega)
    rw [frame_OpenFrame.l0, if_neg (by omega), hnil]
    cases z with
    | true =>
      rw [if_pos rfl, if_pos (by omega), own_is _ (by simp; omega), Option.bind_some, if_pos (show Under m [] ∧ ((true : Bool) = true ∨ (0 : Int) ∈ []) from ⟨fun _ h => (by cases h), Or.inl rfl⟩)]
    | false =>
      rw [if_neg (by decide), if_neg (by simp)]
  | succ d ih =>
    intro k i z hi hk
    obtain ⟨k, rfl⟩ : ∃ m, k = m + 1 := ⟨k - 1, by omega⟩
    have hd := List.drop_eq_getElem_cons (l := c) (i := i) (by omega)
    rw [frame_OpenFrame.l0, if_pos (by omega), if_pos (by omega), if_pos (by omega), rd_get (show i < c.length by omega), over_is hm, Option.bind_some]
    have hu : Under m (c.drop i) ↔ c[i] ≤ 9223372036854775807 - m ∧ Under m (c.drop (i + 1)) := by rw [hd]; unfold Under; simp only [List.mem_cons, forall_eq_or_imp]
    have hz : (0 : Int) ∈ c.drop i ↔ c[i] = 0 ∨ 0 ∈ c.drop (i + 1) := by
      rw [hd, List.mem_cons]
      exact ⟨fun h => h.imp Eq.symm id, fun h => h.imp Eq.symm id⟩
    by_cases ho : 9223372036854775807 - m < c[i]
    · rw [if_pos (by simpa using ho), if_neg (by rw [hu]; omega)]
    · rw [if_neg (by simpa using ho), w64 (by omega) (by omega)]
      have hle : c[i] ≤ 9223372036854775807 - m := by omega
      cases z with
      | true =>
        rw [if_pos rfl, show (i : Int) + 1 = ((i + 1 : Nat) : Int) from rfl, ih k (i + 1) true (by omega) (by omega)]
        congr 1
        simp [hu, hle]
      | false =>
        rw [if_neg (by decide), show (i : Int) + 1 = ((i + 1 : Nat) : Int) from rfl, ih k (i + 1) (c[i] == 0) (by omega) (by omega)]
        congr 1
        simp [hu, hle, hz]
/-- The base that eight bytes tell. -/
def baseOf (l : List Int) : Int := wrap64 (num (l.take 8) : Int)
theorem baseOf_i64 (l : List Int) : I64 (baseOf l) := by unfold baseOf wrap64; exact ⟨by omega, by omega⟩
/-- What OpenFrame takes. -/
def Opens (l : List Int) (n w : Nat) : Prop := 8 ≤ l.length ∧ IsLanes (l.drop 8) n w ∧ Under (baseOf l) (lanesOf w n (num (l.drop 8))) ∧ Nought (baseOf l) (lanesOf w n (num (l.drop 8)))
theorem openframe_cases (l : List Int) (hb : Bytes l) (hl : l.length ≤ 140737488355328) (w n : Nat) (hw : w ≤ 64) (hn : n ≤ 16777216) (k : Nat) (hk : n + 40 ≤ k) :
    (Opens l n w ∧ frame_OpenFrame.f k l (n : Int) (w : Int) = some (baseOf l, l.drop 8, 0)) ∨
    (¬ Opens l n w ∧ ∃ e : Int, frame_OpenFrame.f k l (n : Int) (w : Int) = some (0, [], e) ∧ e ≠ 0 ∧
      e = (if l.length < 8 then 22 else if (l.drop 8).length < (n * w + 7) / 8 then 22 else if ¬ IsLanes (l.drop 8) n w then 23 else 70)) := by
  unfold frame_OpenFrame.f
  rw [bytes_ok n w hn hw, Option.bind_some]
  (try dsimp only)
  rw [if_pos rfl]
  by_cases h8 : l.length < 8
  · rw [if_pos (by omega), if_pos h8]
    exact .inr ⟨fun h => by have := h.1; omega, 22, rfl, by decide, rfl⟩
  · rw [if_neg (by omega), if_pos (by omega), if_neg h8]
    have hw0 : pack_Word.f k (l.take 8) 0 = some ((num (l.take 8) : Nat) : Int) := by
      have h := word_nonneg (l.take 8) (hb.take 8) (by simp; omega) 0 (by omega) k (by omega)
      rw [Nat.pow_zero, Nat.div_one, Nat.mod_eq_of_lt (by have := num_lt (hb.take 8); rw [List.length_take, Nat.min_eq_left (by omega)] at this; exact this)] at h
      exact h
    rw [hw0, Option.bind_some]
    (try dsimp only)
    rw [show wrap64 ((num (l.take 8) : Nat) : Int) = baseOf l from rfl]
    rcases unpack_cases (l.drop 8) (hb.drop 8) (by simp; omega) w n hw hn k (by omega) with ⟨h1, h2⟩ | ⟨h1, e, h2, h3, h4⟩
    · rw [h2, Option.bind_some]
      (try dsimp only)
      rw [if_pos rfl]
      have hcl := lanesOf_length w n (num (l.drop 8))
      generalize hc : lanesOf w n (num (l.drop 8)) = c at hcl
      have hO : Opens l n w ↔ Under (baseOf l) c ∧ Nought (baseOf l) c := by
        unfold Opens; rw [hc]; exact ⟨fun h => h.2.2, fun h => ⟨by omega, h1, h⟩⟩
      have key : ∀ z : Bool, (z = true ↔ c = [] ∧ baseOf l = 0) → frame_OpenFrame.j0 k l (baseOf l) c z = some (if Under (baseOf l) c ∧ Nought (baseOf l) c then (baseOf l, l.drop 8, 0) else (0, [], 70)) := by
        intro z hz
        obtain ⟨k, rfl⟩ : ∃ m, k = m + 1 := ⟨k - 1, by omega⟩
        have h := open_l0 l (by omega) hl (baseOf l) (baseOf_i64 l) c (by omega) c.length k 0 z (by omega) (by omega)
        rw [List.drop_zero] at h
        rw [frame_OpenFrame.j0]
        refine Eq.trans h ?_
        have he : (Under (baseOf l) c ∧ (z = true ∨ (0 : Int) ∈ c)) ↔ (Under (baseOf l) c ∧ Nought (baseOf l) c) := by unfold Nought; rw [hz]
        by_cases hq : Under (baseOf l) c ∧ Nought (baseOf l) c
        · rw [if_pos hq, if_pos (he.2 hq)]
        · rw [if_neg hq, if_neg (fun h9 => hq (he.1 h9))]
      have hfin : ∀ r, r = some (if Under (baseOf l) c ∧ Nought (baseOf l) c then (baseOf l, l.drop 8, (0 : Int)) else (0, [], 70)) →
          (Opens l n w ∧ r = some (baseOf l, l.drop 8, 0)) ∨ (¬ Opens l n w ∧ ∃ e : Int, r = some (0, [], e) ∧ e ≠ 0 ∧ e = (if (l.drop 8).length < (n * w + 7) / 8 then 22 else if ¬ IsLanes (l.drop 8) n w then 23 else 70)) := by
        intro r hr
        by_cases hU : Under (baseOf l) c ∧ Nought (baseOf l) c
        · rw [if_pos hU] at hr
          exact .inl ⟨hO.2 hU, hr⟩
        · rw [if_neg hU] at hr
          have h5 := h1.1
          refine .inr ⟨fun h => hU (hO.1 h), 70, hr, by decide, ?_⟩
          rw [if_neg (by omega), if_neg (by simpa using h1)]
      by_cases hn0 : (n : Int) = 0
      · rw [if_pos hn0]
        refine hfin _ (key _ ?_)
        have : c = [] := List.eq_nil_of_length_eq_zero (by omega)
        simp [this]
      · rw [if_neg hn0]
        refine hfin _ (key _ ?_)
        have : c ≠ [] := fun h => by rw [h] at hcl; simp at hcl; omega
        simp [this]
    · rw [h2, Option.bind_some]
      (try dsimp only)
      rw [if_neg h3]
      refine .inr ⟨fun h => h1 h.2.1, e, rfl, h3, ?_⟩
      rw [h4]
      by_cases h5 : (l.drop 8).length < (n * w + 7) / 8
      · rw [if_pos h5, if_pos h5]
      · rw [if_neg h5, if_neg h5, if_pos h1]
theorem openpacked_cases (l : List Int) (hb : Bytes l) (hl : l.length ≤ 140737488355328) (w n : Nat) (hw : w ≤ 64) (hn : n ≤ 16777216) (k : Nat) (hk : n + 40 ≤ k) :
    (IsLanes l n w ∧ Under 0 (lanesOf w n (num l)) ∧ frame_OpenPacked.f k l (n : Int) (w : Int) = some (l, 0)) ∨
    (¬ (IsLanes l n w ∧ Under 0 (lanesOf w n (num l))) ∧ ∃ e : Int, frame_OpenPacked.f k l (n : Int) (w : Int) = some ([], e) ∧ e ≠ 0 ∧ e = (if l.length < (n * w + 7) / 8 then 22 else if ¬ IsLanes l n w then 23 else 70)) := by
  unfold frame_OpenPacked.f
  rw [bytes_ok n w hn hw, Option.bind_some]
  (try dsimp only)
  rw [if_pos rfl]
  rcases unpack_cases l hb (by omega) w n hw hn k (by omega) with ⟨h1, h2⟩ | ⟨h1, e, h2, h3, h4⟩
  · have hv := values_is 0 ⟨by decide, by decide⟩ l n w hn (lanesOf w n (num l)) (fit64_lanesOf w n _ hw) (lanesOf_length _ _ _) k (by omega) h2
    by_cases hU : Under 0 (lanesOf w n (num l))
    · rw [hv.1 hU, Option.bind_some]
      (try dsimp only)
      rw [if_pos rfl, own_is l hl, Option.bind_some]
      exact .inl ⟨h1, hU, rfl⟩
    · rw [hv.2 hU, Option.bind_some]
      (try dsimp only)
      rw [if_neg (by decide)]
      have h5 := h1.1
      refine .inr ⟨fun h => hU h.2, 70, rfl, by decide, ?_⟩
      rw [if_neg (by omega), if_neg (by simpa using h1)]
  · rw [values_not 0 l (n : Int) (w : Int) e h3 k h2, Option.bind_some]
    (try dsimp only)
    rw [if_neg h3]
    refine .inr ⟨fun h => h1 h.1, e, rfl, h3, ?_⟩
    rw [h4]
    by_cases h5 : l.length < (n * w + 7) / 8
    · rw [if_pos h5, if_pos h5]
    · rw [if_neg h5, if_neg h5, if_pos h1]
end Go.Proofs.Ythfgelbbcdgopaa.S
