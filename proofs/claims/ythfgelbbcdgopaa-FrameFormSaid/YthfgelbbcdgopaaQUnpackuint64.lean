/- Unpack at uint64: lanes as numbers. -/
import Derived.Test.YthfgelbbcdgopaaSx1
import Derived.Test.YthfgelbbcdgopaaQWord
import Derived.Test.YthfgelbbcdgopaaVL
set_option linter.unusedVariables false
set_option linter.unusedSimpArgs false
namespace Go.Proofs.Ythfgelbbcdgopaa.S
open Go.RowKit Go.Proofs.YthfgelbbcdgopaaV Go.Proofs.YthfgelbbcdgopaaW.PrintWords Go.Proofs.YthfgelbbcdgopaaW.PrintLast Go.Proofs.YthfgelbbcdgopaaW.PrintMore

theorem uint64_ul0 (l : List Int) (hb : Bytes l) (hl : l.length ≤ 1152921504606846975) (w n : Nat) (hw : w ≤ 64) (hn : n ≤ 16777216) (d : Nat) : ∀ (k i : Nat), i + d = n → Fit 64 (lanesOf w i (num l)) → d + 17 ≤ k →
    (Fit 64 (lanesOf w n (num l)) → pack_Unpack_uint64.l0 k l (w : Int) (lanesOf w i (num l)) (n : Int) (i : Int) = some (lanesOf w n (num l), 0)) ∧
    (¬ Fit 64 (lanesOf w n (num l)) → pack_Unpack_uint64.l0 k l (w : Int) (lanesOf w i (num l)) (n : Int) (i : Int) = some ([], 21)) := by
  induction d with
  | zero =>
    intro k i hi hf hk
    obtain ⟨k, rfl⟩ : ∃ m, k = m + 1 := ⟨k - 1, by omega⟩
    obtain rfl : i = n := by omega
    refine ⟨fun _ => ?_, fun h => absurd hf h⟩
    rw [pack_Unpack_uint64.l0, if_neg (by omega)]
  | succ d ih =>
    intro k i hi hf hk
    obtain ⟨k, rfl⟩ : ∃ m, k = m + 1 := ⟨k - 1, by omega⟩
    have hbd : i * w ≤ 16777216 * 64 := Nat.mul_le_mul (by omega) hw
    have hlen := lanesOf_length w i (num l)
    have hp := Nat.two_pow_pos w
    have hp2 : 2 ^ w ≤ 2 ^ 64 := Nat.pow_le_pow_right (by decide) hw
    rw [pack_Unpack_uint64.l0, if_pos (by omega), show (i : Int) * (w : Int) = ((i * w : Nat) : Int) from (Int.natCast_mul _ _).symm, w64 (n := ((i * w : Nat) : Int)) (by omega) (by omega),
      word_nonneg l hb hl (i * w) (by omega) k (by omega), mask_is w hw]
    simp only [Option.bind_some]
    rw [and_u64 (Nat.mod_lt _ (by decide)) (by omega), and_mask, Nat.mod_mod_of_dvd _ (Nat.pow_dvd_pow 2 hw)]
    have hv : num l / 2 ^ (i * w) % 2 ^ w < 2 ^ w := Nat.mod_lt _ hp
    have hsucc := lanesOf_succ w i (num l)
    generalize hx : num l / 2 ^ (i * w) % 2 ^ w = x at hv hsucc ⊢
    rw [if_pos (by omega), w64 (by omega) (by omega), ← hsucc]
    refine ih k (i + 1) (by omega) ?_ (by omega)
    rw [hsucc]
    exact Fit.append.2 ⟨hf, Fit.cons.2 ⟨⟨by omega, by rw [Int.toNat_natCast]; omega⟩, fun _ h => by cases h⟩⟩
/-- Unpack of lanes that are there. -/
theorem uint64_unpack (l : List Int) (hb : Bytes l) (hl : l.length ≤ 1152921504606846975) (w n : Nat) (hw : w ≤ 64) (hn : n ≤ 16777216) (k : Nat) (hk : n + 17 ≤ k) (hlen : l.length = (n * w + 7) / 8) (hN : num l < 2 ^ (n * w)) :
    (Fit 64 (lanesOf w n (num l)) → pack_Unpack_uint64.f k l (w : Int) (n : Int) = some (lanesOf w n (num l), 0)) ∧ (¬ Fit 64 (lanesOf w n (num l)) → pack_Unpack_uint64.f k l (w : Int) (n : Int) = some ([], 21)) := by
  have hbd : n * w ≤ 16777216 * 64 := Nat.mul_le_mul hn hw
  have h := uint64_ul0 l hb hl w n hw hn n k 0 (by omega) (fun _ h => by simp [lanesOf] at h) hk
  unfold pack_Unpack_uint64.f
  rw [may_is, bytes_ok n w hn hw]
  simp only [Option.bind_some]
  rw [if_pos (by simp; omega), if_pos trivial, if_neg (by omega), if_neg (by omega), show (n : Int) * (w : Int) = ((n * w : Nat) : Int) from (Int.natCast_mul _ _).symm, w64 (n := ((n * w : Nat) : Int)) (by omega) (by omega),
    word_nonneg l hb hl (n * w) (by omega) k (by omega), Nat.div_eq_of_lt hN]
  simp only [Option.bind_some]
  rw [if_pos (by simp), if_pos (by omega), if_pos (by omega)]
  exact h
/-- Unpack of what is no lanes. -/
theorem uint64_unpack_not (l : List Int) (hb : Bytes l) (hl : l.length ≤ 1152921504606846975) (w n : Int) (hn : -9223372036854775808 ≤ n) (k : Nat) (hk : 17 ≤ k) (h : ¬ (0 ≤ w ∧ w ≤ 64 ∧ 0 ≤ n ∧ n ≤ 16777216 ∧ l.length = (n.toNat * w.toNat + 7) / 8 ∧ num l < 2 ^ (n.toNat * w.toNat))) :
    ∃ e : Int, pack_Unpack_uint64.f k l w n = some ([], e) ∧ e = (if w < 0 ∨ 64 < w then 20 else if n < 0 then 2 else if 16777216 < n then 3 else if l.length < (n.toNat * w.toNat + 7) / 8 then 22 else 23) := by
  unfold pack_Unpack_uint64.f
  rw [may_is]
  simp only [Option.bind_some]
  by_cases h1 : w < 0 ∨ 64 < w
  · rw [if_neg (by simp; omega), if_pos h1]; exact ⟨20, rfl, rfl⟩
  · rw [if_pos (by simp; omega), if_neg h1]
    obtain ⟨w, rfl⟩ : ∃ w' : Nat, w = (w' : Int) := ⟨w.toNat, by omega⟩
    by_cases h2 : n < 0
    · rw [if_pos h2]
      unfold pack_Bytes.f
      rw [if_pos h2]
      exact ⟨2, by simp, rfl⟩
    · rw [if_neg h2]
      by_cases h3 : 16777216 < n
      · rw [if_pos h3]
        unfold pack_Bytes.f
        rw [if_neg h2, if_pos (by omega)]
        exact ⟨3, by simp, rfl⟩
      · rw [if_neg h3]
        obtain ⟨n, rfl⟩ : ∃ n' : Nat, n = (n' : Int) := ⟨n.toNat, by omega⟩
        have hbd : n * w ≤ 16777216 * 64 := Nat.mul_le_mul (by omega) (by omega)
        rw [bytes_ok n w (by omega) (by omega)]
        simp only [Option.bind_some, Int.toNat_natCast] at h ⊢
        rw [if_pos trivial]
        by_cases h4 : l.length < (n * w + 7) / 8
        · rw [if_pos (by omega), if_pos h4]; exact ⟨22, rfl, rfl⟩
        · rw [if_neg (by omega), if_neg h4]
          by_cases h5 : (n * w + 7) / 8 < l.length
          · rw [if_pos (by omega)]; exact ⟨23, rfl, rfl⟩
          · rw [if_neg (by omega), show (n : Int) * (w : Int) = ((n * w : Nat) : Int) from (Int.natCast_mul _ _).symm, w64 (n := ((n * w : Nat) : Int)) (by omega) (by omega), word_nonneg l hb hl (n * w) (by omega) k (by omega)]
            simp only [Option.bind_some]
            rw [if_neg]
            · exact ⟨23, rfl, rfl⟩
            · intro h6
              refine h ⟨by omega, by omega, by omega, by omega, by omega, ?_⟩
              have h7 := num_lt hb
              rw [pow256] at h7
              have h8 : num l / 2 ^ (n * w) < 2 ^ 64 := by
                rw [Nat.div_lt_iff_lt_mul (Nat.two_pow_pos _), ← Nat.pow_add]
                exact Nat.lt_of_lt_of_le h7 (Nat.pow_le_pow_right (by decide) (by omega))
              rw [Nat.mod_eq_of_lt h8] at h6
              have h9 : num l / 2 ^ (n * w) = 0 := by omega
              have := (Nat.div_eq_zero_iff (a := num l) (b := 2 ^ (n * w))).1 h9
              have hp := Nat.two_pow_pos (n * w)
              omega
end Go.Proofs.Ythfgelbbcdgopaa.S
