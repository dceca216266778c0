/- Words of 64 bits that lie over one another agree in what they share; bits that are not there are 0. No condition: every input. -/
import Derived.Test.YtigjihomdnkepaaSx7
import Derived.Test.YtigjihomdnkepaaQFit
set_option linter.unusedVariables false
set_option linter.unusedSimpArgs false
namespace Go.Proofs.Ytigjihomdnkepaa.Pure
open Go.RowKit Go.Proofs.Ytigjihomdnkepaa.S Go.Proofs.YtigjihomdnkepaaV Go.Proofs.YtigjihomdnkepaaW.PrintWords Go.Proofs.YtigjihomdnkepaaW.PrintLast Go.Proofs.YtigjihomdnkepaaW.PrintMore

/-- What Word answers. -/
def wd (l : List Int) (bit : Int) : Nat := if bit ≤ -64 then 0 else wordOf l bit
theorem wd_lt (l : List Int) (bit : Int) : wd l bit < 2 ^ 64 := by unfold wd; split; exact Nat.two_pow_pos _; exact wordOf_lt l bit
theorem word_wd (l : List Int) (hb : Bytes l) (hl : l.length ≤ 1152921504606846975) (bit : Int) (h1 : -9223372036854775808 ≤ bit) (h2 : bit ≤ 9223372036854775807) (k : Nat) (hk : 16 ≤ k) :
    pack_Word.f k l bit = some (wd l bit : Int) := by
  rw [word_is l hb hl bit h1 h2 k hk]
  unfold wd
  split <;> simp
/-- The bits of a word, one by one. -/
theorem wd_bit (l : List Int) (bit : Int) (j : Nat) (hj : j < 64) : (wd l bit).testBit j = (decide (0 ≤ bit + j) && (num l).testBit (bit + j).toNat) := by
  unfold wd
  by_cases h : bit ≤ -64
  · rw [if_pos h]
    have : ¬ (0 ≤ bit + (j : Int)) := by omega
    simp [this]
  · rw [if_neg h]
    unfold wordOf
    by_cases h0 : bit < 0
    · rw [if_pos h0, Nat.testBit_mod_two_pow, Nat.testBit_mul_two_pow]
      by_cases h1 : 0 ≤ bit + (j : Int)
      · rw [show (bit + (j : Int)).toNat = j - (-bit).toNat by omega]
        have : (-bit).toNat ≤ j := by omega
        simp [hj, h1, this]
      · have : ¬ ((-bit).toNat ≤ j) := by omega
        simp [h1, this]
    · rw [if_neg h0, Nat.testBit_mod_two_pow, Nat.testBit_div_two_pow, show (bit + (j : Int)).toNat = j + bit.toNat by omega]
      have h1 : 0 ≤ bit + (j : Int) := by omega
      simp [hj, h1]
theorem wd_shift (l : List Int) (bit : Int) (s : Nat) (h0 : 0 < s) (h1 : s < 64) : wd l (bit + s) = wd l bit / 2 ^ s ||| wd l (bit + 64) * 2 ^ (64 - s) % 2 ^ 64 := by
  apply Nat.eq_of_testBit_eq
  intro j
  rw [Nat.testBit_or, Nat.testBit_div_two_pow, Nat.testBit_mod_two_pow, Nat.testBit_mul_two_pow]
  by_cases hj : j < 64
  · rw [wd_bit l _ j hj]
    by_cases hjs : j + s < 64
    · rw [wd_bit l bit (j + s) hjs]
      have : ¬ (64 - s ≤ j) := by omega
      simp only [this, decide_false, Bool.false_and, Bool.and_false, Bool.or_false]
      rw [show bit + (s : Int) + (j : Int) = bit + ((j + s : Nat) : Int) by omega]
    · have hlt : (wd l bit).testBit (j + s) = false := Nat.testBit_lt_two_pow (Nat.lt_of_lt_of_le (wd_lt l bit) (Nat.pow_le_pow_right (by decide) (by omega)))
      have : 64 - s ≤ j := by omega
      rw [hlt, wd_bit l _ (j - (64 - s)) (by omega)]
      simp only [this, hj, decide_true, Bool.true_and, Bool.false_or]
      rw [show bit + 64 + ((j - (64 - s) : Nat) : Int) = bit + (s : Int) + (j : Int) by omega]
  · have h2 : (wd l (bit + s)).testBit j = false := Nat.testBit_lt_two_pow (Nat.lt_of_lt_of_le (wd_lt l _) (Nat.pow_le_pow_right (by decide) (by omega)))
    have h3 : (wd l bit).testBit (j + s) = false := Nat.testBit_lt_two_pow (Nat.lt_of_lt_of_le (wd_lt l bit) (Nat.pow_le_pow_right (by decide) (by omega)))
    simp [h2, h3, hj]
theorem wd_far (l : List Int) (hb : Bytes l) (bit : Int) (h : 8 * (l.length : Int) ≤ bit) : wd l bit = 0 := by
  unfold wd wordOf
  rw [if_neg (by omega), if_neg (by omega)]
  have h1 := num_lt hb
  rw [pow256] at h1
  rw [Nat.div_eq_of_lt (Nat.lt_of_lt_of_le h1 (Nat.pow_le_pow_right (by decide) (by omega)))]
theorem PackShifts : colonnadelaw02_PackShifts.Pure := by
  intro l a1 a2 hm hs hwf hw1 hw2
  have hb := Bytes.of_wf hwf
  have h1 := wf_i64.1 hw1
  have h2 := wf_u8.1 hw2
  obtain ⟨K, hK⟩ : ∃ K : Nat, K = 100 := ⟨_, rfl⟩
  refine ⟨K + 1, ?_⟩
  unfold colonnadelaw02_PackShifts.f
  rw [awake_is (K + 1) (by omega)]
  simp only [Option.bind_some, if_true]
  obtain ⟨y, rfl⟩ := Int.eq_ofNat_of_zero_le h2.1
  obtain ⟨s, hs2⟩ : ∃ s : Nat, s = y % 64 := ⟨_, rfl⟩
  rw [show Int.tmod (y : Int) 64 = ((y % 64 : Nat) : Int) from tmod_nat y 64, ← hs2, w64 (n := (s : Int)) (by omega) (by omega)]
  have hW := fun (bit : Int) h3 h4 => word_wd l hb (by omega) bit h3 h4 K (by omega)
  have far : ∀ bit : Int, 1152921504606846976 < bit ∨ bit < -1152921504606846976 → wd l bit = 0 := by
    intro bit h
    rcases h with h | h
    · exact wd_far l hb bit (by omega)
    · unfold wd; rw [if_pos (by omega)]
  by_cases h3 : a1 > 1152921504606846976
  · rw [if_pos h3, colonnadelaw02_PackShifts.j0, if_pos rfl, hW a1 (by omega) (by omega), far a1 (.inl h3)]
    rfl
  · rw [if_neg h3, colonnadelaw02_PackShifts.j0]
    by_cases h4 : a1 < -1152921504606846976
    · rw [if_pos (by simpa using h4), hW a1 (by omega) (by omega), far a1 (.inr h4)]
      rfl
    · rw [if_neg (by simpa using h4), w64 (n := a1 + (s : Int)) (by omega) (by omega), w64 (n := a1 + 64) (by omega) (by omega), w64 (n := 8 * (l.length : Int)) (by omega) (by omega), wrap_u64 (s : Int), show (s : Int) % 18446744073709551616 = (s : Int) by omega]
      rw [hW a1 (by omega) (by omega), hW (a1 + s) (by omega) (by omega), hW (a1 + 64) (by omega) (by omega), hW (8 * (l.length : Int)) (by omega) (by omega), hW (-64) (by omega) (by omega)]
      simp only [Option.bind_some]
      rw [if_pos (by omega), wd_far l hb (8 * (l.length : Int)) (by omega), show wd l (-64) = 0 from by unfold wd; rw [if_pos (by omega)]]
      have hz : (Go.bits .or .u64 ((0 : Nat) : Int) ((0 : Nat) : Int) == 0) = true := by decide
      by_cases h0 : (s : Int) > 0
      · rw [if_pos h0, w64 (n := 64 - (s : Int)) (by omega) (by omega), wrap_u64 (64 - (s : Int)), show (64 - (s : Int)) % 18446744073709551616 = ((64 - s : Nat) : Int) by omega, if_pos (by omega)]
        rw [shr_u64' (by omega), shl_u64' (by omega), or_u64 (Nat.lt_of_le_of_lt (Nat.div_le_self _ _) (wd_lt l a1)) (Nat.mod_lt _ (by decide)), wd_shift l a1 s (by omega) (by omega)]
        rw [if_pos rfl, hz]
      · have hs0 : s = 0 := by omega
        subst hs0
        rw [if_neg h0, shr_u64' (by omega), if_pos (by simp), hz]
end Go.Proofs.Ytigjihomdnkepaa.Pure
