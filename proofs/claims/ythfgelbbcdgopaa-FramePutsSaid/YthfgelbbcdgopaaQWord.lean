/- Word, mask, Bytes of the program: bytes as one number, its bits from a place on. -/
import Derived.Test.YthfgelbbcdgopaaSx12
import Derived.Test.YthfgelbbcdgopaaSx8
import Derived.Test.YthfgelbbcdgopaaVB
set_option linter.unusedVariables false
set_option linter.unusedSimpArgs false
namespace Go.Proofs.Ythfgelbbcdgopaa.S
open Go.RowKit Go.Proofs.YthfgelbbcdgopaaV Go.Proofs.YthfgelbbcdgopaaW.PrintWords Go.Proofs.YthfgelbbcdgopaaW.PrintLast Go.Proofs.YthfgelbbcdgopaaW.PrintMore

/-- The 64 bits from a bit on. -/
def wordOf (l : List Int) (bit : Int) : Nat := if bit < 0 then num l * 2 ^ (-bit).toNat % 2 ^ 64 else num l / 2 ^ bit.toNat % 2 ^ 64
theorem wordOf_lt (l : List Int) (bit : Int) : wordOf l bit < 2 ^ 64 := by unfold wordOf; split <;> exact Nat.mod_lt _ (Nat.two_pow_pos _)
theorem rd_nat {l : List Int} (h : Bytes l) (i : Nat) : ∃ b : Nat, rd l (i : Int) = (b : Int) ∧ b < 256 ∧ (l.getD i 0).toNat = b := by
  have := h.get i
  unfold rd
  rw [Int.toNat_natCast]
  exact ⟨(l.getD i 0).toNat, by omega, by omega, rfl⟩
theorem num_take_succ {l : List Int} (h : Bytes l) (i : Nat) (hi : i < l.length) : num (l.take (i + 1)) = num (l.take i) + 256 ^ i * (l.getD i 0).toNat := by
  rw [List.take_succ_eq_append_getElem hi, num_append, List.length_take, Nat.min_eq_left (by omega), List.getD_eq_getElem?_getD, List.getElem?_eq_getElem hi]
  simp [num]
theorem join_words (R s : Nat) (h0 : 0 < s) (h8 : s < 8) : (R % 2 ^ 64) / 2 ^ s ||| (R / 2 ^ 64 % 256) * 2 ^ (64 - s) % 2 ^ 64 = R / 2 ^ s % 2 ^ 64 := by
  have hp : (2 : Nat) ^ 64 = 2 ^ (64 - s) * 2 ^ s := by rw [← Nat.pow_add]; congr 1; omega
  have hlt : (R % 2 ^ 64) / 2 ^ s < 2 ^ (64 - s) := by
    rw [Nat.div_lt_iff_lt_mul (Nat.two_pow_pos s), ← hp]; exact Nat.mod_lt _ (Nat.two_pow_pos _)
  have h1 : (R / 2 ^ 64 % 256) * 2 ^ (64 - s) % 2 ^ 64 = (R / 2 ^ 64 % 2 ^ s) * 2 ^ (64 - s) := by
    rw [Nat.mul_comm _ (2 ^ (64 - s)), hp, Nat.mul_mod_mul_left, ← hp, Nat.mul_comm]
    congr 1
    rw [show (256 : Nat) = 2 ^ s * 2 ^ (8 - s) by rw [← Nat.pow_add, show s + (8 - s) = 8 by omega], Nat.mod_mul_right_mod]
  have h2 : R / 2 ^ s % 2 ^ (64 - s) = (R % 2 ^ 64) / 2 ^ s := by
    rw [show (2 : Nat) ^ 64 = 2 ^ s * 2 ^ (64 - s) by rw [← Nat.pow_add]; congr 1; omega, Nat.mod_mul_right_div_self]
  have h3 : R / 2 ^ s / 2 ^ (64 - s) = R / 2 ^ 64 := by rw [Nat.div_div_eq_div_mul, ← Nat.pow_add, show s + (64 - s) = 64 by omega]
  have h4 : R / 2 ^ s % 2 ^ 64 = R / 2 ^ s % 2 ^ (64 - s) + 2 ^ (64 - s) * (R / 2 ^ s / 2 ^ (64 - s) % 2 ^ s) := by rw [hp]; exact Nat.mod_mul
  rw [h1, or_add hlt, h4, h2, h3, Nat.mul_comm (2 ^ (64 - s))]
theorem word_l0 (rest : List Int) (hb : Bytes rest) (hl : rest.length ≤ 1152921504606846975) (bit : Nat) (d : Nat) : ∀ (k i : Nat), i ≤ min 8 rest.length → min 8 rest.length - i = d → d < k →
    pack_Word.l0 k (bit : Int) (num (rest.take i) : Int) rest ((min 8 rest.length : Nat) : Int) (i : Int) = some ((num rest / 2 ^ (bit % 8) % 2 ^ 64 : Nat) : Int) := by
  induction d with
  | zero =>
    intro k i h1 h2 h3
    obtain ⟨k, rfl⟩ : ∃ m, k = m + 1 := ⟨k - 1, by omega⟩
    rw [pack_Word.l0]
    rw [if_neg (by omega)]
    have hs : Int.tmod (bit : Int) 8 = ((bit % 8 : Nat) : Int) := tmod_nat bit 8
    have hm : bit % 8 < 8 := Nat.mod_lt _ (by decide)
    have hi : i = min 8 rest.length := by omega
    rw [hs]
    generalize bit % 8 = s at hm ⊢
    rw [if_pos (by omega)]
    have hv : num (rest.take i) = num rest % 2 ^ 64 := by
      subst hi
      by_cases h8 : rest.length ≤ 8
      · rw [Nat.min_eq_right h8, List.take_of_length_le (Nat.le_refl _), Nat.mod_eq_of_lt]
        have := num_lt hb
        have h256 : 256 ^ rest.length ≤ 256 ^ 8 := Nat.pow_le_pow_right (by decide) h8
        omega
      · rw [Nat.min_eq_left (by omega), num_take hb]
    rw [hv]
    have hvlt : num rest % 2 ^ 64 < 2 ^ 64 := Nat.mod_lt _ (Nat.two_pow_pos _)
    have hplain : shr .u64 ((num rest % 2 ^ 64 : Nat) : Int) (s : Int) = ((num rest % 2 ^ 64 / 2 ^ s : Nat) : Int) := shr_u64' (by omega)
    by_cases h0 : s = 0
    · subst h0
      rw [if_neg (by omega), hplain]
      simp
    · rw [if_pos (by omega)]
      by_cases h8 : rest.length ≤ 8
      · rw [if_neg (by omega), hplain]
        have h1 := num_lt hb
        have h256 : 256 ^ rest.length ≤ 256 ^ 8 := Nat.pow_le_pow_right (by decide) h8
        have hR : num rest < 2 ^ 64 := by omega
        rw [Nat.mod_eq_of_lt hR, Nat.mod_eq_of_lt (Nat.lt_of_le_of_lt (Nat.div_le_self _ _) hR)]
      · rw [if_pos (by omega), if_pos (by omega)]
        obtain ⟨b, hb1, hb2, hb3⟩ := rd_nat hb 8
        rw [show rd rest 8 = (b : Int) from hb1]
        rw [wrap_u64, show (b : Int) % 18446744073709551616 = (b : Int) by omega, w64 (by omega) (by omega), if_pos (by omega)]
        rw [show (64 : Int) - (s : Int) = ((64 - s : Nat) : Int) by omega, shl_u64' (by omega), hplain]
        rw [or_u64 (by exact Nat.lt_of_le_of_lt (Nat.div_le_self _ _) hvlt) (Nat.mod_lt _ (by decide))]
        congr 2
        have h4 := num_get hb 8
        rw [hb3] at h4
        rw [← join_words (num rest) s (by omega) hm, h4]
  | succ d ih =>
    intro k i h1 h2 h3
    obtain ⟨k, rfl⟩ : ∃ m, k = m + 1 := ⟨k - 1, by omega⟩
    rw [pack_Word.l0]
    rw [if_pos (by omega), if_pos (by omega), if_pos (by omega), w64 (by omega) (by omega), if_pos (by omega), w64 (by omega) (by omega)]
    obtain ⟨b, hb1, hb2, hb3⟩ := rd_nat hb i
    rw [hb1, wrap_u64, show (b : Int) % 18446744073709551616 = (b : Int) by omega, show (8 : Int) * (i : Int) = ((8 * i : Nat) : Int) by omega, shl_u64' (by omega)]
    have hpw : b * 2 ^ (8 * i) < 2 ^ 64 := by
      have hp1 : 2 ^ (8 * i) ≤ 2 ^ 56 := Nat.pow_le_pow_right (by decide) (by omega)
      have : b * 2 ^ (8 * i) ≤ 255 * 2 ^ 56 := Nat.mul_le_mul (by omega) hp1
      omega
    have hn1 := num_lt (hb.take i)
    rw [List.length_take, Nat.min_eq_left (by omega)] at hn1
    have hn2 : 256 ^ i ≤ 256 ^ 8 := Nat.pow_le_pow_right (by decide) (by omega)
    rw [show b * 2 ^ (8 * i) % 18446744073709551616 = b * 2 ^ (8 * i) from Nat.mod_eq_of_lt hpw, or_u64 (by omega) hpw, or_add (by rw [← pow256]; exact hn1)]
    have hts := num_take_succ hb i (by omega)
    rw [hb3, Nat.mul_comm, pow256] at hts
    rw [← hts]
    exact ih k (i + 1) (by omega) (by omega) (by omega)
theorem word_nonneg (l : List Int) (hb : Bytes l) (hl : l.length ≤ 1152921504606846975) (bit : Nat) (hbit : bit ≤ 9223372036854775807) (k : Nat) (hk : 12 ≤ k) :
    pack_Word.f k l (bit : Int) = some ((num l / 2 ^ bit % 2 ^ 64 : Nat) : Int) := by
  obtain ⟨k, rfl⟩ : ∃ m, k = m + 2 := ⟨k - 2, by omega⟩
  rw [pack_Word.f, if_neg (by omega), pack_Word.j0, w64 (n := 8 * (l.length : Int)) (by omega) (by omega)]
  by_cases h : (bit : Int) ≥ 8 * (l.length : Int)
  · rw [if_pos (by simpa using h)]
    have h1 := num_lt hb
    rw [pow256] at h1
    have h2 : 2 ^ (8 * l.length) ≤ 2 ^ bit := Nat.pow_le_pow_right (by decide) (by omega)
    rw [Nat.div_eq_of_lt (by omega)]
    rfl
  · have ht : Int.tdiv (bit : Int) 8 = ((bit / 8 : Nat) : Int) := tdiv_nat bit 8
    rw [if_neg (by simpa using h), if_neg (by omega), ht, w64 (by omega) (by omega), if_pos (by omega), if_pos (by omega), Int.toNat_natCast, Option.bind_some]
    have hm : mn 8 ((l.drop (bit / 8)).length : Int) = ((min 8 (l.drop (bit / 8)).length : Nat) : Int) := by unfold mn; split <;> omega
    rw [hm]
    have h3 := word_l0 (l.drop (bit / 8)) (hb.drop _) (by simp; omega) bit (min 8 (l.drop (bit / 8)).length) k 0 (by omega) (by omega) (by omega)
    rw [List.take_zero] at h3
    rw [show ((num [] : Nat) : Int) = 0 from rfl, show ((0 : Nat) : Int) = 0 from rfl] at h3
    rw [h3, num_drop hb, pow256, Nat.div_div_eq_div_mul, ← Nat.pow_add, show 8 * (bit / 8) + bit % 8 = bit by omega]
/-- Word. -/
theorem word_is (l : List Int) (hb : Bytes l) (hl : l.length ≤ 1152921504606846975) (bit : Int) (h1 : -9223372036854775808 ≤ bit) (h2 : bit ≤ 9223372036854775807) (k : Nat) (hk : 16 ≤ k) :
    pack_Word.f k l bit = some (if bit ≤ -64 then 0 else (wordOf l bit : Int)) := by
  by_cases h0 : 0 ≤ bit
  · obtain ⟨n, rfl⟩ := Int.eq_ofNat_of_zero_le h0
    rw [word_nonneg l hb (by omega) n (by omega) k (by omega), if_neg (by omega)]
    unfold wordOf
    rw [if_neg (by omega), Int.toNat_natCast]
  · obtain ⟨k, rfl⟩ : ∃ m, k = m + 2 := ⟨k - 2, by omega⟩
    rw [pack_Word.f]
    by_cases h3 : bit ≤ -64
    · rw [if_pos h3, if_pos h3, pack_Word.j0, if_pos rfl]
    · rw [if_neg h3, if_neg h3, w64 (by omega) (by omega), pack_Word.j0, if_neg (by simp; omega), if_pos (by omega)]
      rw [show pack_Word.f k l 0 = pack_Word.f k l ((0 : Nat) : Int) from rfl, word_nonneg l hb (by omega) 0 (by omega) k (by omega)]
      simp only [Option.bind_some]
      rw [w64 (by omega) (by omega), if_pos (by omega)]
      obtain ⟨s, rfl⟩ : ∃ s : Nat, bit = -(s : Int) := ⟨(-bit).toNat, by omega⟩
      rw [show -(-(s : Int)) = (s : Int) by omega, shl_u64' (by omega)]
      unfold wordOf
      rw [if_pos (by omega), show (-(-(s : Int))).toNat = s by omega]
      simp only [Nat.pow_zero, Nat.div_one]
      congr 2
      rw [show (18446744073709551616 : Nat) = 2 ^ 64 from rfl, Nat.mod_mul_mod]
theorem may_is (w : Int) : pack_may.f w = some (decide (0 ≤ w ∧ w ≤ 64)) := by
  unfold pack_may.f
  by_cases h : 0 ≤ w
  · rw [if_pos h]; simp [h]
  · rw [if_neg h]; simp [h]
theorem mask_is (w : Nat) (hw : w ≤ 64) : pack_mask.f (w : Int) = some ((2 ^ w - 1 : Nat) : Int) := by
  unfold pack_mask.f
  by_cases h : (w : Int) = 64
  · rw [if_pos h, show w = 64 by omega]; rfl
  · rw [if_neg h, if_pos (by omega), show (1 : Int) = ((1 : Nat) : Int) from rfl, shl_u64' (by omega), wrap_u64]
    have h1 : 2 ^ w < 2 ^ 64 := Nat.pow_lt_pow_right (by decide) (by omega)
    have h2 := Nat.two_pow_pos w
    congr 1
    rw [Nat.one_mul, show (18446744073709551616 : Nat) = 2 ^ 64 from rfl, Nat.mod_eq_of_lt h1]
    omega
/-- How many bytes so many lanes take. -/
theorem bytes_ok (n w : Nat) (hn : n ≤ 16777216) (hw : w ≤ 64) : pack_Bytes.f (n : Int) (w : Int) = some ((((n * w + 7) / 8 : Nat) : Int), 0) := by
  have h1 : n * w ≤ 16777216 * 64 := Nat.mul_le_mul hn hw
  unfold pack_Bytes.f
  rw [if_neg (by omega), if_neg (by omega), may_is]
  simp only [Option.bind_some]
  rw [if_pos (by simp; omega), show (n : Int) * (w : Int) = ((n * w : Nat) : Int) from (Int.natCast_mul _ _).symm, w64 (n := ((n * w : Nat) : Int)) (by omega) (by omega), w64 (n := ((n * w : Nat) : Int) + 7) (by omega) (by omega)]
  rw [show Int.tdiv (((n * w : Nat) : Int) + 7) 8 = (((n * w + 7) / 8 : Nat) : Int) from tdiv_nat (n * w + 7) 8, w64 (by omega) (by omega)]
end Go.Proofs.Ythfgelbbcdgopaa.S
