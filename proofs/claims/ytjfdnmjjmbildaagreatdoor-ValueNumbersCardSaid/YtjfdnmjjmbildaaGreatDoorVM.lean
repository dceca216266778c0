/- Seat value: numbers that are written again as they were; sums with nought, differences with themselves, products with one. -/
import Derived.Test.YtjfdnmjjmbildaaGreatDoorVC
namespace Go.Ax
open Go.Proofs Ieee
set_option linter.unusedVariables false
set_option linter.unusedSimpArgs false

theorem cut_all {s : Bool} {m j : Nat} (h0 : 0 < m) : Toward.even.cut s (m * 2 ^ j) j = m := by
  have hp := Nat.two_pow_pos j
  have n0 : m * 2 ^ j ≠ 0 := Nat.mul_ne_zero (by omega) (by omega)
  have hj : j ≤ (m * 2 ^ j).log2 := by
    rw [Nat.le_log2 n0]
    exact Nat.le_mul_of_pos_left _ h0
  unfold Toward.cut
  have h3 : min j ((m * 2 ^ j).log2 + 2) = j := by omega
  simp only [h3, Nat.one_shiftLeft]
  have h5 : m * 2 ^ j % 2 ^ j = 0 := Nat.mul_mod_left _ _
  have h6 : m * 2 ^ j / 2 ^ j = m := Nat.mul_div_cancel _ hp
  simp only [h5, h6]
  simp

theorem log2_mul_pow {m j : Nat} (h0 : 0 < m) : (m * 2 ^ j).log2 = m.log2 + j := by
  have hp := Nat.two_pow_pos j
  have n0 : m * 2 ^ j ≠ 0 := Nat.mul_ne_zero (by omega) (by omega)
  have a1 := Nat.log2_self_le (n := m) (by omega)
  have a2 := Nat.lt_log2_self (n := m)
  apply Nat.le_antisymm
  · have : (m * 2 ^ j).log2 < m.log2 + j + 1 := by
      rw [Nat.log2_lt n0, show m.log2 + j + 1 = (m.log2 + 1) + j by omega, Nat.pow_add]
      exact Nat.mul_lt_mul_of_pos_right a2 hp
    omega
  · rw [Nat.le_log2 n0, Nat.pow_add]
    exact Nat.mul_le_mul_right _ a1

/-- A number that a word holds is written as that word's rung. -/
theorem near_fin {a : Nat} (hf : fin a) (h0 : rg a ≠ 0) (s : Bool) (j : Nat) : double.nearest s (mn a * 2 ^ j) (-1074 + (ex a : Int) - j) = double.word s (rg a) := by
  have e1 : double.leastPlace = -1074 := rfl
  have e2 : double.infRung = 9218868437227405312 := rfl
  have e4 : double.binade = 4503599627370496 := rfl
  have e5 : (double.fractionBits : Int) = 52 := rfl
  have m0 : 0 < mn a := by
    unfold mn
    split <;> omega
  have hp := Nat.two_pow_pos j
  have n0 : mn a * 2 ^ j ≠ 0 := Nat.mul_ne_zero (by omega) (by omega)
  unfold Format.nearest
  rw [if_neg n0]
  simp only [e1, e2, e4, e5]
  rw [log2_mul_pow m0]
  unfold fin at hf
  have hlast : max (-1074 + (ex a : Int) - j + ((mn a).log2 + j : Nat) - 52) (-1074) = -1074 + (ex a : Int) := by
    by_cases hb : rg a < 4503599627370496
    · have h1 : ex a = 0 := by unfold ex; omega
      have h2 : mn a = rg a := by unfold mn; rw [if_pos hb]
      have h3 : (mn a).log2 < 52 := by
        rw [Nat.log2_lt (by omega), h2]
        exact hb
      omega
    · obtain ⟨k1, k2⟩ := mn_pos (a := a) (by omega)
      have h3 : (mn a).log2 < 53 := by
        rw [Nat.log2_lt (by omega)]
        exact k2
      have h4 : 52 ≤ (mn a).log2 := by
        rw [Nat.le_log2 (by omega)]
        exact k1
      omega
  rw [hlast]
  have h1 : (-1074 + (ex a : Int) - j - (-1074 + (ex a : Int))).toNat = 0 := by omega
  have h2 : (-1074 + (ex a : Int) - (-1074 + (ex a : Int) - j)).toNat = j := by omega
  have h3 : (-1074 + (ex a : Int) - -1074).toNat = ex a := by omega
  rw [h1, h2, h3, Nat.shiftLeft_zero, cut_all m0]
  have h4 : ex a * 4503599627370496 + mn a = rg a := by
    unfold ex mn
    split <;> omega
  rw [h4, Nat.min_eq_left (by omega)]

theorem word_self {a : Nat} (h : a < 18446744073709551616) : double.word (sgn a) (rg a) = a := by
  have e := word_split h
  have e1 : double.signWeight = 9223372036854775808 := rfl
  unfold Format.word
  rw [e1]
  cases hs : sgn a <;> rw [hs] at e <;> simp at e ⊢ <;> omega

theorem word_pos (r : Nat) : double.word false r = r := rfl

theorem write_zero (s : Bool) (p : Int) : double.write (.number s 0 p) = double.word s 0 := by
  show double.nearest s 0 p = _
  unfold Format.nearest
  rw [if_pos rfl]

/-- What is made of a number: it, but nought has no sign. -/
def made (a : Nat) : Nat := if rg a = 0 then 0 else a

theorem add_nought {a : Nat} (ha : a < 18446744073709551616) (hf : fin a) : double.add a 0 = some (made a) := by
  unfold Format.add
  have f0 : fin 0 := by unfold fin rg; omega
  rw [read_fin hf, read_fin f0]
  have x0 : ex 0 = 0 := rfl
  have m0 : mn 0 = 0 := rfl
  have s0 : sgn 0 = false := rfl
  simp only [Datum.sum, x0, m0, s0, Option.map_some]
  have h1 : min (-1074 + (ex a : Int)) (-1074 + ((0 : Nat) : Int)) = -1074 := by omega
  have h2 : (-1074 + (ex a : Int) - -1074).toNat = ex a := by omega
  have h3 : (-1074 + ((0 : Nat) : Int) - -1074).toNat = 0 := by omega
  rw [h1, h2, h3]
  have h4 : signed (sgn a) (mn a) (ex a) + signed false 0 0 = V a := by
    rw [signed_nat, signed_nat]
    unfold V mag
    simp
  rw [h4]
  congr 1
  by_cases hz : rg a = 0
  · have hv : V a = 0 := V_zero.2 hz
    rw [hv, if_pos rfl, Bool.and_false]
    unfold made
    rw [if_pos hz]
    exact write_zero _ _
  · have hv : V a ≠ 0 := fun e => hz (V_zero.1 e)
    unfold made
    rw [if_neg hv, if_neg hz]
    have e1 : decide (V a < 0) = sgn a := by
      have hm : 0 < mag a := Nat.pos_of_ne_zero fun e => hz (mag_zero.1 e)
      cases hs : sgn a with
      | true => rw [V_neg hs]; exact decide_eq_true (by omega)
      | false => rw [V_pos hs]; exact decide_eq_false (by omega)
    have e2 : (V a).natAbs = mn a * 2 ^ ex a := by
      unfold V mag
      split <;> omega
    rw [e1, e2]
    have := near_fin hf hz (sgn a) (ex a)
    rw [show -1074 + (ex a : Int) - (ex a : Int) = -1074 by omega, word_self ha] at this
    exact this

theorem sub_self {a : Nat} (hf : fin a) : double.sub a a = some 0 := by
  unfold Format.sub
  rw [read_fin hf]
  simp only [Datum.opposite, Datum.sum, Option.map_some]
  rw [signed_nat, signed_nat]
  have h : (if sgn a = true then -((mn a * 2 ^ (-1074 + (ex a : Int) - min (-1074 + (ex a : Int)) (-1074 + (ex a : Int))).toNat : Nat) : Int) else ((mn a * 2 ^ (-1074 + (ex a : Int) - min (-1074 + (ex a : Int)) (-1074 + (ex a : Int))).toNat : Nat) : Int)) +
      (if (!sgn a) = true then -((mn a * 2 ^ (-1074 + (ex a : Int) - min (-1074 + (ex a : Int)) (-1074 + (ex a : Int))).toNat : Nat) : Int) else ((mn a * 2 ^ (-1074 + (ex a : Int) - min (-1074 + (ex a : Int)) (-1074 + (ex a : Int))).toNat : Nat) : Int)) = 0 := by
    cases sgn a <;> simp <;> omega
  rw [h, if_pos rfl]
  congr 1
  have e : (sgn a && !sgn a) = false := by cases sgn a <;> rfl
  rw [e]
  exact write_zero _ _

theorem sub_none {a : Nat} (hf : ¬ fin a) : double.sub a a = none := by
  unfold Format.sub
  unfold fin at hf
  by_cases h : rg a = 9218868437227405312
  · rw [read_inf h]
    simp [Datum.opposite, Datum.sum]
  · obtain ⟨t, e⟩ := read_nan (a := a) (by omega)
    rw [e]; rfl

theorem rg_parts (a : Nat) : mn (rg a) = mn a ∧ ex (rg a) = ex a ∧ sgn (rg a) = false := by
  have h := rg_rg a
  refine ⟨by unfold mn; rw [h], by unfold ex; rw [h], ?_⟩
  have := rg_lt a
  unfold sgn
  rw [show rg a / 9223372036854775808 = 0 by omega]
  rfl

theorem mul_one {a : Nat} (hf : fin a) (h0 : rg a ≠ 0) (s : Bool) : double.mul (rg a) (if s then 13830554455654793216 else 4607182418800017408) = some (double.word s (rg a)) := by
  unfold Format.mul
  obtain ⟨r1, r2, r3⟩ := rg_parts a
  have hf' : fin (rg a) := by unfold fin; rw [rg_rg]; exact hf
  have e : double.read (if s then 13830554455654793216 else 4607182418800017408) = .number s 4503599627370496 (-52) := by
    cases s <;> rfl
  rw [read_fin hf', e, r1, r2, r3]
  simp only [Datum.product, Option.map_some]
  congr 1
  have := near_fin hf h0 s 52
  show double.nearest (false ^^ s) (mn a * 4503599627370496) (-1074 + (ex a : Int) + -52) = _
  rw [Bool.false_xor]
  exact this

theorem mul_nought : double.mul 0 4607182418800017408 = some 0 := rfl

end Go.Ax
