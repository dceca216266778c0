/- Floats of 64 bits as whole numbers (of 2^-1074): plain laws. -/
import Derived.Test.YtjfdnmjjmbildaaGreatDoorVA
namespace Go.Ax
open Ieee (Datum Format double Toward signed)
set_option linter.unusedVariables false
set_option linter.unusedSimpArgs false

/-- A word's rung, sign, mantissa, exponent; what it is worth, in units of 2^-1074. -/
def rg (a : Nat) : Nat := a % 9223372036854775808
def sgn (a : Nat) : Bool := a / 9223372036854775808 % 2 == 1
def mn (a : Nat) : Nat := if rg a < 4503599627370496 then rg a else 4503599627370496 + rg a % 4503599627370496
def ex (a : Nat) : Nat := rg a / 4503599627370496 - 1
def mag (a : Nat) : Nat := mn a * 2 ^ ex a
def V (a : Nat) : Int := if sgn a then -(mag a : Int) else (mag a : Int)
/-- Is it a number? -/
def fin (a : Nat) : Prop := rg a < 9218868437227405312

theorem read_fin {a : Nat} (h : fin a) : double.read a = .number (sgn a) (mn a) (-1074 + (ex a : Nat)) := by
  unfold Format.read
  have e1 : double.leastPlace = -1074 := rfl
  have e2 : double.infRung = 9218868437227405312 := rfl
  have e3 : double.signWeight = 9223372036854775808 := rfl
  have e4 : double.binade = 4503599627370496 := rfl
  simp only [e1, e2, e3, e4]
  unfold mn ex sgn
  have h' : rg a < 9218868437227405312 := h
  by_cases h1 : rg a < 4503599627370496
  · have h2 : a % 9223372036854775808 < 4503599627370496 := h1
    rw [if_pos h2, if_pos h1]
    have : rg a / 4503599627370496 - 1 = 0 := by omega
    rw [this]; rfl
  · have h2 : ¬ a % 9223372036854775808 < 4503599627370496 := h1
    have h3 : a % 9223372036854775808 < 9218868437227405312 := h'
    rw [if_neg h2, if_pos h3, if_neg h1]; rfl

theorem read_inf {a : Nat} (h : rg a = 9218868437227405312) : double.read a = .infinity (sgn a) := by
  unfold Format.read
  have e2 : double.infRung = 9218868437227405312 := rfl
  have e3 : double.signWeight = 9223372036854775808 := rfl
  have e4 : double.binade = 4503599627370496 := rfl
  have h' : a % 9223372036854775808 = 9218868437227405312 := h
  simp only [e2, e3, e4, h']
  rfl

theorem read_nan {a : Nat} (h : 9218868437227405312 < rg a) : ∃ t, double.read a = .nan (sgn a) t := by
  unfold Format.read
  have e2 : double.infRung = 9218868437227405312 := rfl
  have e3 : double.signWeight = 9223372036854775808 := rfl
  have e4 : double.binade = 4503599627370496 := rfl
  have h' : 9218868437227405312 < a % 9223372036854775808 := h
  simp only [e2, e3, e4]
  rw [if_neg (by omega), if_neg (by omega), if_neg (by omega)]
  exact ⟨_, rfl⟩

theorem signed_nat (s : Bool) (m k : Nat) : signed s m k = (if s then -((m * 2 ^ k : Nat) : Int) else ((m * 2 ^ k : Nat) : Int)) := by
  unfold signed
  rw [Nat.shiftLeft_eq]

theorem signed_scale (s : Bool) (m e b : Nat) (hb : b ≤ e) : signed s m (e - b) * ((2 ^ b : Nat) : Int) = (if s then -((m * 2 ^ e : Nat) : Int) else ((m * 2 ^ e : Nat) : Int)) := by
  rw [signed_nat]
  have h : m * 2 ^ e = m * 2 ^ (e - b) * 2 ^ b := by rw [Nat.mul_assoc, ← Nat.pow_add, show e - b + b = e by omega]
  rw [h]
  cases s
  · simp only [Bool.false_eq_true, if_false]; exact (Int.natCast_mul _ _).symm
  · simp only [if_true]; rw [Int.neg_mul]; congr 1

theorem cmp_scale {x y : Int} {c : Nat} (hc : 0 < c) : compare (x * c) (y * c) = compare x y := by
  have hc' : (0 : Int) < c := by omega
  rcases Int.lt_trichotomy x y with h | h | h
  · rw [Int.compare_eq_lt.2 h, Int.compare_eq_lt.2 (Int.mul_lt_mul_of_pos_right h hc')]
  · subst h; rw [Int.compare_eq_eq.2 rfl, Int.compare_eq_eq.2 rfl]
  · rw [Int.compare_eq_gt.2 h, Int.compare_eq_gt.2 (Int.mul_lt_mul_of_pos_right h hc')]

theorem ford_fin {a b : Nat} (ha : fin a) (hb : fin b) : ford a b = some (compare (V a) (V b)) := by
  unfold ford Format.order
  rw [read_fin ha, read_fin hb]
  simp only [Datum.order]
  congr 1
  obtain ⟨m, hm⟩ : ∃ m : Nat, min (ex a) (ex b) = m := ⟨_, rfl⟩
  have h1 : min (-1074 + (ex a : Int)) (-1074 + (ex b : Int)) = -1074 + (m : Int) := by omega
  have h2 : (-1074 + (ex a : Int) - (-1074 + (m : Int))).toNat = ex a - m := by omega
  have h3 : (-1074 + (ex b : Int) - (-1074 + (m : Int))).toNat = ex b - m := by omega
  rw [h1, h2, h3, ← cmp_scale (c := 2 ^ m) (Nat.two_pow_pos m), signed_scale _ _ _ _ (by omega), signed_scale _ _ _ _ (by omega)]
  rfl

theorem ford_nan {a b : Nat} (h : 9218868437227405312 < rg a ∨ 9218868437227405312 < rg b) : ford a b = none := by
  unfold ford Format.order
  rcases h with h | h
  · obtain ⟨t, e⟩ := read_nan h
    rw [e]; cases double.read b <;> rfl
  · obtain ⟨t, e⟩ := read_nan h
    rw [e]; cases double.read a <;> rfl

theorem ford_inf_fin {a b : Nat} (ha : rg a = 9218868437227405312) (hb : fin b) : ford a b = some (if sgn a then .lt else .gt) := by
  unfold ford Format.order
  rw [read_inf ha, read_fin hb]; rfl
theorem ford_fin_inf {a b : Nat} (ha : fin a) (hb : rg b = 9218868437227405312) : ford a b = some (if sgn b then .gt else .lt) := by
  unfold ford Format.order
  rw [read_fin ha, read_inf hb]; rfl
theorem ford_inf_inf {a : Nat} (ha : rg a = 9218868437227405312) : ford a a = some .eq := by
  unfold ford Format.order
  rw [read_inf ha]
  simp [Datum.order]

theorem fin_lt {a b : Nat} (ha : fin a) (hb : fin b) : (ford a b == some .lt) = decide (V a < V b) := by
  rw [ford_fin ha hb, Bool.eq_iff_iff]; simp [Int.compare_eq_lt]
theorem fin_eq {a b : Nat} (ha : fin a) (hb : fin b) : (ford a b == some .eq) = decide (V a = V b) := by
  rw [ford_fin ha hb, Bool.eq_iff_iff]; simp [Int.compare_eq_eq]
theorem fin_gt {a b : Nat} (ha : fin a) (hb : fin b) : (ford a b == some .gt) = decide (V b < V a) := by
  rw [ford_fin ha hb, Bool.eq_iff_iff]; simp [Int.compare_eq_gt]

/-! ### magnitudes grow with the rungs -/

theorem mn_pos {a : Nat} (h : 4503599627370496 ≤ rg a) : 4503599627370496 ≤ mn a ∧ mn a < 9007199254740992 := by
  unfold mn; rw [if_neg (by omega)]; omega
theorem mn_lt (a : Nat) : mn a < 9007199254740992 := by
  unfold mn; split <;> omega

theorem mag_zero {a : Nat} : mag a = 0 ↔ rg a = 0 := by
  unfold mag
  have := Nat.two_pow_pos (ex a)
  constructor
  · intro h
    rcases Nat.mul_eq_zero.1 h with h | h
    · unfold mn at h; split at h <;> omega
    · omega
  · intro h
    have : mn a = 0 := by unfold mn; rw [if_pos (by omega)]; exact h
    rw [this]; simp

theorem V_zero {a : Nat} : V a = 0 ↔ rg a = 0 := by
  rw [← mag_zero]; unfold V; split <;> omega

theorem V_pos {a : Nat} (h : sgn a = false) : V a = mag a := by unfold V; rw [h]; rfl
theorem V_neg {a : Nat} (h : sgn a = true) : V a = -(mag a : Int) := by unfold V; rw [h]; rfl

/-- A word below 2^64 is its sign and its rung. -/
theorem word_split {a : Nat} (h : a < 18446744073709551616) : a = (if sgn a then 9223372036854775808 else 0) + rg a := by
  unfold sgn rg
  by_cases h1 : a < 9223372036854775808
  · have : a / 9223372036854775808 = 0 := by omega
    rw [this]; simp; omega
  · have : a / 9223372036854775808 = 1 := by omega
    rw [this]; simp; omega

/-! ### the nearest word, where it is exact -/

/-- The word of a sign, a mantissa and an exponent. -/
theorem word_val {s : Bool} {k l : Nat} (hk : k < 9007199254740992) (hl : l = 0 ∨ 4503599627370496 ≤ k) (hr : l * 4503599627370496 + k < 9218868437227405312) :
    fin (double.word s (l * 4503599627370496 + k)) ∧ V (double.word s (l * 4503599627370496 + k)) = if s then -((k * 2 ^ l : Nat) : Int) else ((k * 2 ^ l : Nat) : Int) := by
  have e3 : double.signWeight = 9223372036854775808 := rfl
  obtain ⟨w, hw⟩ : ∃ w, double.word s (l * 4503599627370496 + k) = w := ⟨_, rfl⟩
  have hw2 : w = (if s then 9223372036854775808 else 0) + (l * 4503599627370496 + k) := by
    rw [← hw]; unfold Format.word; rw [e3]; cases s <;> simp
  have hrg : rg w = l * 4503599627370496 + k := by
    unfold rg; rw [hw2]; cases s <;> simp <;> omega
  have hsg : sgn w = s := by
    unfold sgn; rw [hw2]
    cases s
    · have : (0 + (l * 4503599627370496 + k)) / 9223372036854775808 = 0 := by omega
      simp; omega
    · have : (9223372036854775808 + (l * 4503599627370496 + k)) / 9223372036854775808 = 1 := by omega
      simp only [if_true]; rw [this]; rfl
  rw [hw]
  refine ⟨by unfold fin; omega, ?_⟩
  have hmag : mag w = k * 2 ^ l := by
    unfold mag mn ex
    rw [hrg]
    by_cases h1 : l * 4503599627370496 + k < 4503599627370496
    · have hl0 : l = 0 := by omega
      subst hl0
      rw [if_pos h1]
      have : (0 * 4503599627370496 + k) / 4503599627370496 - 1 = 0 := by omega
      rw [this]; simp
    · rw [if_neg h1]
      by_cases h2 : 4503599627370496 ≤ k
      · have h3 : (l * 4503599627370496 + k) / 4503599627370496 - 1 = l := by omega
        have h4 : 4503599627370496 + (l * 4503599627370496 + k) % 4503599627370496 = k := by omega
        rw [h3, h4]
      · omega
  unfold V
  rw [hsg, hmag]

/-- 1074. -/
def UE : Nat := 1074
theorem UE_eq : UE = 1074 := rfl
attribute [irreducible] UE

theorem small_help {g t k : Nat} (h1 : g < 53 + k) (hk : k ≤ 64) (t2 : t < 9007199254740992) : (g + 1022) * 4503599627370496 + t < 9218868437227405312 := by omega

/-- A number whose lowest digits are none is written as it is. -/
theorem nearest_exact {s : Bool} {m k : Nat} (hm : m < 9007199254740992) (h0 : 0 < m) (hk : k ≤ 64) :
    fin (double.nearest s (m * 2 ^ k) 0) ∧ V (double.nearest s (m * 2 ^ k) 0) = if s then -((m * 2 ^ k * 2 ^ UE : Nat) : Int) else ((m * 2 ^ k * 2 ^ UE : Nat) : Int) := by
  have hU := UE_eq
  obtain ⟨n, hn⟩ : ∃ n, m * 2 ^ k = n := ⟨_, rfl⟩
  have hp := Nat.two_pow_pos k
  have n0 : n ≠ 0 := by
    intro h; rw [← hn] at h
    rcases Nat.mul_eq_zero.1 h with h | h <;> omega
  obtain ⟨g, hg⟩ : ∃ g, n.log2 = g := ⟨_, rfl⟩
  have g1 : 2 ^ g ≤ n := by rw [← hg]; exact Nat.log2_self_le n0
  have g2 : n < 2 ^ (g + 1) := by rw [← hg]; exact Nat.lt_log2_self
  have hgk : g < 53 + k := by
    have h1 : n < 2 ^ (53 + k) := by
      rw [← hn, Nat.pow_add]
      exact Nat.mul_lt_mul_of_pos_right (by simpa using hm) hp
    exact (Nat.pow_lt_pow_iff_right (by omega)).1 (Nat.lt_of_le_of_lt g1 h1)
  have e1 : double.leastPlace = -1074 := rfl
  have e2 : double.infRung = 9218868437227405312 := rfl
  have e4 : double.binade = 4503599627370496 := rfl
  have e5 : (double.fractionBits : Int) = 52 := rfl
  rw [hn]
  unfold Format.nearest
  rw [if_neg n0]
  simp only [e1, e2, e4, e5, hg]
  have hlast : max (0 + (g : Int) - 52) (-1074) = (g : Int) - 52 := by omega
  rw [hlast]
  have hL : ((g : Int) - 52 - -1074).toNat = g + 1022 := by omega
  rw [hL]
  -- the digits that are kept
  have hkept : ∃ t, Toward.even.cut s (n <<< (0 - ((g : Int) - 52)).toNat) ((g : Int) - 52 - 0).toNat = t ∧ t * 2 ^ (g + 1022) = n * 2 ^ UE := by
    by_cases hg52 : g ≤ 52
    · refine ⟨n * 2 ^ (52 - g), ?_, ?_⟩
      · have h1 : (0 - ((g : Int) - 52)).toNat = 52 - g := by omega
        have h2 : ((g : Int) - 52 - 0).toNat = 0 := by omega
        rw [h1, h2]
        unfold Toward.cut
        simp [Nat.shiftLeft_eq, Nat.mod_one]
      · rw [Nat.mul_assoc, ← Nat.pow_add, show 52 - g + (g + 1022) = UE by omega]
    · have hd : g - 52 ≤ k := by omega
      refine ⟨m * 2 ^ (k - (g - 52)), ?_, ?_⟩
      · have h1 : (0 - ((g : Int) - 52)).toNat = 0 := by omega
        have h2 : ((g : Int) - 52 - 0).toNat = g - 52 := by omega
        rw [h1, h2]
        unfold Toward.cut
        have h3 : min (g - 52) ((n <<< 0).log2 + 2) = g - 52 := by
          rw [Nat.shiftLeft_zero, hg]; omega
        have h4 : n = m * 2 ^ (k - (g - 52)) * 2 ^ (g - 52) := by rw [← hn, Nat.mul_assoc, ← Nat.pow_add, show k - (g - 52) + (g - 52) = k by omega]
        have hp2 := Nat.two_pow_pos (g - 52)
        simp only [h3, Nat.one_shiftLeft]
        simp only [Nat.shiftLeft_zero]
        have h5 : n % 2 ^ (g - 52) = 0 := by rw [h4]; exact Nat.mul_mod_left _ _
        have h6 : n / 2 ^ (g - 52) = m * 2 ^ (k - (g - 52)) := by
          conv => lhs; rw [h4]
          exact Nat.mul_div_cancel _ hp2
        simp only [h5, h6]
        simp
      · rw [Nat.mul_assoc, ← Nat.pow_add, ← hn, Nat.mul_assoc, ← Nat.pow_add, show k - (g - 52) + (g + 1022) = k + UE by omega]
  obtain ⟨t, ht, hte⟩ := hkept
  rw [ht]
  -- how great it is
  have hp3 := Nat.two_pow_pos (g + 1022)
  have t1 : 4503599627370496 ≤ t := by
    have h1 : 2 ^ g * 2 ^ UE ≤ t * 2 ^ (g + 1022) := by rw [hte]; exact Nat.mul_le_mul_right _ g1
    have h2 : 2 ^ g * 2 ^ UE = 4503599627370496 * 2 ^ (g + 1022) := by
      rw [← Nat.pow_add, show (4503599627370496 : Nat) = 2 ^ 52 from rfl, ← Nat.pow_add, show g + UE = 52 + (g + 1022) by omega]
    rw [h2] at h1
    exact Nat.le_of_mul_le_mul_right h1 hp3
  have t2 : t < 9007199254740992 := by
    have h1 : t * 2 ^ (g + 1022) < 2 ^ (g + 1) * 2 ^ UE := by rw [hte]; exact Nat.mul_lt_mul_of_pos_right g2 (Nat.two_pow_pos _)
    have h2 : 2 ^ (g + 1) * 2 ^ UE = 9007199254740992 * 2 ^ (g + 1022) := by
      rw [← Nat.pow_add, show (9007199254740992 : Nat) = 2 ^ 53 from rfl, ← Nat.pow_add, show g + 1 + UE = 53 + (g + 1022) by omega]
    rw [h2] at h1
    exact Nat.lt_of_mul_lt_mul_right h1
  have hsm := small_help hgk hk t2
  rw [Nat.min_eq_left (Nat.le_of_lt hsm)]
  obtain ⟨w1, w2⟩ := word_val (s := s) (k := t) (l := g + 1022) t2 (.inr t1) hsm
  exact ⟨w1, by rw [w2, hte]⟩

/-! ### towards zero -/

/-- A word's whole part. -/
def TR (a : Nat) : Int := if sgn a then -((mag a / 2 ^ UE : Nat) : Int) else ((mag a / 2 ^ UE : Nat) : Int)

theorem cut_zero (s : Bool) (n d : Nat) : Toward.zero.cut s n d = n / 2 ^ d := by
  unfold Toward.cut
  simp only [Bool.toNat_false, Nat.add_zero, Nat.one_shiftLeft]
  by_cases h : d ≤ n.log2 + 2
  · rw [Nat.min_eq_left h]
  · rw [Nat.min_eq_right (by omega)]
    have h1 : n < 2 ^ (n.log2 + 1) := Nat.lt_log2_self
    have h2 : n < 2 ^ (n.log2 + 2) := Nat.lt_of_lt_of_le h1 (Nat.pow_le_pow_right (by omega) (by omega))
    have h3 : n < 2 ^ d := Nat.lt_of_lt_of_le h2 (Nat.pow_le_pow_right (by omega) (by omega))
    rw [Nat.div_eq_of_lt h2, Nat.div_eq_of_lt h3]

theorem integral_fin {a : Nat} (h : fin a) : (double.read a).integral .zero = .number (sgn a) (mag a / 2 ^ UE) 0 := by
  have hU := UE_eq
  rw [read_fin h]
  simp only [Datum.integral, cut_zero, Nat.shiftLeft_eq]
  congr 1
  unfold mag
  by_cases he : UE ≤ ex a
  · have h1 : (-1074 + (ex a : Int)).toNat = ex a - UE := by omega
    have h2 : (-(-1074 + (ex a : Int))).toNat = 0 := by omega
    rw [h1, h2, Nat.pow_zero, Nat.div_one]
    have h3 : mn a * 2 ^ ex a = mn a * 2 ^ (ex a - UE) * 2 ^ UE := by rw [Nat.mul_assoc, ← Nat.pow_add, show ex a - UE + UE = ex a by omega]
    rw [h3, Nat.mul_div_cancel _ (Nat.two_pow_pos _)]
  · have h1 : (-1074 + (ex a : Int)).toNat = 0 := by omega
    have h2 : (-(-1074 + (ex a : Int))).toNat = UE - ex a := by omega
    rw [h1, h2, Nat.pow_zero, Nat.mul_one]
    have h3 : 2 ^ UE = 2 ^ (UE - ex a) * 2 ^ ex a := by rw [← Nat.pow_add, show UE - ex a + ex a = UE by omega]
    rw [h3, Nat.mul_div_mul_right _ _ (Nat.two_pow_pos _)]

theorem toInt_fin {a : Nat} (h : fin a) : (double.read a).toInt .zero = some (TR a) := by
  unfold Datum.toInt
  rw [integral_fin h]
  simp only [signed_nat, Nat.pow_zero, Nat.mul_one]
  rfl

theorem word_zero (s : Bool) : fin (double.word s 0) ∧ V (double.word s 0) = 0 := by
  have := word_val (s := s) (k := 0) (l := 0) (by omega) (.inl rfl) (by omega)
  refine ⟨this.1, ?_⟩
  have h2 := this.2
  cases s <;> simpa using h2

/-- The whole part is a number of few digits. -/
theorem tr_digits {a : Nat} (h : mag a < 2 ^ 64 * 2 ^ UE) : ∃ m k, m < 9007199254740992 ∧ k ≤ 64 ∧ mag a / 2 ^ UE = m * 2 ^ k := by
  have hU := UE_eq
  by_cases he : UE ≤ ex a
  · refine ⟨mn a, ex a - UE, mn_lt a, ?_, ?_⟩
    · apply Classical.byContradiction
      intro hc
      have h1 : 4503599627370496 ≤ mn a := (mn_pos (by unfold ex at he; omega)).1
      have h2 : 2 ^ 64 * 2 ^ UE ≤ mag a := by
        unfold mag
        have h3 : 2 ^ 64 * 2 ^ UE ≤ 2 ^ ex a := by rw [← Nat.pow_add]; exact Nat.pow_le_pow_right (by omega) (by omega)
        exact Nat.le_trans h3 (Nat.le_mul_of_pos_left _ (by omega))
      exact absurd h (Nat.not_lt.2 h2)
    · unfold mag
      have h3 : mn a * 2 ^ ex a = mn a * 2 ^ (ex a - UE) * 2 ^ UE := by rw [Nat.mul_assoc, ← Nat.pow_add, show ex a - UE + UE = ex a by omega]
      rw [h3, Nat.mul_div_cancel _ (Nat.two_pow_pos _)]
  · refine ⟨mag a / 2 ^ UE, 0, ?_, by omega, by simp⟩
    unfold mag
    have h3 : 2 ^ UE = 2 ^ (UE - ex a) * 2 ^ ex a := by rw [← Nat.pow_add, show UE - ex a + ex a = UE by omega]
    rw [h3, Nat.mul_div_mul_right _ _ (Nat.two_pow_pos _)]
    exact Nat.lt_of_le_of_lt (Nat.div_le_self _ _) (mn_lt a)

theorem tr_word {a : Nat} (s : Bool) (h : mag a < 2 ^ 64 * 2 ^ UE) :
    fin (double.nearest s (mag a / 2 ^ UE) 0) ∧ V (double.nearest s (mag a / 2 ^ UE) 0) = if s then -((mag a / 2 ^ UE * 2 ^ UE : Nat) : Int) else ((mag a / 2 ^ UE * 2 ^ UE : Nat) : Int) := by
  obtain ⟨m, k, h1, h2, h3⟩ := tr_digits h
  by_cases h0 : mag a / 2 ^ UE = 0
  · rw [h0]
    have : double.nearest s 0 0 = double.word s 0 := by unfold Format.nearest; rw [if_pos rfl]
    rw [this]
    obtain ⟨w1, w2⟩ := word_zero s
    exact ⟨w1, by rw [w2]; cases s <;> simp⟩
  · rw [h3] at h0 ⊢
    have m0 : 0 < m := Nat.pos_of_ne_zero fun e => h0 (by rw [e, Nat.zero_mul])
    exact nearest_exact h1 m0 h2

/-- Trunc's word, and the word of the whole part as an integer. -/
theorem trunc_val {a : Nat} (hf : fin a) (h : mag a < 2 ^ 64 * 2 ^ UE) : fin (double.write ((double.read a).integral .zero)) ∧ V (double.write ((double.read a).integral .zero)) = TR a * ((2 ^ UE : Nat) : Int) := by
  rw [integral_fin hf]
  obtain ⟨w1, w2⟩ := tr_word (sgn a) h
  refine ⟨w1, ?_⟩
  show V (double.nearest (sgn a) (mag a / 2 ^ UE) 0) = _
  rw [w2]
  unfold TR
  split
  · rw [Int.neg_mul]; congr 1
  · rfl

theorem int_val {a : Nat} (h : mag a < 2 ^ 64 * 2 ^ UE) : fin (FloatKind.nearest .f64 (TR a)) ∧ V (FloatKind.nearest .f64 (TR a)) = TR a * ((2 ^ UE : Nat) : Int) := by
  obtain ⟨w1, w2⟩ := tr_word (decide (TR a < 0)) h
  obtain ⟨c, hc⟩ : ∃ c, mag a / 2 ^ UE = c := ⟨_, rfl⟩
  have hTR : TR a = if sgn a then -(c : Int) else (c : Int) := by unfold TR; rw [hc]
  have hn : (TR a).natAbs = c := by rw [hTR]; split <;> omega
  rw [hc] at w1 w2
  show fin (double.nearest (TR a < 0) (TR a).natAbs 0) ∧ V (double.nearest (TR a < 0) (TR a).natAbs 0) = _
  rw [hn]
  refine ⟨w1, ?_⟩
  rw [w2]
  by_cases hneg : TR a < 0
  · rw [if_pos (decide_eq_true hneg)]
    have : TR a = -(c : Int) := by omega
    rw [this, Int.neg_mul]; congr 1
  · rw [if_neg (by simpa using hneg)]
    have : TR a = (c : Int) := by omega
    rw [this]; rfl

theorem tr_tr {a : Nat} (hf : fin a) (h : mag a < 2 ^ 64 * 2 ^ UE) : TR (double.write ((double.read a).integral .zero)) = TR a := by
  obtain ⟨w1, w2⟩ := trunc_val hf h
  obtain ⟨w, hw⟩ : ∃ w, double.write ((double.read a).integral .zero) = w := ⟨_, rfl⟩
  rw [hw] at w1 w2 ⊢
  have hp := Nat.two_pow_pos UE
  obtain ⟨U, hUU⟩ : ∃ U, 2 ^ UE = U := ⟨_, rfl⟩
  have hm : mag w = (TR a).natAbs * U := by
    have h1 : (V w).natAbs = mag w := by unfold V; split <;> omega
    rw [← h1, w2, hUU, Int.natAbs_mul]; simp
  have hdiv : mag w / 2 ^ UE = (TR a).natAbs := by rw [hm, hUU]; exact Nat.mul_div_cancel _ (by omega)
  by_cases h0 : TR a = 0
  · show (if sgn w then _ else _) = _
    rw [hdiv, h0]; simp
  · have hs : V w ≠ 0 := by rw [w2]; exact Int.mul_ne_zero h0 (by omega)
    have hU0 : (0 : Int) < ((2 ^ UE : Nat) : Int) := by omega
    by_cases hneg : TR a < 0
    · have h1 : V w < 0 := by rw [w2]; exact Int.mul_neg_of_neg_of_pos hneg hU0
      have h2 : sgn w = true := by
        cases hsw : sgn w with
        | true => rfl
        | false => rw [V_pos hsw] at h1; omega
      show (if sgn w then _ else _) = _
      rw [h2, if_pos rfl, hdiv]; omega
    · have h1 : 0 < V w := by rw [w2]; exact Int.mul_pos (by omega) hU0
      have h2 : sgn w = false := by
        cases hsw : sgn w with
        | false => rfl
        | true => rw [V_neg hsw] at h1; omega
      show (if sgn w then _ else _) = _
      rw [h2, if_neg (by simp), hdiv]; omega

/-! ### differences -/

theorem nearest_sign {s : Bool} {m : Nat} {p : Int} (hm : m ≠ 0) (hp : -1074 ≤ p) : ∃ r, double.nearest s m p = double.word s r ∧ 0 < r ∧ r ≤ 9218868437227405312 := by
  have e1 : double.leastPlace = -1074 := rfl
  have e2 : double.infRung = 9218868437227405312 := rfl
  have e4 : double.binade = 4503599627370496 := rfl
  unfold Format.nearest
  rw [if_neg hm]
  simp only [e1, e2, e4]
  refine ⟨_, rfl, ?_, Nat.min_le_right _ _⟩
  obtain ⟨l, hl⟩ : ∃ l, max (p + (m.log2 : Int) - (double.fractionBits : Int)) (-1074) = l := ⟨_, rfl⟩
  rw [hl]
  by_cases h0 : (l - -1074).toNat = 0
  · have h1 : (l - p).toNat = 0 := by omega
    rw [h0, h1]
    have : 0 < Toward.even.cut s (m <<< (p - l).toNat) 0 := by
      unfold Toward.cut
      have h2 : 0 < m <<< (p - l).toNat := by rw [Nat.shiftLeft_eq]; exact Nat.mul_pos (Nat.pos_of_ne_zero hm) (Nat.two_pow_pos _)
      simp [Nat.mod_one]; omega
    omega
  · have : 0 < (l - -1074).toNat * 4503599627370496 := by omega
    omega

theorem word_rg {s : Bool} {r : Nat} (h : r < 9223372036854775808) : rg (double.word s r) = r ∧ sgn (double.word s r) = s := by
  have e3 : double.signWeight = 9223372036854775808 := rfl
  unfold Format.word
  rw [e3]
  cases s
  · unfold rg sgn
    have : r / 9223372036854775808 = 0 := by omega
    simp; omega
  · unfold rg sgn
    have : (9223372036854775808 + r) / 9223372036854775808 = 1 := by omega
    simp only [if_true]
    rw [this]
    exact ⟨by omega, rfl⟩

/-- A difference is above nothing just where the first is above the second. -/
theorem sub_ord {x y : Nat} (hx : fin x) (hy : fin y) : ∃ w, double.sub x y = some w ∧ (ford w w == some .eq) = true ∧ (ford 0 w == some .lt) = decide (V y < V x) ∧ (ford 0 w == some .gt) = decide (V x < V y) := by
  unfold Format.sub
  rw [read_fin hx, read_fin hy]
  simp only [Datum.opposite, Datum.sum, Option.map_some]
  obtain ⟨m, hm⟩ : ∃ m : Nat, min (ex x) (ex y) = m := ⟨_, rfl⟩
  have h1 : min (-1074 + (ex x : Int)) (-1074 + (ex y : Int)) = -1074 + (m : Int) := by omega
  have h2 : (-1074 + (ex x : Int) - (-1074 + (m : Int))).toNat = ex x - m := by omega
  have h3 : (-1074 + (ex y : Int) - (-1074 + (m : Int))).toNat = ex y - m := by omega
  rw [h1, h2, h3]
  obtain ⟨t, ht⟩ : ∃ t, signed (sgn x) (mn x) (ex x - m) + signed (!sgn y) (mn y) (ex y - m) = t := ⟨_, rfl⟩
  rw [ht]
  have hp := Nat.two_pow_pos m
  have htv : t * ((2 ^ m : Nat) : Int) = V x - V y := by
    rw [← ht, Int.add_mul, signed_scale _ _ _ _ (by omega), signed_scale _ _ _ _ (by omega)]
    unfold V mag
    cases sgn x <;> cases sgn y <;> simp <;> omega
  obtain ⟨U, hUU⟩ : ∃ U : Int, ((2 ^ m : Nat) : Int) = U := ⟨_, rfl⟩
  rw [hUU] at htv
  have hU0 : 0 < U := by omega
  have f0 : fin 0 := by unfold fin rg; omega
  have v0 : V 0 = 0 := V_zero.2 rfl
  refine ⟨_, rfl, ?_⟩
  by_cases h0 : t = 0
  · subst h0
    have hV : V x = V y := by rw [Int.zero_mul] at htv; omega
    obtain ⟨s0, hs0⟩ : ∃ s, (if (0 : Int) = 0 then sgn x && !sgn y else decide ((0 : Int) < 0)) = s := ⟨_, rfl⟩
    rw [hs0]
    have e : double.write (.number s0 (Int.natAbs 0) (-1074 + (m : Int))) = double.word s0 0 := by
      show double.nearest s0 0 _ = _
      unfold Format.nearest; rw [if_pos rfl]
    rw [e]
    obtain ⟨w1, w2⟩ := word_zero s0
    rw [fin_eq w1 w1, fin_lt f0 w1, fin_gt f0 w1, w2, v0, hV]
    simp
  · rw [if_neg h0]
    obtain ⟨r, hr, hr1, hr2⟩ := nearest_sign (s := decide (t < 0)) (m := t.natAbs) (p := -1074 + (m : Int)) (by omega) (by omega)
    have e : double.write (.number (decide (t < 0)) t.natAbs (-1074 + (m : Int))) = double.word (decide (t < 0)) r := hr
    rw [e]
    obtain ⟨w, hw⟩ : ∃ w, double.word (decide (t < 0)) r = w := ⟨_, rfl⟩
    obtain ⟨g1, g2⟩ := word_rg (s := decide (t < 0)) (r := r) (by omega)
    rw [hw] at g1 g2 ⊢
    have hVV : (t < 0 ↔ V x < V y) ∧ (¬ t < 0 ↔ V y < V x) := by
      rcases Int.lt_trichotomy t 0 with h | h | h
      · have := Int.mul_neg_of_neg_of_pos h hU0; constructor <;> constructor <;> omega
      · exact absurd h h0
      · have := Int.mul_pos h hU0; constructor <;> constructor <;> omega
    by_cases hi : r = 9218868437227405312
    · rw [hi] at g1
      rw [ford_inf_inf g1, ford_fin_inf f0 g1, g2]
      by_cases hneg : t < 0
      · have h4 := hVV.1.1 hneg
        have h5 : ¬ V y < V x := by omega
        simp [hneg, h4, h5]
      · have h4 := hVV.2.1 hneg
        have h5 : ¬ V x < V y := by omega
        simp [hneg, h4, h5]
    · have fw : fin w := by unfold fin; omega
      rw [fin_eq fw fw, fin_lt f0 fw, fin_gt f0 fw, v0]
      have hmag : 0 < mag w := Nat.pos_of_ne_zero fun e => by have := mag_zero.1 e; omega
      by_cases hneg : t < 0
      · have h4 := hVV.1.1 hneg
        have h5 : ¬ V y < V x := by omega
        have h6 : V w = -(mag w : Int) := V_neg (by rw [g2]; exact decide_eq_true hneg)
        have h7 : V w < 0 := by omega
        have h8 : ¬ 0 < V w := by omega
        simp [h4, h5, h7, h8]
      · have h4 := hVV.2.1 hneg
        have h5 : ¬ V x < V y := by omega
        have h6 : V w = (mag w : Int) := V_pos (by rw [g2]; exact decide_eq_false hneg)
        have h7 : 0 < V w := by omega
        have h8 : ¬ V w < 0 := by omega
        simp [h4, h5, h7, h8]

end Go.Ax
