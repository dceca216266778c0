/- Lanes: numbers of few bits beside one another in a word. -/
import Derived.Test.YthfgelbbcdgopaaMH
namespace Go.Ax
set_option linter.unusedVariables false
set_option linter.unusedSimpArgs false

/-- The lane l of a number, w bits wide. -/
def ln (w A l : Nat) : Nat := A / 2 ^ (w * l) % 2 ^ w

theorem ln_lt (w A l : Nat) : ln w A l < 2 ^ w := Nat.mod_lt _ (Nat.two_pow_pos w)

theorem ln_bit (w A l j : Nat) : (ln w A l).testBit j = (decide (j < w) && A.testBit (w * l + j)) := by
  unfold ln; rw [Nat.testBit_mod_two_pow, Nat.testBit_div_two_pow, Nat.add_comm]

theorem ln_eq {w A B l : Nat} (h : ∀ j, j < w → A.testBit (w * l + j) = B.testBit (w * l + j)) : ln w A l = ln w B l := by
  apply Nat.eq_of_testBit_eq
  intro j
  rw [ln_bit, ln_bit]
  by_cases hj : j < w
  · rw [h j hj]
  · simp [hj]

theorem nocarry {a b m : Nat} (hm : 0 < m) (h : a % m + b % m < m) : (a + b) / m = a / m + b / m ∧ (a + b) % m = a % m + b % m := by
  have e : a + b = (a % m + b % m) + m * (a / m + b / m) := by
    have h1 := Nat.div_add_mod a m
    have h2 := Nat.div_add_mod b m
    rw [Nat.mul_add]; omega
  constructor
  · rw [e, Nat.add_mul_div_left _ _ hm, Nat.div_eq_of_lt h, Nat.zero_add]
  · rw [e, Nat.add_mul_mod_self_left, Nat.mod_eq_of_lt h]

theorem div_step (w A l : Nat) : A / 2 ^ (w * (l + 1)) = A / 2 ^ (w * l) / 2 ^ w := by
  rw [Nat.mul_add, Nat.mul_one, Nat.pow_add, Nat.div_div_eq_div_mul]

theorem ln_add {w A B k : Nat} (h : ∀ l, l < k → ln w A l + ln w B l < 2 ^ w) : ∀ l, l < k → ln w (A + B) l = ln w A l + ln w B l := by
  have key : ∀ l, l ≤ k → (A + B) / 2 ^ (w * l) = A / 2 ^ (w * l) + B / 2 ^ (w * l) := by
    intro l
    induction l with
    | zero => intro _; simp
    | succ l ih =>
      intro hl
      rw [div_step, div_step, div_step, ih (by omega)]
      exact (nocarry (Nat.two_pow_pos w) (h l (by omega))).1
  intro l hl
  unfold ln
  rw [key l (by omega)]
  exact (nocarry (Nat.two_pow_pos w) (h l hl)).2

theorem noborrow {a b m : Nat} (hm : 0 < m) (h : b % m ≤ a % m) (hd : b / m ≤ a / m) : b ≤ a ∧ (a - b) / m = a / m - b / m ∧ (a - b) % m = a % m - b % m := by
  have h1 := Nat.div_add_mod a m
  have h2 := Nat.div_add_mod b m
  have h3 := Nat.mul_le_mul_left m hd
  have h4 : m * (a / m - b / m) = m * (a / m) - m * (b / m) := Nat.mul_sub _ _ _
  have hlt := Nat.mod_lt a hm
  have e : a - b = (a % m - b % m) + m * (a / m - b / m) := by omega
  refine ⟨by omega, ?_, ?_⟩
  · rw [e, Nat.add_mul_div_left _ _ hm, Nat.div_eq_of_lt (by omega), Nat.zero_add]
  · rw [e, Nat.add_mul_mod_self_left, Nat.mod_eq_of_lt (by omega)]

theorem lanes_le {w A B k : Nat} (hB : B < 2 ^ (w * k)) (h : ∀ l, l < k → ln w B l ≤ ln w A l) : ∀ d, d ≤ k → B / 2 ^ (w * (k - d)) ≤ A / 2 ^ (w * (k - d)) := by
  intro d
  induction d with
  | zero => intro _; rw [Nat.sub_zero, Nat.div_eq_of_lt hB]; exact Nat.zero_le _
  | succ d ih =>
    intro hd
    have := ih (by omega)
    rw [show k - d = (k - (d + 1)) + 1 by omega, div_step, div_step] at this
    exact (noborrow (Nat.two_pow_pos w) (h _ (by omega)) this).1

theorem ln_sub {w A B k : Nat} (hB : B < 2 ^ (w * k)) (h : ∀ l, l < k → ln w B l ≤ ln w A l) : B ≤ A ∧ ∀ l, l < k → ln w (A - B) l = ln w A l - ln w B l := by
  have hle := lanes_le hB h
  have h0 : B ≤ A := by have := hle k (by omega); simpa using this
  have hl' : ∀ l, l ≤ k → B / 2 ^ (w * l) ≤ A / 2 ^ (w * l) := fun l hl => by
    have := hle (k - l) (by omega)
    rwa [show k - (k - l) = l by omega] at this
  refine ⟨h0, ?_⟩
  have key : ∀ l, l ≤ k → (A - B) / 2 ^ (w * l) = A / 2 ^ (w * l) - B / 2 ^ (w * l) := by
    intro l
    induction l with
    | zero => intro _; simp
    | succ l ih =>
      intro hl
      rw [div_step, div_step, div_step, ih (by omega)]
      have := hl' (l + 1) hl
      rw [div_step, div_step] at this
      exact (noborrow (Nat.two_pow_pos w) (h l (by omega)) this).2.1
  intro l hl
  unfold ln
  rw [key l (by omega)]
  have := hl' (l + 1) hl
  rw [div_step, div_step] at this
  exact (noborrow (Nat.two_pow_pos w) (h l hl) this).2.2

theorem top_bit {n m : Nat} (h : n < 2 ^ (m + 1)) : n.testBit m = decide (2 ^ m ≤ n) := by
  rw [Nat.testBit_eq_decide_div_mod_eq]
  have hp := Nat.two_pow_pos m
  rw [Nat.pow_succ] at h
  by_cases hn : 2 ^ m ≤ n
  · have h1 : n / 2 ^ m = 1 := by
      apply Nat.div_eq_of_lt_le <;> omega
    simp [h1, hn]
  · have h1 : n / 2 ^ m = 0 := Nat.div_eq_of_lt (by omega)
    simp [h1, hn]

theorem lt_pow {n m : Nat} (h : ∀ j, m ≤ j → n.testBit j = false) : n < 2 ^ m := by
  apply Classical.byContradiction
  intro hn
  obtain ⟨i, hi, ht⟩ := Nat.exists_ge_and_testBit_of_ge_two_pow (by omega : 2 ^ m ≤ n)
  rw [h i hi] at ht
  cases ht

/-! ### masks -/

/-- How many lanes of a width a word has. -/
def lc (w : Nat) : Nat := 64 / w

structure Masks (w : Nat) (used top : BitVec 64) : Prop where
  lo : 1 ≤ w
  hi : w ≤ 64
  used : ∀ j, j < 64 → used.getLsbD j = decide (j < w * lc w)
  top : ∀ j, j < 64 → top.getLsbD j = (decide (j < w * lc w) && decide (j % w = w - 1))

theorem lc_le {w : Nat} : w * lc w ≤ 64 := Nat.mul_div_le 64 w

theorem lane_lt {w l j : Nat} (hl : l < lc w) (hj : j < w) : w * l + j < w * lc w := by
  have := Nat.mul_le_mul_left w (show l + 1 ≤ lc w by omega)
  rw [Nat.mul_add] at this; omega

theorem lane_mod {w l j : Nat} (hj : j < w) : (w * l + j) % w = j := by
  rw [Nat.mul_add_mod, Nat.mod_eq_of_lt hj]
theorem lane_div {w l j : Nat} (hj : j < w) : (w * l + j) / w = l := by
  rw [Nat.mul_add_div (by omega), Nat.div_eq_of_lt hj, Nat.add_zero]

section
variable {w : Nat} {used top : BitVec 64}

def lowM (used top : BitVec 64) : BitVec 64 := ~~~ top &&& used

theorem Masks.usedL (M : Masks w used top) {l j : Nat} (hl : l < lc w) (hj : j < w) : used.getLsbD (w * l + j) = true := by
  have h1 := lane_lt hl hj
  have h2 := @lc_le w
  rw [M.used _ (by omega)]; simp [h1]

theorem Masks.topL (M : Masks w used top) {l j : Nat} (hl : l < lc w) (hj : j < w) : top.getLsbD (w * l + j) = decide (j = w - 1) := by
  have h1 := lane_lt hl hj
  have h2 := @lc_le w
  rw [M.top _ (by omega), lane_mod hj]; simp [h1]

theorem Masks.lowL (M : Masks w used top) {l j : Nat} (hl : l < lc w) (hj : j < w) : (lowM used top).getLsbD (w * l + j) = decide (j < w - 1) := by
  have h1 := lane_lt hl hj
  have h2 := @lc_le w
  have h3 : w * l + j < 64 := by omega
  unfold lowM
  rw [BitVec.getLsbD_and, BitVec.getLsbD_not, M.usedL hl hj, M.topL hl hj]
  by_cases h : j = w - 1
  · have : ¬ j < w - 1 := by omega
    simp [h]
  · have : j < w - 1 := by omega
    simp [h, this, h3]

theorem Masks.lowOut (M : Masks w used top) {j : Nat} (hj : w * lc w ≤ j) : (lowM used top).getLsbD j = false := by
  unfold lowM
  by_cases h : j < 64
  · have : ¬ j < w * lc w := by omega
    rw [BitVec.getLsbD_and, M.used j h]; simp [this]
  · exact BitVec.getLsbD_of_ge _ _ (by omega)

theorem Masks.low63 (M : Masks w used top) : (lowM used top).toNat < 2 ^ 63 := by
  apply lt_pow
  intro j hj
  show (lowM used top).getLsbD j = false
  by_cases h : j < w * lc w
  · have h2 := @lc_le w
    have h3 : w * lc w = 64 := by omega
    have h4 : j = 63 := by omega
    subst h4
    unfold lowM
    have h5 : 63 % w = w - 1 := by
      have h6 : 63 = w * (lc w - 1) + (w - 1) := by
        have hlo := M.lo
        have : 0 < lc w := by
          apply Nat.pos_of_ne_zero; intro h0; rw [h0] at h3; simp at h3
        obtain ⟨c, hc⟩ : ∃ c, lc w = c + 1 := ⟨lc w - 1, by omega⟩
        rw [hc] at h3 ⊢
        rw [Nat.mul_add] at h3
        simp only [Nat.add_sub_cancel]
        omega
      conv => lhs; rw [h6]
      exact lane_mod (by have := M.lo; omega)
    rw [BitVec.getLsbD_and, BitVec.getLsbD_not, M.top 63 (by omega), h5]
    simp [h3]
  · exact M.lowOut (by omega)

theorem Masks.lnLow (M : Masks w used top) {l : Nat} (hl : l < lc w) : ln w (lowM used top).toNat l = 2 ^ (w - 1) - 1 := by
  apply Nat.eq_of_testBit_eq
  intro j
  rw [ln_bit, Nat.testBit_two_pow_sub_one]
  by_cases hj : j < w
  · show (decide (j < w) && (lowM used top).getLsbD (w * l + j)) = _
    rw [M.lowL hl hj]; simp [hj]
  · have : ¬ j < w - 1 := by omega
    simp [hj, this]

theorem Masks.lnAnd (M : Masks w used top) (x : BitVec 64) {l : Nat} (hl : l < lc w) : ln w (x &&& lowM used top).toNat l = ln w x.toNat l % 2 ^ (w - 1) := by
  apply Nat.eq_of_testBit_eq
  intro j
  rw [ln_bit, Nat.testBit_mod_two_pow, ln_bit]
  by_cases hj : j < w
  · show (decide (j < w) && (x &&& lowM used top).getLsbD (w * l + j)) = _
    rw [BitVec.getLsbD_and, M.lowL hl hj]
    show _ = (decide (j < w - 1) && (decide (j < w) && x.getLsbD (w * l + j)))
    simp [hj, Bool.and_comm]
  · simp [hj]

def equalB (used top x y : BitVec 64) : BitVec 64 :=
  ~~~ ((((x ^^^ y) &&& used) &&& lowM used top) + lowM used top ||| ((x ^^^ y) &&& used)) &&& top

theorem ln_split {w : Nat} (hw : 1 ≤ w) (A l : Nat) : ln w A l = ln w A l % 2 ^ (w - 1) + 2 ^ (w - 1) * (A.testBit (w * l + (w - 1))).toNat := by
  have h1 := ln_lt w A l
  obtain ⟨m, rfl⟩ : ∃ m, w = m + 1 := ⟨w - 1, by omega⟩
  have h2 := ln_bit (m + 1) A l m
  simp only [Nat.add_sub_cancel, Nat.lt_succ_self, decide_true, Bool.true_and] at h2 ⊢
  rw [← h2, top_bit h1]
  have h4 := Nat.div_add_mod (ln (m + 1) A l) (2 ^ m)
  rw [Nat.pow_succ] at h1
  by_cases h : 2 ^ m ≤ ln (m + 1) A l
  · have : ln (m + 1) A l / 2 ^ m = 1 := by apply Nat.div_eq_of_lt_le <;> omega
    rw [this] at h4
    simp [h]; omega
  · rw [Nat.mod_eq_of_lt (by omega)]; simp [h]

theorem equal_top (M : Masks w used top) (x y : BitVec 64) {l : Nat} (hl : l < lc w) : (equalB used top x y).getLsbD (w * l + (w - 1)) = decide (ln w x.toNat l = ln w y.toNat l) := by
  have hlo := M.lo
  have hj : w - 1 < w := by omega
  have h1 := lane_lt hl hj
  have h2 := @lc_le w
  have h3 : w * l + (w - 1) < 64 := by omega
  obtain ⟨z, hz⟩ : ∃ z, (x ^^^ y) &&& used = z := ⟨_, rfl⟩
  have hzb : ∀ j, j < w → z.getLsbD (w * l + j) = (x.getLsbD (w * l + j) ^^ y.getLsbD (w * l + j)) := by
    intro j hj
    rw [← hz, BitVec.getLsbD_and, BitVec.getLsbD_xor, M.usedL hl hj, Bool.and_true]
  unfold equalB
  rw [hz, BitVec.getLsbD_and, M.topL hl hj, BitVec.getLsbD_not, BitVec.getLsbD_or, hzb _ hj]
  simp only [h3, decide_true, Bool.true_and, Bool.and_true]
  have hlow := M.low63
  have hzl : (z &&& lowM used top).toNat ≤ (lowM used top).toNat := by rw [BitVec.toNat_and]; exact Nat.and_le_right
  have hsum : ((z &&& lowM used top) + lowM used top).toNat = (z &&& lowM used top).toNat + (lowM used top).toNat := by
    rw [BitVec.toNat_add, Nat.mod_eq_of_lt (by omega)]
  have hp : 2 ^ w = 2 ^ (w - 1) * 2 := by rw [← Nat.pow_succ]; congr 1; omega
  have hpp := Nat.two_pow_pos (w - 1)
  have hadd := ln_add (w := w) (A := (z &&& lowM used top).toNat) (B := (lowM used top).toNat) (k := lc w) (fun l hl => by
    rw [M.lnAnd z hl, M.lnLow hl]
    have := Nat.mod_lt (ln w z.toNat l) hpp
    omega) l hl
  rw [M.lnAnd z hl, M.lnLow hl] at hadd
  have hb : ((z &&& lowM used top) + lowM used top).getLsbD (w * l + (w - 1)) = decide (ln w z.toNat l % 2 ^ (w - 1) ≠ 0) := by
    show ((z &&& lowM used top) + lowM used top).toNat.testBit (w * l + (w - 1)) = _
    have e := ln_bit w ((z &&& lowM used top).toNat + (lowM used top).toNat) l (w - 1)
    simp only [hj, decide_true, Bool.true_and] at e
    rw [hsum, ← e, hadd]
    have hm := Nat.mod_lt (ln w z.toNat l) hpp
    rw [top_bit (by rw [show w - 1 + 1 = w by omega]; omega)]
    apply decide_eq_decide.2
    omega
  rw [hb]
  have hs := ln_split hlo z.toNat l
  have hzt : z.toNat.testBit (w * l + (w - 1)) = (x.getLsbD (w * l + (w - 1)) ^^ y.getLsbD (w * l + (w - 1))) := hzb _ hj
  rw [hzt] at hs
  have key : (ln w x.toNat l = ln w y.toNat l) ↔ ln w z.toNat l = 0 := by
    constructor
    · intro h
      apply Nat.eq_of_testBit_eq
      intro j
      rw [ln_bit, Nat.zero_testBit]
      by_cases hjw : j < w
      · have e := congrArg (fun n => n.testBit j) h
        simp only [ln_bit, hjw, decide_true, Bool.true_and] at e
        have e' : x.getLsbD (w * l + j) = y.getLsbD (w * l + j) := e
        show (_ && z.getLsbD (w * l + j)) = _
        rw [hzb j hjw, e']; simp
      · simp [hjw]
    · intro h
      apply ln_eq
      intro j hjw
      have e := congrArg (fun n => n.testBit j) h
      simp only [ln_bit, hjw, decide_true, Bool.true_and, Nat.zero_testBit] at e
      have e' : z.getLsbD (w * l + j) = false := e
      rw [hzb j hjw] at e'
      show x.getLsbD _ = y.getLsbD _
      simpa using e'
  have hk : decide (ln w x.toNat l = ln w y.toNat l) = decide (ln w z.toNat l = 0) := by simp only [key]
  rw [hk]
  cases ht : (x.getLsbD (w * l + (w - 1)) ^^ y.getLsbD (w * l + (w - 1))) with
  | true =>
    rw [ht] at hs
    simp only [Bool.toNat_true, Nat.mul_one] at hs
    have : ¬ ln w z.toNat l = 0 := by omega
    simp [this]
  | false =>
    rw [ht] at hs
    simp only [Bool.toNat_false, Nat.mul_zero, Nat.add_zero] at hs
    rw [← hs]
    simp

def belowB (used top x y : BitVec 64) : BitVec 64 :=
  (~~~ x &&& y ||| ~~~ (x ^^^ y) &&& (~~~ ((x &&& lowM used top ||| top) - (y &&& lowM used top)) &&& top)) &&& top

theorem Masks.topNat (M : Masks w used top) {l : Nat} (hl : l < lc w) (hj : w - 1 < w) : top.getLsbD (w * l + (w - 1)) = true := by rw [M.topL hl hj]; simp

theorem lnOrTop (M : Masks w used top) (x : BitVec 64) {l : Nat} (hl : l < lc w) : ln w (x &&& lowM used top ||| top).toNat l = ln w x.toNat l % 2 ^ (w - 1) + 2 ^ (w - 1) := by
  have hlo := M.lo
  have hj : w - 1 < w := by omega
  have h1 := ln_split hlo (x &&& lowM used top ||| top).toNat l
  have h2 : (x &&& lowM used top ||| top).toNat.testBit (w * l + (w - 1)) = true := by
    show (x &&& lowM used top ||| top).getLsbD _ = true
    rw [BitVec.getLsbD_or, M.topNat hl hj, Bool.or_true]
  rw [h2] at h1
  have h3 : ln w (x &&& lowM used top ||| top).toNat l % 2 ^ (w - 1) = ln w x.toNat l % 2 ^ (w - 1) := by
    apply Nat.eq_of_testBit_eq
    intro j
    rw [Nat.testBit_mod_two_pow, Nat.testBit_mod_two_pow, ln_bit, ln_bit]
    by_cases hjw : j < w - 1
    · have : j < w := by omega
      show (_ && (_ && (x &&& lowM used top ||| top).getLsbD (w * l + j))) = (_ && (_ && x.getLsbD (w * l + j)))
      rw [BitVec.getLsbD_or, BitVec.getLsbD_and, M.lowL hl this, M.topL hl this]
      have h4 : ¬ j = w - 1 := by omega
      simp [hjw, h4]
    · simp [hjw]
  rw [h3] at h1
  simpa using h1

theorem below_top (M : Masks w used top) (x y : BitVec 64) {l : Nat} (hl : l < lc w) : (belowB used top x y).getLsbD (w * l + (w - 1)) = decide (ln w x.toNat l < ln w y.toNat l) := by
  have hlo := M.lo
  have hj : w - 1 < w := by omega
  have h1 := lane_lt hl hj
  have h2 := @lc_le w
  have h3 : w * l + (w - 1) < 64 := by omega
  have hpp := Nat.two_pow_pos (w - 1)
  obtain ⟨a, ha⟩ : ∃ a, x &&& lowM used top ||| top = a := ⟨_, rfl⟩
  obtain ⟨b, hb⟩ : ∃ b, y &&& lowM used top = b := ⟨_, rfl⟩
  have hbl : b.toNat < 2 ^ (w * lc w) := by
    apply lt_pow
    intro j hj
    show b.getLsbD j = false
    rw [← hb, BitVec.getLsbD_and, M.lowOut hj, Bool.and_false]
  obtain ⟨hle, hsub⟩ := ln_sub (w := w) (A := a.toNat) (B := b.toNat) (k := lc w) hbl (fun l hl => by
    rw [← ha, ← hb, lnOrTop M x hl, M.lnAnd y hl]
    have := Nat.mod_lt (ln w y.toNat l) hpp
    omega)
  have hs := hsub l hl
  rw [← ha, ← hb, lnOrTop M x hl, M.lnAnd y hl, ha, hb] at hs
  have hp : 2 ^ w = 2 ^ (w - 1) * 2 := by rw [← Nat.pow_succ]; congr 1; omega
  have mx := Nat.mod_lt (ln w x.toNat l) hpp
  have my := Nat.mod_lt (ln w y.toNat l) hpp
  have hd : (a - b).getLsbD (w * l + (w - 1)) = decide (ln w y.toNat l % 2 ^ (w - 1) ≤ ln w x.toNat l % 2 ^ (w - 1)) := by
    show (a - b).toNat.testBit (w * l + (w - 1)) = _
    rw [BitVec.toNat_sub_of_le (by exact hle)]
    have e := ln_bit w (a.toNat - b.toNat) l (w - 1)
    simp only [hj, decide_true, Bool.true_and] at e
    rw [← e, hs, top_bit (by rw [show w - 1 + 1 = w by omega]; omega)]
    apply decide_eq_decide.2
    omega
  unfold belowB
  rw [ha, hb]
  simp only [BitVec.getLsbD_and, BitVec.getLsbD_or, BitVec.getLsbD_not, BitVec.getLsbD_xor, M.topNat hl hj, hd, h3, decide_true, Bool.true_and, Bool.and_true]
  have sx := ln_split hlo x.toNat l
  have sy := ln_split hlo y.toNat l
  have ex : x.toNat.testBit (w * l + (w - 1)) = x.getLsbD (w * l + (w - 1)) := rfl
  have ey : y.toNat.testBit (w * l + (w - 1)) = y.getLsbD (w * l + (w - 1)) := rfl
  rw [ex] at sx
  rw [ey] at sy
  obtain ⟨X, hX⟩ : ∃ X, ln w x.toNat l % 2 ^ (w - 1) = X := ⟨_, rfl⟩
  obtain ⟨Y, hY⟩ : ∃ Y, ln w y.toNat l % 2 ^ (w - 1) = Y := ⟨_, rfl⟩
  rw [hX] at sx mx ⊢
  rw [hY] at sy my ⊢
  cases hx : x.getLsbD (w * l + (w - 1)) <;> cases hy : y.getLsbD (w * l + (w - 1)) <;> rw [hx] at sx <;> rw [hy] at sy <;> simp only [Bool.toNat_true, Bool.toNat_false, Nat.mul_one, Nat.mul_zero, Nat.add_zero] at sx sy
  · rw [Bool.eq_iff_iff]; simp; omega
  · rw [Bool.eq_iff_iff]; simp; omega
  · rw [Bool.eq_iff_iff]; simp; omega
  · rw [Bool.eq_iff_iff]; simp; omega

theorem equal_out (M : Masks w used top) (x y : BitVec 64) {j : Nat} (hj : ¬ (j < w * lc w ∧ j % w = w - 1)) : (equalB used top x y).getLsbD j = false := by
  by_cases h : j < 64
  · unfold equalB
    rw [BitVec.getLsbD_and, M.top j h]
    rw [not_and] at hj
    by_cases h1 : j < w * lc w
    · simp [hj h1]
    · simp [h1]
  · exact BitVec.getLsbD_of_ge _ _ (by omega)

theorem below_out (M : Masks w used top) (x y : BitVec 64) {j : Nat} (hj : ¬ (j < w * lc w ∧ j % w = w - 1)) : (belowB used top x y).getLsbD j = false := by
  by_cases h : j < 64
  · unfold belowB
    rw [BitVec.getLsbD_and, M.top j h]
    rw [not_and] at hj
    by_cases h1 : j < w * lc w
    · simp [hj h1]
    · simp [h1]
  · exact BitVec.getLsbD_of_ge _ _ (by omega)

end
end Go.Ax
