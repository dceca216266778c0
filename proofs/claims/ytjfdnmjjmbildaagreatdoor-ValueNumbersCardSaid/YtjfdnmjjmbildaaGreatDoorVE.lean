/- Seat value: how values stand to each other. -/
import Derived.Test.YtjfdnmjjmbildaaGreatDoorVC
namespace Go.Ax
open Go.Proofs
set_option linter.unusedVariables false
set_option linter.unusedSimpArgs false
set_option maxRecDepth 100000

/-- -1, 0, 1. -/
def cmpI (a b : Int) : Int := if a < b then -1 else if b < a then 1 else 0
/-- Numbers as they are worth. -/
def cmpV (a b : Int) : Int := if a < b then -1 else if b < a then 1 else 0

theorem isNaNi_spec {h : Heap} {a : Int} : Gives P T (.fn F_cmp_isNaN_int) [.int .i64 a] h fun v h' => v = .bool false ∧ h' = h := by
  refine gives_by t_cmp_isNaN_int (by simp [c_cmp_isNaN_int]) fun Q hQ => ?_
  simp [c_cmp_isNaN_int]
  exact hQ _ _ ⟨rfl, rfl⟩
theorem isNaNl_spec {h : Heap} {a : Int} : Gives P T (.fn F_cmp_isNaN_int64) [.int .i64 a] h fun v h' => v = .bool false ∧ h' = h := by
  refine gives_by t_cmp_isNaN_int64 (by simp [c_cmp_isNaN_int64]) fun Q hQ => ?_
  simp [c_cmp_isNaN_int64]
  exact hQ _ _ ⟨rfl, rfl⟩
theorem isNaNf_spec {h : Heap} {a : Nat} : Gives P T (.fn F_cmp_isNaN_float64) [.float .f64 a] h fun v h' => v = .bool (ford a a != some .eq) ∧ h' = h := by
  refine gives_by t_cmp_isNaN_float64 (by simp [c_cmp_isNaN_float64]) fun Q hQ => ?_
  simp [c_cmp_isNaN_float64]
  exact hQ _ _ ⟨rfl, rfl⟩

theorem cmpInt_spec {h : Heap} {a b : Int} : Gives P T (.fn F_cmp_Compare_int) [.int .i64 a, .int .i64 b] h fun v h' => v = .int .i64 (cmpI a b) ∧ h' = h := by
  refine gives_by t_cmp_Compare_int (by simp [c_cmp_Compare_int]) fun Q hQ => ?_
  simp [c_cmp_Compare_int]
  refine got_call isNaNi_spec ?_
  rintro _ _ ⟨rfl, rfl⟩
  simp
  refine got_call isNaNi_spec ?_
  rintro _ _ ⟨rfl, rfl⟩
  by_cases h1 : a < b
  · simp [h1]
    exact hQ _ _ ⟨by simp [cmpI, h1], rfl⟩
  · by_cases h2 : b < a
    · simp [h1, h2]
      exact hQ _ _ ⟨by simp [cmpI, h1, h2], rfl⟩
    · simp [h1, h2]
      exact hQ _ _ ⟨by simp [cmpI, h1, h2], rfl⟩

theorem cmpLong_spec {h : Heap} {a b : Int} : Gives P T (.fn F_cmp_Compare_int64) [.int .i64 a, .int .i64 b] h fun v h' => v = .int .i64 (cmpI a b) ∧ h' = h := by
  refine gives_by t_cmp_Compare_int64 (by simp [c_cmp_Compare_int64]) fun Q hQ => ?_
  simp [c_cmp_Compare_int64]
  refine got_call isNaNl_spec ?_
  rintro _ _ ⟨rfl, rfl⟩
  simp
  refine got_call isNaNl_spec ?_
  rintro _ _ ⟨rfl, rfl⟩
  by_cases h1 : a < b
  · simp [h1]
    exact hQ _ _ ⟨by simp [cmpI, h1], rfl⟩
  · by_cases h2 : b < a
    · simp [h1, h2]
      exact hQ _ _ ⟨by simp [cmpI, h1, h2], rfl⟩
    · simp [h1, h2]
      exact hQ _ _ ⟨by simp [cmpI, h1, h2], rfl⟩

/-- Of words that are numbers (or at least none of which is no number): what their order says. -/
theorem cmpFloat_spec {h : Heap} {a b : Nat} {c : Int} (ha : (ford a a == some .eq) = true) (hb : (ford b b == some .eq) = true) (hc : c = if (ford a b == some .lt) then -1 else if (ford a b == some .gt) then 1 else 0) :
    Gives P T (.fn F_cmp_Compare_float64) [.float .f64 a, .float .f64 b] h fun v h' => v = .int .i64 c ∧ h' = h := by
  refine gives_by t_cmp_Compare_float64 (by simp [c_cmp_Compare_float64]) fun Q hQ => ?_
  have ha' : (ford a a != some .eq) = false := by rw [bne, ha]; rfl
  have hb' : (ford b b != some .eq) = false := by rw [bne, hb]; rfl
  simp [c_cmp_Compare_float64]
  refine got_call isNaNf_spec ?_
  rintro _ _ ⟨rfl, rfl⟩
  rw [ha']
  simp
  refine got_call isNaNf_spec ?_
  rintro _ _ ⟨rfl, rfl⟩
  rw [hb']
  subst hc
  cases h1 : (ford a b == some .lt) with
  | true =>
    simp [h1]
    exact hQ _ _ ⟨by simp [h1], rfl⟩
  | false =>
    cases h2 : (ford a b == some .gt) with
    | true =>
      simp [h1, h2]
      exact hQ _ _ ⟨by simp [h1, h2], rfl⟩
    | false =>
      simp [h1, h2]
      exact hQ _ _ ⟨by simp [h1, h2], rfl⟩

/-! ### a whole number against a real -/

theorem conv_fi {a : Nat} (hf : fin a) (h1 : -9223372036854775808 ≤ TR a) (h2 : TR a < 9223372036854775808) : pures P (convert 22 2 (.float .f64 a)) = some (.int .i64 (TR a)) := by
  have e : pures P (convert 22 2 (.float .f64 a)) = pures P (Conv.floatToInt .f64 a .i64) := by kernel_rfl
  rw [e]
  have hd : (FloatKind.f64.decode a).toInt .zero = some (TR a) := toInt_fin hf
  unfold Conv.floatToInt
  rw [hd]
  simp only
  rw [if_pos ⟨by simp [IntKind.min, IntKind.signed, IntKind.bits]; omega, by simp [IntKind.max, IntKind.signed, IntKind.bits]; omega⟩]
  rfl

theorem conv_if (n : Int) : pures P (convert 2 22 (.int .i64 n)) = some (.float .f64 (FloatKind.nearest .f64 n)) := by kernel_rfl

@[simp] theorem f_sub {h : Heap} {x y : Operand} {a b w : Nat} (e : Ieee.double.sub a b = some w) : abinop P h .sub 22 .other x y (.float .f64 a) (.float .f64 b) = some (.float .f64 w) := by
  have e1 : abinop P h .sub 22 .other x y (.float .f64 a) (.float .f64 b) = (match pures P (Op.floatArith .sub .f64 a b) with | some v => some v | none => nanSub (.float .f64 a) (.float .f64 b)) := rfl
  rw [e1]
  unfold Op.floatArith
  have e2 : FloatKind.f64.format.sub a b = some w := e
  simp only [e2]
  rfl

theorem c63_val : V 4890909195324358656 = ((9223372036854775808 * 2 ^ UE : Nat) : Int) ∧ fin 4890909195324358656 := by
  have hU := UE_eq
  have h1 : sgn 4890909195324358656 = false := rfl
  have h2 : mn 4890909195324358656 = 4503599627370496 := rfl
  obtain ⟨E, h3⟩ : ∃ E, ex 4890909195324358656 = E := ⟨_, rfl⟩
  have h4 : E = 1085 := h3.symm.trans rfl
  refine ⟨?_, by unfold fin rg; omega⟩
  rw [V_pos h1]
  unfold mag
  rw [h2, h3, show (4503599627370496 : Nat) = 2 ^ 52 from rfl, show (9223372036854775808 : Nat) = 2 ^ 63 from rfl, ← Nat.pow_add, ← Nat.pow_add, show 63 + UE = 52 + E by omega]

theorem n63_val : V 14114281232179134464 = -((9223372036854775808 * 2 ^ UE : Nat) : Int) ∧ fin 14114281232179134464 := by
  have hU := UE_eq
  have h1 : sgn 14114281232179134464 = true := rfl
  have h2 : mn 14114281232179134464 = 4503599627370496 := rfl
  obtain ⟨E, h3⟩ : ∃ E, ex 14114281232179134464 = E := ⟨_, rfl⟩
  have h4 : E = 1085 := h3.symm.trans rfl
  refine ⟨?_, by unfold fin rg; omega⟩
  rw [V_neg h1]
  unfold mag
  rw [h2, h3, show (4503599627370496 : Nat) = 2 ^ 52 from rfl, show (9223372036854775808 : Nat) = 2 ^ 63 from rfl, ← Nat.pow_add, ← Nat.pow_add, show 63 + UE = 52 + E by omega]

theorem tr_bounds {a : Nat} (h1 : ¬ ((9223372036854775808 * 2 ^ UE : Nat) : Int) ≤ V a) (h2 : ¬ V a < -((9223372036854775808 * 2 ^ UE : Nat) : Int)) :
    -9223372036854775808 ≤ TR a ∧ TR a < 9223372036854775808 ∧ mag a < 2 ^ 64 * 2 ^ UE := by
  obtain ⟨U, hU⟩ : ∃ U, 2 ^ UE = U := ⟨_, rfl⟩
  have hp : 0 < U := by rw [← hU]; exact Nat.two_pow_pos _
  obtain ⟨c, hc⟩ : ∃ c, mag a / 2 ^ UE = c := ⟨_, rfl⟩
  have hTR : TR a = if sgn a then -(c : Int) else (c : Int) := by unfold TR; rw [hc]
  have hcU : c * U ≤ mag a := by rw [← hc, hU]; exact Nat.div_mul_le_self _ _
  rw [hU] at h1 h2 ⊢
  have h64 : 9223372036854775808 * U < 2 ^ 64 * U := Nat.mul_lt_mul_of_pos_right (by decide) hp
  cases hs : sgn a with
  | false =>
    rw [V_pos hs] at h1
    rw [hs] at hTR
    simp only [Bool.false_eq_true, if_false] at hTR
    have h3 : mag a < 9223372036854775808 * U := by omega
    have h4 : c < 9223372036854775808 := Nat.lt_of_mul_lt_mul_right (Nat.lt_of_le_of_lt hcU h3)
    exact ⟨by omega, by omega, Nat.lt_trans h3 h64⟩
  | true =>
    rw [V_neg hs] at h2
    rw [hs] at hTR
    simp only [if_true] at hTR
    have h3 : mag a ≤ 9223372036854775808 * U := by omega
    have h4 : c ≤ 9223372036854775808 := Nat.le_of_mul_le_mul_right (Nat.le_trans hcU h3) hp
    exact ⟨by omega, by omega, Nat.lt_of_le_of_lt h3 h64⟩

/-- A whole number against a real. -/
def agI (i : Int) (a : Nat) : Int :=
  if ((9223372036854775808 * 2 ^ UE : Nat) : Int) ≤ V a then -1
  else if V a < -((9223372036854775808 * 2 ^ UE : Nat) : Int) then 1
  else if cmpI i (TR a) ≠ 0 then cmpI i (TR a)
  else cmpI (TR a * ((2 ^ UE : Nat) : Int)) (V a)

theorem geq63 {a : Nat} (hf : fin a) : (ford a 4890909195324358656 == some .gt || ford a 4890909195324358656 == some .eq) = decide (((9223372036854775808 * 2 ^ UE : Nat) : Int) ≤ V a) := by
  obtain ⟨v, f⟩ := c63_val
  rw [fin_gt hf f, fin_eq hf f, v, Bool.eq_iff_iff, Bool.or_eq_true, decide_eq_true_eq, decide_eq_true_eq, decide_eq_true_eq]
  omega
theorem lssn63 {a : Nat} (hf : fin a) : (ford a 14114281232179134464 == some .lt) = decide (V a < -((9223372036854775808 * 2 ^ UE : Nat) : Int)) := by
  obtain ⟨v, f⟩ := n63_val
  rw [fin_lt hf f, v]

theorem against_spec {h : Heap} {i : Int} {a : Nat} (hf : fin a) : Gives P T (.fn F_value_against) [.int .i64 i, .float .f64 a] h fun v h' => v = .int .i64 (agI i a) ∧ h' = h := by
  refine gives_by t_value_against (by simp [c_value_against]) fun Q hQ => ?_
  by_cases h1 : ((9223372036854775808 * 2 ^ UE : Nat) : Int) ≤ V a
  · have e1 := geq63 hf
    rw [decide_eq_true h1] at e1
    simp [c_value_against, e1, -Bool.or_eq_true]
    exact hQ _ _ ⟨by unfold agI; rw [if_pos h1], rfl⟩
  have e1 := geq63 hf
  rw [decide_eq_false h1] at e1
  by_cases h2 : V a < -((9223372036854775808 * 2 ^ UE : Nat) : Int)
  · have e2 := lssn63 hf
    rw [decide_eq_true h2] at e2
    simp [c_value_against, e1, e2, -Bool.or_eq_true, -Bool.or_eq_false_iff]
    exact hQ _ _ ⟨by unfold agI; rw [if_neg h1, if_pos h2], rfl⟩
  have e2 := lssn63 hf
  rw [decide_eq_false h2] at e2
  obtain ⟨b1, b2, b3⟩ := tr_bounds h1 h2
  have cfi := conv_fi hf b1 b2
  have cR : ∀ h : Heap, convR P h .i64 22 2 (.float .f64 a) = some (.int .i64 (TR a), h) := fun h => by simp [convR, plain, plainN, cfi]
  simp [c_value_against, e1, e2, cR, -Bool.or_eq_true, -Bool.or_eq_false_iff]
  refine got_call cmpLong_spec ?_
  rintro _ _ ⟨rfl, rfl⟩
  by_cases h3 : cmpI i (TR a) = 0
  · obtain ⟨w1, w2⟩ := int_val b3
    obtain ⟨w, hw, hn, hl, hg⟩ := sub_ord hf w1
    have hcv : ∀ h : Heap, (if plain (Value.int .i64 (TR a)) = true then valR h (pures P (convert 2 22 (.int .i64 (TR a)))) else none) = some (.float .f64 (FloatKind.nearest .f64 (TR a)), h) := fun h => by simp [plain, plainN, conv_if]
    obtain ⟨c, hc⟩ : ∃ c : Int, c = if (ford 0 w == some .lt) then -1 else if (ford 0 w == some .gt) then 1 else 0 := ⟨_, rfl⟩
    simp [h3, hcv, hw]
    refine got_call (cmpFloat_spec (a := 0) (b := w) rfl hn hc) ?_
    rintro _ _ ⟨rfl, rfl⟩
    simp
    refine hQ _ _ ⟨?_, rfl⟩
    congr 1
    unfold agI
    rw [if_neg h1, if_neg h2, if_neg (fun h => h h3), ← w2, hc, hl, hg]
    unfold cmpI
    simp only [decide_eq_true_eq]
  · simp [h3]
    exact hQ _ _ ⟨by unfold agI; rw [if_neg h1, if_neg h2, if_pos h3], rfl⟩

end Go.Ax
