/- Seat value: which values may be. -/
import Derived.Test.YtjfdnmjjmbildaaGreatDoorVF
namespace Go.Ax
open Go.Proofs
set_option linter.unusedVariables false
set_option linter.unusedSimpArgs false

section
variable {P : Program} {cf : CF} {t : List Value} {h : Heap}
def lenSR (h : Heap) : Value → Option (Value × Heap)
  | .string s => some (.int .i64 s.size, h)
  | _ => none
@[simp] theorem op_lenS {x : Operand} : runOp P cf (.lenS x) t h = lenSR h (evalT t x) := by
  unfold runOp lenSR; simp only [aop]
  generalize evalT t x = u
  cases u <;> rfl
@[simp] theorem lenS_bstr {bs : List (BitVec 8)} : lenSR h (.string (bstr bs)) = some (.int .i64 bs.length, h) := by
  simp [lenSR, bstr_size]
@[simp] theorem ev_float {k : FloatKind} {a : Nat} : evalT t (.const (.float k a)) = .float k a := rfl
@[simp] theorem op_conv {s d : TypeId} {x : Operand} : runOp P cf (.conv s d x) t h = if plain (evalT t x) then valR h (pures P (convert s d (evalT t x))) else none := by
  unfold runOp; simp only [aop]
  by_cases hp : plain (evalT t x) = true
  · rw [if_pos hp, if_pos hp]
    unfold toVal
    cases pures P (convert s d (evalT t x)) <;> rfl
  · rw [if_neg hp, if_neg hp]
end

theorem str_nil : (ByteArray.mk #[]) = bstr [] := rfl

/-- The words of the greatest number, of 2^63, of -2^63. -/
theorem rg_rg (a : Nat) : rg (rg a) = rg a := by unfold rg; omega
theorem rg_lt (a : Nat) : rg a < 9223372036854775808 := by unfold rg; omega

theorem mag_le {a : Nat} (h : fin a) : mag a ≤ mag 9218868437227405311 := by
  unfold fin at h
  have h1 : mn a ≤ 9007199254740991 := by have := mn_lt a; omega
  have h3 : mn 9218868437227405311 = 9007199254740991 := rfl
  obtain ⟨E, hE⟩ : ∃ E, ex 9218868437227405311 = E := ⟨_, rfl⟩
  have h4 : E = 2045 := hE.symm.trans rfl
  have h2 : ex a ≤ E := by unfold ex; omega
  unfold mag
  rw [h3, hE]
  exact Nat.mul_le_mul h1 (Nat.pow_le_pow_right (by omega) h2)

theorem nan_iff (a : Nat) : (ford a a != some .eq) = decide (9218868437227405312 < rg a) := by
  by_cases h1 : 9218868437227405312 < rg a
  · rw [ford_nan (.inl h1)]; simp [h1]
  · by_cases h2 : rg a = 9218868437227405312
    · rw [ford_inf_inf h2]; simp [h1]
    · have f : fin a := by unfold fin; omega
      rw [ford_fin f f, Int.compare_eq_eq.2 rfl]; simp [h1]

theorem inf_iff (a : Nat) : (ford (rg a) 9218868437227405311 == some .gt) = decide (rg a = 9218868437227405312) := by
  have fm : fin 9218868437227405311 := by unfold fin rg; omega
  by_cases h1 : 9218868437227405312 < rg a
  · rw [ford_nan (.inl (by rw [rg_rg]; exact h1))]
    have : ¬ rg a = 9218868437227405312 := by omega
    simp [this]
  · by_cases h2 : rg a = 9218868437227405312
    · rw [h2]; rfl
    · have f : fin (rg a) := by unfold fin; rw [rg_rg]; omega
      have hs : sgn (rg a) = false := by have := rg_lt a; unfold sgn; have : rg a / 9223372036854775808 = 0 := by omega
                                         rw [this]; rfl
      have hm := mag_le f
      rw [fin_gt f fm, V_pos hs, V_pos (a := 9218868437227405311) rfl]
      have h3 : ¬ ((mag 9218868437227405311 : Nat) : Int) < (mag (rg a) : Nat) := by omega
      rw [decide_eq_false h3, decide_eq_false h2]

theorem num_iff (a : Nat) : (ford (rg a) 9218868437227405311 == some .lt || ford (rg a) 9218868437227405311 == some .eq) = decide (rg a < 9218868437227405312) := by
  have fm : fin 9218868437227405311 := by unfold fin rg; omega
  by_cases h1 : 9218868437227405312 < rg a
  · rw [ford_nan (.inl (by rw [rg_rg]; exact h1))]
    have : ¬ rg a < 9218868437227405312 := by omega
    simp [this]
  · by_cases h2 : rg a = 9218868437227405312
    · rw [h2]; rfl
    · have f : fin (rg a) := by unfold fin; rw [rg_rg]; omega
      have hs : sgn (rg a) = false := by have := rg_lt a; unfold sgn; have : rg a / 9223372036854775808 = 0 := by omega
                                         rw [this]; rfl
      have hm := mag_le f
      rw [fin_lt f fm, fin_eq f fm, V_pos hs, V_pos (a := 9218868437227405311) rfl]
      have h4 : rg a < 9218868437227405312 := by omega
      rw [decide_eq_true h4, Bool.or_eq_true, decide_eq_true_eq, decide_eq_true_eq]
      omega

theorem zero_iff (a : Nat) : (ford a 0 == some .eq) = decide (rg a = 0) := by
  have f0 : fin 0 := by unfold fin rg; omega
  by_cases h1 : 9218868437227405312 < rg a
  · rw [ford_nan (.inl h1)]
    have : ¬ rg a = 0 := by omega
    simp [this]
  · by_cases h2 : rg a = 9218868437227405312
    · rw [ford_inf_fin h2 f0]
      have : ¬ rg a = 0 := by omega
      cases sgn a <;> simp [this]
    · have f : fin a := by unfold fin; omega
      rw [fin_eq f f0, show V 0 = 0 from V_zero.2 rfl]
      simp only [V_zero]

theorem and_not_sign {a : Nat} (ha : a < 18446744073709551616) : abin .andNot .u64 (a : Int) 9223372036854775808 = some (.int .u64 (rg a : Nat)) := by
  have h : (BitVec.ofInt 64 (a : Int) &&& ~~~BitVec.ofInt 64 9223372036854775808).toNat = rg a := by
    have e1 : ~~~BitVec.ofInt 64 9223372036854775808 = 0x7fffffffffffffff#64 := rfl
    rw [e1, BitVec.toNat_and]
    have e2 : (BitVec.ofInt 64 (a : Int)).toNat = a := by rw [BitVec.toNat_ofInt]; omega
    have e3 : (0x7fffffffffffffff#64).toNat = 2 ^ 63 - 1 := rfl
    rw [e2, e3, Nat.and_two_pow_sub_one_eq_mod]; rfl
  have hr := rg_lt a
  have e : abin .andNot .u64 (a : Int) 9223372036854775808 = some (.int .u64 (IntKind.u64.wrap ((BitVec.ofInt 64 (a : Int) &&& ~~~BitVec.ofInt 64 9223372036854775808).toNat : Int))) := rfl
  rw [e, h, wrap_u64 (by omega) (by omega)]

theorem Abs_spec {h : Heap} {a : Nat} (ha : a < 18446744073709551616) : Gives P T (.fn F_math_Abs) [.float .f64 a] h fun v h' => v = .float .f64 (rg a) ∧ h' = h := by
  refine gives_by t_math_Abs (by simp [c_math_Abs]) fun Q hQ => ?_
  simp [c_math_Abs]
  refine got_call bits_spec ?_
  rintro _ _ ⟨rfl, rfl⟩
  simp [and_not_sign ha]
  refine got_call frombits_spec ?_
  rintro _ _ ⟨rfl, rfl⟩
  simp
  exact hQ _ _ ⟨rfl, rfl⟩

theorem IsNaN_spec {h : Heap} {a : Nat} : Gives P T (.fn F_math_IsNaN) [.float .f64 a] h fun v h' => v = .bool (decide (9218868437227405312 < rg a)) ∧ h' = h := by
  refine gives_by t_math_IsNaN (by simp [c_math_IsNaN]) fun Q hQ => ?_
  simp [c_math_IsNaN, nan_iff]
  exact hQ _ _ ⟨rfl, rfl⟩

theorem IsInf_spec {h : Heap} {a : Nat} (ha : a < 18446744073709551616) : Gives P T (.fn F_math_IsInf) [.float .f64 a, .int .i64 0] h fun v h' => v = .bool (decide (rg a = 9218868437227405312)) ∧ h' = h := by
  refine gives_by t_math_IsInf (by simp [c_math_IsInf]) fun Q hQ => ?_
  simp [c_math_IsInf]
  refine got_call (Abs_spec ha) ?_
  rintro _ _ ⟨rfl, rfl⟩
  simp [inf_iff]
  exact hQ _ _ ⟨rfl, rfl⟩

theorem Signbit_spec {h : Heap} {a : Nat} (ha : a < 18446744073709551616) : Gives P T (.fn F_math_Signbit) [.float .f64 a] h fun v h' => v = .bool (decide (9223372036854775808 ≤ a)) ∧ h' = h := by
  refine gives_by t_math_Signbit (by simp [c_math_Signbit]) fun Q hQ => ?_
  simp [c_math_Signbit]
  refine got_call bits_spec ?_
  rintro _ _ ⟨rfl, rfl⟩
  have hw : decide (IntKind.i64.wrap (a : Int) < 0) = decide (9223372036854775808 ≤ a) := by
    rw [decide_eq_decide]
    simp [IntKind.wrap, IntKind.bits, IntKind.signed]
    omega
  simp [hw]
  exact hQ _ _ ⟨rfl, rfl⟩

theorem plus_spec {h : Heap} {a : Nat} (ha : a < 18446744073709551616) : Gives P T (.fn F_colonnaderef05_plus) [.float .f64 a] h fun v h' => v = .bool (decide (a = 0)) ∧ h' = h := by
  refine gives_by t_colonnaderef05_plus (by simp [c_colonnaderef05_plus]) fun Q hQ => ?_
  by_cases hr : rg a = 0
  · simp [c_colonnaderef05_plus, zero_iff, hr]
    refine got_call (Signbit_spec ha) ?_
    rintro _ _ ⟨rfl, rfl⟩
    have h1 : (!decide (9223372036854775808 ≤ a)) = decide (a = 0) := by
      unfold rg at hr
      by_cases h0 : a = 0
      · subst h0; rfl
      · have : 9223372036854775808 ≤ a := by omega
        simp [this, h0]
    simp [h1]
    exact hQ _ _ ⟨rfl, rfl⟩
  · have h0 : ¬ a = 0 := by rintro rfl; exact hr rfl
    simp [c_colonnaderef05_plus, zero_iff, hr, skipV]
    exact hQ _ _ ⟨by simp [h0], rfl⟩

/-- A value's fields. -/
def vCells (k i : Int) (a : Nat) (bs : List (BitVec 8)) : List Value := [.int .i64 k, .int .i64 i, .float .f64 a, .string (bstr bs)]

/-- May a value be? -/
def mayB (k i : Int) (a n : Nat) : Bool :=
  if k = 0 then decide (i = 0) && decide (a = 0) && decide (n = 0)
  else if k = 1 then decide (a = 0) && decide (n = 0)
  else if k = 2 then decide (i = 0) && decide (a = 0) && decide (n ≤ 65535)
  else if k = 3 then decide (i = 0) && decide (n = 0) && decide (rg a < 9218868437227405312) && decide (a ≠ 9223372036854775808)
  else false

set_option maxHeartbeats 8000000 in
theorem May_spec {h : Heap} {k i : Int} {a : Nat} {bs : List (BitVec 8)} (ha : a < 18446744073709551616) :
    Gives P T (.fn F_value_May) [.agg (vCells k i a bs).toArray] h fun v h' => v = .bool (mayB k i a bs.length) ∧ Grow h h' := by
  refine gives_by t_value_May (by simp [c_value_May]) fun Q hQ => ?_
  have g := Grow.new h (vCells k i a bs) 0
  have r := RowAt.new h (vCells k i a bs) 0
  have r0 := r.get (i := 0) (x := .int .i64 k) rfl
  have r1 := r.get (i := 1) (x := .int .i64 i) rfl
  have r2 := r.get (i := 2) (x := .float .f64 a) rfl
  have r3 := r.get (i := 3) (x := .string (bstr bs)) rfl
  obtain ⟨G, hG⟩ : ∃ G, hnew h (vCells k i a bs) 0 = G := ⟨_, rfl⟩
  rw [hG] at g r0 r1 r2 r3
  obtain ⟨n, hn⟩ : ∃ n, bs.length = n := ⟨_, rfl⟩
  have hbs : (bs = []) = (n = 0) := by rw [← hn]; simp
  have hk : k = 0 ∨ k = 1 ∨ k = 2 ∨ k = 3 ∨ (¬ k = 0 ∧ ¬ k = 1 ∧ ¬ k = 2 ∧ ¬ k = 3 ∧ ¬ 0 ≤ k) ∨ (¬ k = 0 ∧ ¬ k = 1 ∧ ¬ k = 2 ∧ ¬ k = 3 ∧ 0 ≤ k ∧ ¬ k < 3) := by omega
  have hl' : ((n : Int) ≤ 65535) = (n ≤ 65535) := by simp; omega
  rcases hk with rfl | rfl | rfl | rfl | ⟨h0, h1, h2, h3, h4⟩ | ⟨h0, h1, h2, h3, h4, h5⟩
  · rcases Bool.eq_false_or_eq_true (decide (i = 0)) with hi | hi
    all_goals rcases Bool.eq_false_or_eq_true (decide (n = 0)) with hb | hb
    all_goals rcases Bool.eq_false_or_eq_true (decide (a = 0)) with ha0 | ha0
    all_goals simp [c_value_May, hG, r0, r1, r2, r3, str_nil, hbs, hn, skipV, hi, hb, ha0]
    all_goals repeat (first | (refine got_call (Abs_spec ha) ?_; rintro _ _ ⟨rfl, rfl⟩; simp [r0, r1, r2, r3, str_nil, hbs, hn, skipV, hi, hb, ha0, num_iff]) | (refine got_call bits_spec ?_; rintro _ _ ⟨rfl, rfl⟩; simp [r0, r1, r2, r3, str_nil, hbs, hn, skipV, hi, hb, ha0, num_iff]))
    all_goals first | (refine hQ _ _ ⟨?_, g⟩; simp [mayB, hn, hi, hb, ha0]; done) | (refine hQ _ _ ⟨?_, g⟩; simp [mayB, hn, hi, hb, ha0]; omega) | (exfalso; simp at hi hb ha0; omega) | (refine hQ _ _ ⟨?_, g⟩; simp only [decide_eq_true_eq, decide_eq_false_iff_not] at hi hb ha0; congr 1; rw [Bool.eq_iff_iff]; simp [mayB, hn]; unfold rg at *; omega)
  · rcases Bool.eq_false_or_eq_true (decide (i = 0)) with hi | hi
    all_goals rcases Bool.eq_false_or_eq_true (decide (n = 0)) with hb | hb
    all_goals rcases Bool.eq_false_or_eq_true (decide (a = 0)) with ha0 | ha0
    all_goals simp [c_value_May, hG, r0, r1, r2, r3, str_nil, hbs, hn, skipV, hi, hb, ha0]
    all_goals repeat (first | (refine got_call (Abs_spec ha) ?_; rintro _ _ ⟨rfl, rfl⟩; simp [r0, r1, r2, r3, str_nil, hbs, hn, skipV, hi, hb, ha0, num_iff]) | (refine got_call bits_spec ?_; rintro _ _ ⟨rfl, rfl⟩; simp [r0, r1, r2, r3, str_nil, hbs, hn, skipV, hi, hb, ha0, num_iff]))
    all_goals first | (refine hQ _ _ ⟨?_, g⟩; simp [mayB, hn, hi, hb, ha0]; done) | (refine hQ _ _ ⟨?_, g⟩; simp [mayB, hn, hi, hb, ha0]; omega) | (exfalso; simp at hi hb ha0; omega) | (refine hQ _ _ ⟨?_, g⟩; simp only [decide_eq_true_eq, decide_eq_false_iff_not] at hi hb ha0; congr 1; rw [Bool.eq_iff_iff]; simp [mayB, hn]; unfold rg at *; omega)
  · rcases Bool.eq_false_or_eq_true (decide (i = 0)) with hi | hi
    all_goals rcases Bool.eq_false_or_eq_true (decide (n = 0)) with hb | hb
    all_goals rcases Bool.eq_false_or_eq_true (decide (n ≤ 65535)) with hl | hl
    all_goals rcases Bool.eq_false_or_eq_true (decide (a = 0)) with ha0 | ha0
    all_goals simp [c_value_May, hG, r0, r1, r2, r3, str_nil, hbs, hn, skipV, hi, hb, hl, ha0, hl']
    all_goals repeat (first | (refine got_call (Abs_spec ha) ?_; rintro _ _ ⟨rfl, rfl⟩; simp [r0, r1, r2, r3, str_nil, hbs, hn, skipV, hi, hb, hl, ha0, hl', num_iff]) | (refine got_call bits_spec ?_; rintro _ _ ⟨rfl, rfl⟩; simp [r0, r1, r2, r3, str_nil, hbs, hn, skipV, hi, hb, hl, ha0, hl', num_iff]))
    all_goals first | (refine hQ _ _ ⟨?_, g⟩; simp [mayB, hn, hi, hb, hl, ha0]; done) | (refine hQ _ _ ⟨?_, g⟩; simp [mayB, hn, hi, hb, hl, ha0]; omega) | (exfalso; simp at hi hb hl ha0; omega) | (refine hQ _ _ ⟨?_, g⟩; simp only [decide_eq_true_eq, decide_eq_false_iff_not] at hi hb hl ha0; congr 1; rw [Bool.eq_iff_iff]; simp [mayB, hn]; unfold rg at *; omega)
  · rcases Bool.eq_false_or_eq_true (decide (i = 0)) with hi | hi
    all_goals rcases Bool.eq_false_or_eq_true (decide (n = 0)) with hb | hb
    all_goals rcases Bool.eq_false_or_eq_true (decide (rg a < 9218868437227405312)) with hf | hf
    all_goals simp [c_value_May, hG, r0, r1, r2, r3, str_nil, hbs, hn, skipV, hi, hb, hf]
    all_goals repeat (first | (refine got_call (Abs_spec ha) ?_; rintro _ _ ⟨rfl, rfl⟩; simp [r0, r1, r2, r3, str_nil, hbs, hn, skipV, hi, hb, hf, num_iff]) | (refine got_call bits_spec ?_; rintro _ _ ⟨rfl, rfl⟩; simp [r0, r1, r2, r3, str_nil, hbs, hn, skipV, hi, hb, hf, num_iff]))
    all_goals first | (refine hQ _ _ ⟨?_, g⟩; simp [mayB, hn, hi, hb, hf]; done) | (refine hQ _ _ ⟨?_, g⟩; simp [mayB, hn, hi, hb, hf]; omega) | (exfalso; simp at hi hb hf; omega) | (refine hQ _ _ ⟨?_, g⟩; simp only [decide_eq_true_eq, decide_eq_false_iff_not] at hi hb hf; congr 1; rw [Bool.eq_iff_iff]; simp [mayB, hn]; unfold rg at *; omega)
  · rcases Bool.eq_false_or_eq_true (decide (i = 0)) with hi | hi
    all_goals rcases Bool.eq_false_or_eq_true (decide (n = 0)) with hb | hb
    all_goals rcases Bool.eq_false_or_eq_true (decide (a = 0)) with ha0 | ha0
    all_goals simp [c_value_May, hG, r0, r1, r2, r3, str_nil, hbs, hn, skipV, hi, hb, ha0, h0, h1, h2, h3, h4]
    all_goals repeat (first | (refine got_call (Abs_spec ha) ?_; rintro _ _ ⟨rfl, rfl⟩; simp [r0, r1, r2, r3, str_nil, hbs, hn, skipV, hi, hb, ha0, h0, h1, h2, h3, h4, num_iff]) | (refine got_call bits_spec ?_; rintro _ _ ⟨rfl, rfl⟩; simp [r0, r1, r2, r3, str_nil, hbs, hn, skipV, hi, hb, ha0, h0, h1, h2, h3, h4, num_iff]))
    all_goals first | (refine hQ _ _ ⟨?_, g⟩; simp [mayB, hn, hi, hb, ha0, h0, h1, h2, h3, h4]; done) | (refine hQ _ _ ⟨?_, g⟩; simp [mayB, hn, hi, hb, ha0, h0, h1, h2, h3, h4]; omega) | (exfalso; simp at hi hb ha0; omega) | (refine hQ _ _ ⟨?_, g⟩; simp only [decide_eq_true_eq, decide_eq_false_iff_not] at hi hb ha0; congr 1; rw [Bool.eq_iff_iff]; simp [mayB, hn]; unfold rg at *; omega)
  · rcases Bool.eq_false_or_eq_true (decide (i = 0)) with hi | hi
    all_goals rcases Bool.eq_false_or_eq_true (decide (n = 0)) with hb | hb
    all_goals rcases Bool.eq_false_or_eq_true (decide (a = 0)) with ha0 | ha0
    all_goals simp [c_value_May, hG, r0, r1, r2, r3, str_nil, hbs, hn, skipV, hi, hb, ha0, h0, h1, h2, h3, h4, h5]
    all_goals repeat (first | (refine got_call (Abs_spec ha) ?_; rintro _ _ ⟨rfl, rfl⟩; simp [r0, r1, r2, r3, str_nil, hbs, hn, skipV, hi, hb, ha0, h0, h1, h2, h3, h4, h5, num_iff]) | (refine got_call bits_spec ?_; rintro _ _ ⟨rfl, rfl⟩; simp [r0, r1, r2, r3, str_nil, hbs, hn, skipV, hi, hb, ha0, h0, h1, h2, h3, h4, h5, num_iff]))
    all_goals first | (refine hQ _ _ ⟨?_, g⟩; simp [mayB, hn, hi, hb, ha0, h0, h1, h2, h3, h4, h5]; done) | (refine hQ _ _ ⟨?_, g⟩; simp [mayB, hn, hi, hb, ha0, h0, h1, h2, h3, h4, h5]; omega) | (exfalso; simp at hi hb ha0; omega) | (refine hQ _ _ ⟨?_, g⟩; simp only [decide_eq_true_eq, decide_eq_false_iff_not] at hi hb ha0; congr 1; rw [Bool.eq_iff_iff]; simp [mayB, hn]; unfold rg at *; omega)

/-- The document's answer. -/
theorem refMay_spec {h : Heap} {k i : Int} {a : Nat} {bs : List (BitVec 8)} (ha : a < 18446744073709551616) :
    Gives P T (.fn F_colonnaderef05_May) [.agg (vCells k i a bs).toArray] h fun v h' => v = .bool (mayB k i a bs.length) ∧ Grow h h' := by
  refine gives_by t_colonnaderef05_May (by simp [c_colonnaderef05_May]) fun Q hQ => ?_
  have g := Grow.new h (vCells k i a bs) 0
  have r := RowAt.new h (vCells k i a bs) 0
  have r0 := r.get (i := 0) (x := .int .i64 k) rfl
  have r1 := r.get (i := 1) (x := .int .i64 i) rfl
  have r2 := r.get (i := 2) (x := .float .f64 a) rfl
  have r3 := r.get (i := 3) (x := .string (bstr bs)) rfl
  obtain ⟨G, hG⟩ : ∃ G, hnew h (vCells k i a bs) 0 = G := ⟨_, rfl⟩
  rw [hG] at g r0 r1 r2 r3
  obtain ⟨n, hn⟩ : ∃ n, bs.length = n := ⟨_, rfl⟩
  have hbs : (bs = []) = (n = 0) := by rw [← hn]; simp
  have zi := zero_iff a
  have hzs : (decide (rg a = 0) && decide (9223372036854775808 ≤ a)) = decide (a = 9223372036854775808) := by
    rw [← Bool.decide_and, decide_eq_decide]; unfold rg; omega
  have hk : k = 0 ∨ k = 1 ∨ k = 2 ∨ k = 3 ∨ (¬ k = 0 ∧ ¬ k = 1 ∧ ¬ k = 2 ∧ ¬ k = 3 ∧ ¬ 0 ≤ k) ∨ (¬ k = 0 ∧ ¬ k = 1 ∧ ¬ k = 2 ∧ ¬ k = 3 ∧ 0 ≤ k ∧ ¬ k < 3) := by omega
  have hl' : ((n : Int) ≤ 65535) = (n ≤ 65535) := by simp; omega
  rcases hk with rfl | rfl | rfl | rfl | ⟨h0, h1, h2, h3, h4⟩ | ⟨h0, h1, h2, h3, h4, h5⟩
  · rcases Bool.eq_false_or_eq_true (decide (i = 0)) with hi | hi
    all_goals rcases Bool.eq_false_or_eq_true (decide (n = 0)) with hb | hb
    all_goals rcases Bool.eq_false_or_eq_true (decide (a = 0)) with ha0 | ha0
    all_goals simp [c_colonnaderef05_May, zero_iff, hG, r0, r1, r2, r3, str_nil, hbs, hn, skipV, hi, hb, ha0]
    all_goals repeat (first | (refine got_call (plus_spec ha) ?_; rintro _ _ ⟨rfl, rfl⟩; simp [r0, r1, r2, r3, str_nil, hbs, hn, skipV, hi, hb, ha0, zero_iff]) | (refine got_call (Signbit_spec ha) ?_; rintro _ _ ⟨rfl, rfl⟩; simp [r0, r1, r2, r3, str_nil, hbs, hn, skipV, hi, hb, ha0, zero_iff]) | (refine got_call IsNaN_spec ?_; rintro _ _ ⟨rfl, rfl⟩; simp [r0, r1, r2, r3, str_nil, hbs, hn, skipV, hi, hb, ha0, zero_iff]) | (refine got_call (IsInf_spec ha) ?_; rintro _ _ ⟨rfl, rfl⟩; simp [r0, r1, r2, r3, str_nil, hbs, hn, skipV, hi, hb, ha0, zero_iff]))
    all_goals first | (refine hQ _ _ ⟨?_, g⟩; simp [mayB, hn, hi, hb, ha0]; done) | (refine hQ _ _ ⟨?_, g⟩; simp [mayB, hn, hi, hb, ha0]; omega) | (exfalso; simp at hi hb ha0; omega) | (refine hQ _ _ ⟨?_, g⟩; simp only [decide_eq_true_eq, decide_eq_false_iff_not] at hi hb ha0; congr 1; rw [Bool.eq_iff_iff]; simp [mayB, hn]; unfold rg at *; omega)
  · rcases Bool.eq_false_or_eq_true (decide (i = 0)) with hi | hi
    all_goals rcases Bool.eq_false_or_eq_true (decide (n = 0)) with hb | hb
    all_goals rcases Bool.eq_false_or_eq_true (decide (a = 0)) with ha0 | ha0
    all_goals simp [c_colonnaderef05_May, zero_iff, hG, r0, r1, r2, r3, str_nil, hbs, hn, skipV, hi, hb, ha0]
    all_goals repeat (first | (refine got_call (plus_spec ha) ?_; rintro _ _ ⟨rfl, rfl⟩; simp [r0, r1, r2, r3, str_nil, hbs, hn, skipV, hi, hb, ha0, zero_iff]) | (refine got_call (Signbit_spec ha) ?_; rintro _ _ ⟨rfl, rfl⟩; simp [r0, r1, r2, r3, str_nil, hbs, hn, skipV, hi, hb, ha0, zero_iff]) | (refine got_call IsNaN_spec ?_; rintro _ _ ⟨rfl, rfl⟩; simp [r0, r1, r2, r3, str_nil, hbs, hn, skipV, hi, hb, ha0, zero_iff]) | (refine got_call (IsInf_spec ha) ?_; rintro _ _ ⟨rfl, rfl⟩; simp [r0, r1, r2, r3, str_nil, hbs, hn, skipV, hi, hb, ha0, zero_iff]))
    all_goals first | (refine hQ _ _ ⟨?_, g⟩; simp [mayB, hn, hi, hb, ha0]; done) | (refine hQ _ _ ⟨?_, g⟩; simp [mayB, hn, hi, hb, ha0]; omega) | (exfalso; simp at hi hb ha0; omega) | (refine hQ _ _ ⟨?_, g⟩; simp only [decide_eq_true_eq, decide_eq_false_iff_not] at hi hb ha0; congr 1; rw [Bool.eq_iff_iff]; simp [mayB, hn]; unfold rg at *; omega)
  · rcases Bool.eq_false_or_eq_true (decide (i = 0)) with hi | hi
    all_goals rcases Bool.eq_false_or_eq_true (decide (n = 0)) with hb | hb
    all_goals rcases Bool.eq_false_or_eq_true (decide (n ≤ 65535)) with hl | hl
    all_goals rcases Bool.eq_false_or_eq_true (decide (a = 0)) with ha0 | ha0
    all_goals simp [c_colonnaderef05_May, zero_iff, hG, r0, r1, r2, r3, str_nil, hbs, hn, skipV, hi, hb, hl, ha0, hl']
    all_goals repeat (first | (refine got_call (plus_spec ha) ?_; rintro _ _ ⟨rfl, rfl⟩; simp [r0, r1, r2, r3, str_nil, hbs, hn, skipV, hi, hb, hl, ha0, hl', zero_iff]) | (refine got_call (Signbit_spec ha) ?_; rintro _ _ ⟨rfl, rfl⟩; simp [r0, r1, r2, r3, str_nil, hbs, hn, skipV, hi, hb, hl, ha0, hl', zero_iff]) | (refine got_call IsNaN_spec ?_; rintro _ _ ⟨rfl, rfl⟩; simp [r0, r1, r2, r3, str_nil, hbs, hn, skipV, hi, hb, hl, ha0, hl', zero_iff]) | (refine got_call (IsInf_spec ha) ?_; rintro _ _ ⟨rfl, rfl⟩; simp [r0, r1, r2, r3, str_nil, hbs, hn, skipV, hi, hb, hl, ha0, hl', zero_iff]))
    all_goals first | (refine hQ _ _ ⟨?_, g⟩; simp [mayB, hn, hi, hb, hl, ha0]; done) | (refine hQ _ _ ⟨?_, g⟩; simp [mayB, hn, hi, hb, hl, ha0]; omega) | (exfalso; simp at hi hb hl ha0; omega) | (refine hQ _ _ ⟨?_, g⟩; simp only [decide_eq_true_eq, decide_eq_false_iff_not] at hi hb hl ha0; congr 1; rw [Bool.eq_iff_iff]; simp [mayB, hn]; unfold rg at *; omega)
  · rcases Bool.eq_false_or_eq_true (decide (i = 0)) with hi | hi
    all_goals rcases Bool.eq_false_or_eq_true (decide (n = 0)) with hb | hb
    all_goals rcases Bool.eq_false_or_eq_true (decide (rg a = 0)) with hz | hz
    all_goals rcases Bool.eq_false_or_eq_true (decide (9223372036854775808 ≤ a)) with hs | hs
    all_goals rcases Bool.eq_false_or_eq_true (decide (9218868437227405312 < rg a)) with hx | hx
    all_goals rcases Bool.eq_false_or_eq_true (decide (rg a = 9218868437227405312)) with hy | hy
    all_goals simp [c_colonnaderef05_May, zero_iff, hG, r0, r1, r2, r3, str_nil, hbs, hn, skipV, hi, hb, hz, hs, hx, hy]
    all_goals repeat (first | (refine got_call (plus_spec ha) ?_; rintro _ _ ⟨rfl, rfl⟩; simp [r0, r1, r2, r3, str_nil, hbs, hn, skipV, hi, hb, hz, hs, hx, hy, zero_iff]) | (refine got_call (Signbit_spec ha) ?_; rintro _ _ ⟨rfl, rfl⟩; simp [r0, r1, r2, r3, str_nil, hbs, hn, skipV, hi, hb, hz, hs, hx, hy, zero_iff]) | (refine got_call IsNaN_spec ?_; rintro _ _ ⟨rfl, rfl⟩; simp [r0, r1, r2, r3, str_nil, hbs, hn, skipV, hi, hb, hz, hs, hx, hy, zero_iff]) | (refine got_call (IsInf_spec ha) ?_; rintro _ _ ⟨rfl, rfl⟩; simp [r0, r1, r2, r3, str_nil, hbs, hn, skipV, hi, hb, hz, hs, hx, hy, zero_iff]))
    all_goals first | (refine hQ _ _ ⟨?_, g⟩; simp [mayB, hn, hi, hb, hz, hs, hx, hy]; done) | (refine hQ _ _ ⟨?_, g⟩; simp [mayB, hn, hi, hb, hz, hs, hx, hy]; omega) | (exfalso; simp at hi hb hz hs hx hy; omega) | (refine hQ _ _ ⟨?_, g⟩; simp only [decide_eq_true_eq, decide_eq_false_iff_not] at hi hb hz hs hx hy; congr 1; rw [Bool.eq_iff_iff]; simp [mayB, hn]; unfold rg at *; omega)
  · rcases Bool.eq_false_or_eq_true (decide (i = 0)) with hi | hi
    all_goals rcases Bool.eq_false_or_eq_true (decide (n = 0)) with hb | hb
    all_goals rcases Bool.eq_false_or_eq_true (decide (a = 0)) with ha0 | ha0
    all_goals simp [c_colonnaderef05_May, zero_iff, hG, r0, r1, r2, r3, str_nil, hbs, hn, skipV, hi, hb, ha0, h0, h1, h2, h3, h4]
    all_goals repeat (first | (refine got_call (plus_spec ha) ?_; rintro _ _ ⟨rfl, rfl⟩; simp [r0, r1, r2, r3, str_nil, hbs, hn, skipV, hi, hb, ha0, h0, h1, h2, h3, h4, zero_iff]) | (refine got_call (Signbit_spec ha) ?_; rintro _ _ ⟨rfl, rfl⟩; simp [r0, r1, r2, r3, str_nil, hbs, hn, skipV, hi, hb, ha0, h0, h1, h2, h3, h4, zero_iff]) | (refine got_call IsNaN_spec ?_; rintro _ _ ⟨rfl, rfl⟩; simp [r0, r1, r2, r3, str_nil, hbs, hn, skipV, hi, hb, ha0, h0, h1, h2, h3, h4, zero_iff]) | (refine got_call (IsInf_spec ha) ?_; rintro _ _ ⟨rfl, rfl⟩; simp [r0, r1, r2, r3, str_nil, hbs, hn, skipV, hi, hb, ha0, h0, h1, h2, h3, h4, zero_iff]))
    all_goals first | (refine hQ _ _ ⟨?_, g⟩; simp [mayB, hn, hi, hb, ha0, h0, h1, h2, h3, h4]; done) | (refine hQ _ _ ⟨?_, g⟩; simp [mayB, hn, hi, hb, ha0, h0, h1, h2, h3, h4]; omega) | (exfalso; simp at hi hb ha0; omega) | (refine hQ _ _ ⟨?_, g⟩; simp only [decide_eq_true_eq, decide_eq_false_iff_not] at hi hb ha0; congr 1; rw [Bool.eq_iff_iff]; simp [mayB, hn]; unfold rg at *; omega)
  · rcases Bool.eq_false_or_eq_true (decide (i = 0)) with hi | hi
    all_goals rcases Bool.eq_false_or_eq_true (decide (n = 0)) with hb | hb
    all_goals rcases Bool.eq_false_or_eq_true (decide (a = 0)) with ha0 | ha0
    all_goals simp [c_colonnaderef05_May, zero_iff, hG, r0, r1, r2, r3, str_nil, hbs, hn, skipV, hi, hb, ha0, h0, h1, h2, h3, h4, h5]
    all_goals repeat (first | (refine got_call (plus_spec ha) ?_; rintro _ _ ⟨rfl, rfl⟩; simp [r0, r1, r2, r3, str_nil, hbs, hn, skipV, hi, hb, ha0, h0, h1, h2, h3, h4, h5, zero_iff]) | (refine got_call (Signbit_spec ha) ?_; rintro _ _ ⟨rfl, rfl⟩; simp [r0, r1, r2, r3, str_nil, hbs, hn, skipV, hi, hb, ha0, h0, h1, h2, h3, h4, h5, zero_iff]) | (refine got_call IsNaN_spec ?_; rintro _ _ ⟨rfl, rfl⟩; simp [r0, r1, r2, r3, str_nil, hbs, hn, skipV, hi, hb, ha0, h0, h1, h2, h3, h4, h5, zero_iff]) | (refine got_call (IsInf_spec ha) ?_; rintro _ _ ⟨rfl, rfl⟩; simp [r0, r1, r2, r3, str_nil, hbs, hn, skipV, hi, hb, ha0, h0, h1, h2, h3, h4, h5, zero_iff]))
    all_goals first | (refine hQ _ _ ⟨?_, g⟩; simp [mayB, hn, hi, hb, ha0, h0, h1, h2, h3, h4, h5]; done) | (refine hQ _ _ ⟨?_, g⟩; simp [mayB, hn, hi, hb, ha0, h0, h1, h2, h3, h4, h5]; omega) | (exfalso; simp at hi hb ha0; omega) | (refine hQ _ _ ⟨?_, g⟩; simp only [decide_eq_true_eq, decide_eq_false_iff_not] at hi hb ha0; congr 1; rw [Bool.eq_iff_iff]; simp [mayB, hn]; unfold rg at *; omega)

end Go.Ax
