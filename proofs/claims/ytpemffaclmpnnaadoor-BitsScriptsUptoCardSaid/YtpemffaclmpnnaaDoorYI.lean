/- Seat bits: Get, TrailingZeros64. -/
import Derived.Test.YtpemffaclmpnnaaDoorYF
import Derived.Test.YtpemffaclmpnnaaDoorYT
namespace Go.Ax
set_option linter.unusedVariables false
set_option linter.unusedSimpArgs false

theorem and_one (x : BitVec 64) (m : Nat) : (x >>> m &&& 1#64 = 1#64) ↔ x.getLsbD m = true := by
  constructor
  · intro h
    have := congrArg (fun y => y.getLsbD 0) h
    simpa using this
  · intro h
    apply BitVec.eq_of_getLsbD_eq
    intro i hi
    by_cases h0 : i = 0
    · subst h0; simp [h]
    · simp [h0]

theorem get_spec {h : Heap} {p q n : Nat} {ws : List (BitVec 64)} (s : SetAt h p q n ws) (cn : Canon n ws) (i : Int) :
    Gives P T (.fn F_bits_Set_Get) [ptr p, .int .i64 i] h fun v h' => v = .bool (decide (0 ≤ i) && bit ws i.toNat) ∧ h' = h := by
  have hn := cn.le
  have hl := cn.len
  refine gives_by t_bits_Set_Get (by simp [c_bits_Set_Get]) fun Q hQ => ?_
  by_cases h0 : 0 ≤ i
  · obtain ⟨j, rfl⟩ : ∃ j : Nat, i = j := ⟨i.toNat, by omega⟩
    simp [c_bits_Set_Get]
    refine got_call (len_spec s) ?_
    rintro _ _ ⟨rfl, rfl⟩
    by_cases hj : j < n
    · obtain ⟨m, hm⟩ : ∃ m, j % 64 = m := ⟨_, rfl⟩
      obtain ⟨d, hd⟩ : ∃ d, j / 64 = d := ⟨_, rfl⟩
      have e1 := tmod_nat j 64
      have e2 := tdiv_nat j 64
      rw [hm] at e1
      rw [hd] at e2
      simp only [Int.cast_ofNat_Int] at e1 e2
      have i3 : d < ws.length := by omega
      have e3 : IntKind.i64.wrap (d : Int) = d := wrap_i64 (by omega) (by omega)
      obtain ⟨v, c', rh, rw, _⟩ := s.open i3
      simp [hj, ptr, e1, e2, e3, i3, rh.get (i := 1) rfl, rw.get (wv_get i3), and_one]
      refine hQ _ _ ⟨?_, rfl⟩
      simp [bit, hm, hd]
    · simp [hj]
      refine hQ _ _ ⟨?_, rfl⟩
      have := cn.out j (by omega)
      simp [this]
  · simp [c_bits_Set_Get, h0]
    exact hQ _ _ ⟨by simp [h0], rfl⟩

theorem and_compl {k m : Nat} (h : m < 2 ^ k) : m &&& (2 ^ k - (m + 1)) = 0 := by
  apply Nat.eq_of_testBit_eq
  intro i
  rw [Nat.testBit_and, Nat.testBit_two_pow_sub_succ h, Nat.zero_testBit]
  cases m.testBit i <;> simp

/-- The lowest one of a word alone. -/
theorem and_neg {x : BitVec 64} {j : Nat} (hj : j < 64) (h1 : x.getLsbD j = true) (h0 : ∀ i, i < j → x.getLsbD i = false) : x &&& -x = 1#64 <<< j := by
  obtain ⟨m, hm⟩ : ∃ m, x.toNat = 2 ^ j * (2 * m + 1) := by
    have hlow : x.toNat % 2 ^ j = 0 := by
      apply Nat.eq_of_testBit_eq
      intro i
      rw [Nat.testBit_mod_two_pow, Nat.zero_testBit]
      by_cases hi : i < j
      · have := h0 i hi
        simp only [BitVec.getLsbD] at this
        simp [this]
      · simp [hi]
    have hbit : (x.toNat / 2 ^ j) % 2 = 1 := by
      have h2 : (x.toNat / 2 ^ j).testBit 0 = true := by
        rw [Nat.testBit_div_two_pow]
        simpa [BitVec.getLsbD] using h1
      simpa [Nat.testBit_zero] using h2
    refine ⟨x.toNat / 2 ^ j / 2, ?_⟩
    have a1 := Nat.div_add_mod x.toNat (2 ^ j)
    rw [hlow, Nat.add_zero] at a1
    have a2 : 2 * (x.toNat / 2 ^ j / 2) + 1 = x.toNat / 2 ^ j := by omega
    rw [a2]; exact a1.symm
  obtain ⟨r, hr⟩ : ∃ r, 64 - j = r + 1 := ⟨63 - j, by omega⟩
  have e64 : (18446744073709551616 : Nat) = 2 ^ j * (2 * 2 ^ r) := by
    rw [← Nat.pow_succ', ← Nat.pow_add]
    rw [show j + (r + 1) = 64 by omega]
  have hx := x.isLt
  have hlt : m < 2 ^ r := by
    rw [hm] at hx
    rw [show (2 : Nat) ^ 64 = 18446744073709551616 from rfl, e64] at hx
    have := Nat.lt_of_mul_lt_mul_left hx
    omega
  apply BitVec.eq_of_toNat_eq
  rw [BitVec.toNat_and, BitVec.toNat_neg, hm]
  have hneg : (2 ^ 64 - 2 ^ j * (2 * m + 1)) % 2 ^ 64 = 2 ^ j * (2 * (2 ^ r - (m + 1)) + 1) := by
    have hpos : 0 < 2 ^ j * (2 * m + 1) := Nat.mul_pos (Nat.two_pow_pos j) (by omega)
    rw [Nat.mod_eq_of_lt (by omega), show (2 : Nat) ^ 64 = 18446744073709551616 from rfl, e64, ← Nat.mul_sub]
    congr 1
    omega
  rw [hneg]
  have k1 := and_split (k := j) (A := 0) (C := 0) (Y := 2 * m + 1) (Z := 2 * (2 ^ r - (m + 1)) + 1) (Nat.two_pow_pos j) (Nat.two_pow_pos j)
  simp only [Nat.zero_add] at k1
  rw [k1]
  have k2 := and_split (k := 1) (A := 1) (C := 1) (Y := m) (Z := 2 ^ r - (m + 1)) (by omega) (by omega)
  have k3 : (2 * m + 1) &&& (2 * (2 ^ r - (m + 1)) + 1) = 1 := by
    rw [show 2 * m + 1 = 1 + 2 ^ 1 * m by omega, show 2 * (2 ^ r - (m + 1)) + 1 = 1 + 2 ^ 1 * (2 ^ r - (m + 1)) by omega, k2, and_compl hlt]
    rfl
  rw [k3]
  have h2 : (1#64 <<< j).toNat = 2 ^ j := by
    rw [BitVec.toNat_shiftLeft, Nat.shiftLeft_eq]
    simp
    exact Nat.pow_lt_pow_right (by omega) hj
  rw [h2]
  simp

theorem tz_table : ∀ j : Nat, j < 64 → (((1#64 <<< j) * 285870213051353865#64) >>> 58).toNat < 64 ∧ tabL[(((1#64 <<< j) * 285870213051353865#64) >>> 58).toNat]? = some (.int .u8 (j : Nat)) := by
  intro j hj
  have : ∀ j : _root_.Fin 64, (((1#64 <<< j.val) * 285870213051353865#64) >>> 58).toNat < 64 ∧ ([0, 1, 56, 2, 57, 49, 28, 3, 61, 58, 42, 50, 38, 29, 17, 4, 62, 47, 59, 36, 45, 43, 51, 22, 53, 39, 33, 30, 24, 18, 12, 5, 63, 55, 48, 27, 60, 41, 37, 16, 46, 35, 44, 21, 52, 32, 23, 11, 54, 26, 40, 15, 34, 20, 31, 10, 25, 14, 19, 9, 13, 8, 7, 6] : List Int)[(((1#64 <<< j.val) * 285870213051353865#64) >>> 58).toNat]? = some (j.val : Int) := by decide +kernel
  obtain ⟨h1, h2⟩ := this ⟨j, hj⟩
  refine ⟨h1, ?_⟩
  unfold tabL
  rw [List.getElem?_map, h2]; rfl

def iadAR (h : Heap) (n es : Nat) : Value → Value → Option (Value × Heap)
  | .pointer (some a), .int _ i => if 0 ≤ i ∧ i < n then some (.pointer (some (aadd a (i.toNat * es))), h) else none
  | _, _ => none
@[simp] theorem op_iadA {P : Program} {cf : CF} {t : List Value} {h : Heap} {n es : Nat} {x i : Operand} : runOp P cf (.iadA n es x i) t h = iadAR h n es (evalT t x) (evalT t i) := by
  unfold runOp iadAR; simp only [aop]
  generalize evalT t x = u
  generalize evalT t i = v
  cases u with
  | pointer a =>
    cases a with
    | none => cases v <;> rfl
    | some a =>
      cases v with
      | int kd i => simp only; by_cases hc : 0 ≤ i ∧ i < n <;> simp [hc]
      | _ => rfl
  | _ => cases v <;> rfl
@[simp] theorem iadA_nat {h : Heap} {es j n : Nat} {a : Addr} {kd : IntKind} (hj : j < n) : iadAR h n es (.pointer (some a)) (.int kd (j : Nat)) = some (.pointer (some (aadd a (j * es))), h) := by
  unfold iadAR; simp only; rw [if_pos ⟨by omega, by omega⟩]; rfl
@[simp] theorem ev_global {t : List Value} {g : Nat} (hg : g < 4294967296) : evalT t (.global g) = .pointer (some ⟨g, 0, none⟩) := by simp [evalT, hg]

theorem tz_spec {h : Heap} {L : Nat → Nat → Option Value} (hro : h.ro = roBlk tabG L) {x : BitVec 64} {j : Nat} (hj : j < 64) (h1 : x.getLsbD j = true) (h0 : ∀ i, i < j → x.getLsbD i = false) :
    Gives P T (.fn F_math_bits_TrailingZeros64) [.int .u64 (wi x)] h fun v h' => v = .int .i64 (j : Nat) ∧ h' = h := by
  refine gives_by t_math_bits_TrailingZeros64 (by simp [c_math_bits_TrailingZeros64]) fun Q hQ => ?_
  have hx : ¬ x = 0#64 := by intro e; subst e; simp at h1
  obtain ⟨t1, t2⟩ := tz_table j hj
  obtain ⟨k, hk⟩ : ∃ k, (((1#64 <<< j) * 285870213051353865#64) >>> 58).toNat = k := ⟨_, rfl⟩
  rw [hk] at t1 t2
  have e1 : wi (((1#64 <<< j) * 285870213051353865#64) >>> 58) = (k : Int) := by unfold wi; rw [hk]
  have e2 : hload h ⟨0, k, none⟩ = some (.int .u8 (j : Nat)) := by
    show h.ro 0 k = _
    rw [hro]
    show tabG 0 k = _
    unfold tabG
    rw [if_pos rfl]; exact t2
  have e3 : IntKind.wrap .i64 (j : Int) = j := wrap_i64 (by omega) (by omega)
  simp [c_math_bits_TrailingZeros64, hx, and_neg hj h1 h0, e1, t1, e2, e3]
  exact hQ _ _ ⟨rfl, rfl⟩
end Go.Ax
