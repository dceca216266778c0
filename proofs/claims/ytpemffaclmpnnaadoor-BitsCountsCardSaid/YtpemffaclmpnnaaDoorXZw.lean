/- An abstract machine for Go programs: words of 64 bits, for walking. -/
import Derived.Test.YtpemffaclmpnnaaDoorXJ
namespace Go.Ax
set_option linter.unusedVariables false
set_option linter.unusedSimpArgs false

/-- A word as the machine's number. -/
def wi (x : BitVec 64) : Int := x.toNat

theorem wi_def (x : BitVec 64) : wi x = x.toNat := rfl

theorem wi_lt (x : BitVec 64) : wi x < 18446744073709551616 := by
  have := x.isLt
  unfold wi; omega
theorem wi_nonneg (x : BitVec 64) : 0 ≤ wi x := by unfold wi; omega

@[simp] theorem ofInt_wi (x : BitVec 64) : BitVec.ofInt 64 (wi x) = x := by
  unfold wi
  apply BitVec.eq_of_toNat_eq
  rw [BitVec.toNat_ofInt]
  have := x.isLt
  omega

theorem wrap_wi (a : Int) : IntKind.wrap .u64 a = wi (BitVec.ofInt 64 a) := by
  unfold wi
  rw [BitVec.toNat_ofInt]
  simp [IntKind.wrap, IntKind.bits, IntKind.signed]
  omega

theorem wrap_toNat (x : BitVec 64) : IntKind.wrap .u64 (x.toNat : Int) = wi x := by
  rw [wrap_wi, show (x.toNat : Int) = wi x from rfl, ofInt_wi]

@[simp] theorem ab64_and {a b : Int} : abin .and .u64 a b = some (.int .u64 (wi (BitVec.ofInt 64 a &&& BitVec.ofInt 64 b))) := by
  show some (Value.int .u64 (IntKind.wrap .u64 ((BitVec.ofInt 64 a &&& BitVec.ofInt 64 b).toNat : Int))) = _
  rw [wrap_toNat]
@[simp] theorem ab64_or {a b : Int} : abin .or .u64 a b = some (.int .u64 (wi (BitVec.ofInt 64 a ||| BitVec.ofInt 64 b))) := by
  show some (Value.int .u64 (IntKind.wrap .u64 ((BitVec.ofInt 64 a ||| BitVec.ofInt 64 b).toNat : Int))) = _
  rw [wrap_toNat]
@[simp] theorem ab64_xor {a b : Int} : abin .xor .u64 a b = some (.int .u64 (wi (BitVec.ofInt 64 a ^^^ BitVec.ofInt 64 b))) := by
  show some (Value.int .u64 (IntKind.wrap .u64 ((BitVec.ofInt 64 a ^^^ BitVec.ofInt 64 b).toNat : Int))) = _
  rw [wrap_toNat]
@[simp] theorem ab64_andNot {a b : Int} : abin .andNot .u64 a b = some (.int .u64 (wi (BitVec.ofInt 64 a &&& ~~~ BitVec.ofInt 64 b))) := by
  show some (Value.int .u64 (IntKind.wrap .u64 ((BitVec.ofInt 64 a &&& ~~~ BitVec.ofInt 64 b).toNat : Int))) = _
  rw [wrap_toNat]
@[simp] theorem ab64_add {a b : Int} : abin .add .u64 a b = some (.int .u64 (wi (BitVec.ofInt 64 a + BitVec.ofInt 64 b))) := by
  show some (Value.int .u64 (IntKind.wrap .u64 (a + b))) = _
  rw [wrap_wi, BitVec.ofInt_add]
@[simp] theorem ab64_sub {a b : Int} : abin .sub .u64 a b = some (.int .u64 (wi (BitVec.ofInt 64 a - BitVec.ofInt 64 b))) := by
  show some (Value.int .u64 (IntKind.wrap .u64 (a - b))) = _
  rw [wrap_wi]
  congr 3
  rw [BitVec.sub_eq_add_neg, ← BitVec.ofInt_neg, ← BitVec.ofInt_add, Int.sub_eq_add_neg]
@[simp] theorem ab64_mul {a b : Int} : abin .mul .u64 a b = some (.int .u64 (wi (BitVec.ofInt 64 a * BitVec.ofInt 64 b))) := by
  show some (Value.int .u64 (IntKind.wrap .u64 (a * b))) = _
  rw [wrap_wi, BitVec.ofInt_mul]
@[simp] theorem ab64_shl {a b : Int} (hb : 0 ≤ b) : abin .shl .u64 a b = some (.int .u64 (wi (BitVec.ofInt 64 a <<< b.toNat))) := by
  show (if b < 0 then none else some (Value.int .u64 (IntKind.wrap .u64 (a * 2 ^ min b.toNat 64)))) = _
  rw [if_neg (by omega), wrap_wi]
  congr 3
  apply BitVec.eq_of_getLsbD_eq
  intro i hi
  rw [BitVec.ofInt_mul]
  have e : BitVec.ofInt 64 ((2 : Int) ^ min b.toNat 64) = BitVec.twoPow 64 (min b.toNat 64) := by
    apply BitVec.eq_of_toNat_eq
    rw [BitVec.toNat_ofInt, BitVec.toNat_twoPow]
    have : ((2 : Int) ^ min b.toNat 64) = ((2 ^ min b.toNat 64 : Nat) : Int) := by simp
    rw [this, ← Int.natCast_emod, Int.toNat_natCast]
  rw [e, BitVec.mul_twoPow_eq_shiftLeft, BitVec.getLsbD_shiftLeft, BitVec.getLsbD_shiftLeft]
  by_cases h : b.toNat < 64
  · rw [Nat.min_eq_left (by omega)]
  · rw [Nat.min_eq_right (by omega)]
    simp [hi]
    omega
@[simp] theorem ab64_shr {x : BitVec 64} {b : Int} (hb : 0 ≤ b) : abin .shr .u64 (wi x) b = some (.int .u64 (wi (x >>> b.toNat))) := by
  show (if b < 0 then none else some (Value.int .u64 ((wi x).fdiv (2 ^ min b.toNat 64)))) = _
  rw [if_neg (by omega)]
  congr 2
  unfold wi
  have : ((2 : Int) ^ min b.toNat 64) = ((2 ^ min b.toNat 64 : Nat) : Int) := by simp
  rw [this, Int.fdiv_eq_ediv_of_nonneg _ (Int.natCast_nonneg _), ← Int.natCast_ediv, BitVec.toNat_ushiftRight, Nat.shiftRight_eq_div_pow]
  congr 1
  by_cases h : b.toNat < 64
  · rw [Nat.min_eq_left (by omega)]
  · rw [Nat.min_eq_right (by omega)]
    have h1 : x.toNat / 2 ^ 64 = 0 := Nat.div_eq_of_lt x.isLt
    have h2 : x.toNat / 2 ^ b.toNat = 0 := Nat.div_eq_of_lt (Nat.lt_of_lt_of_le x.isLt (Nat.pow_le_pow_right (by omega) (by omega)))
    rw [h1, h2]

@[simp] theorem wi_inj {x y : BitVec 64} : wi x = wi y ↔ x = y := by
  constructor
  · intro h; rw [← ofInt_wi x, h, ofInt_wi]
  · intro h; rw [h]
@[simp] theorem wi_eq_zero {x : BitVec 64} : wi x = 0 ↔ x = 0#64 := by
  rw [show (0 : Int) = wi 0#64 from rfl, wi_inj]
@[simp] theorem wi_eq_one {x : BitVec 64} : wi x = 1 ↔ x = 1#64 := by
  rw [show (1 : Int) = wi 1#64 from rfl, wi_inj]
@[simp] theorem wi_pos {x : BitVec 64} : 0 < wi x ↔ ¬ x = 0#64 := by
  rw [← wi_eq_zero]
  have := wi_nonneg x
  omega

@[simp] theorem wi_zero : wi 0#64 = 0 := rfl

@[simp] theorem un64_not {P : Program} {x : BitVec 64} : aun P .xor (.int .u64 (wi x)) = some (.int .u64 (wi (~~~ x))) := by
  show abin .xor .u64 (IntKind.max .u64) (wi x) = _
  rw [ab64_xor, ofInt_wi]
  have : BitVec.ofInt 64 (IntKind.max .u64) = BitVec.allOnes 64 := by decide
  rw [this, BitVec.allOnes_xor]
@[simp] theorem un64_neg {P : Program} {x : BitVec 64} : aun P .neg (.int .u64 (wi x)) = some (.int .u64 (wi (- x))) := by
  show some (Value.int .u64 (IntKind.wrap .u64 (0 - wi x))) = _
  rw [wrap_wi, Int.zero_sub, BitVec.ofInt_neg, ofInt_wi]

end Go.Ax
