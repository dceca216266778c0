/- Bytes, and words made bit by bit, for walking. -/
import Derived.Test.YtpemffaclmpnnaaDoorMH
namespace Go.Ax
set_option linter.unusedVariables false
set_option linter.unusedSimpArgs false

/-! ### bytes -/

def bi (x : BitVec 8) : Int := x.toNat
def bv (x : BitVec 8) : Value := .int .u8 (bi x)

theorem bi_lt (x : BitVec 8) : bi x < 256 := by have := x.isLt; unfold bi; omega
theorem bi_nonneg (x : BitVec 8) : 0 ≤ bi x := by unfold bi; omega

@[simp] theorem ofInt_bi (x : BitVec 8) : BitVec.ofInt 8 (bi x) = x := by
  unfold bi
  apply BitVec.eq_of_toNat_eq
  rw [BitVec.toNat_ofInt]
  have := x.isLt
  omega

theorem wrap8_bi (a : Int) : IntKind.wrap .u8 a = bi (BitVec.ofInt 8 a) := by
  unfold bi
  rw [BitVec.toNat_ofInt]
  simp [IntKind.wrap, IntKind.bits, IntKind.signed]
  omega

theorem wrap8_toNat (x : BitVec 8) : IntKind.wrap .u8 (x.toNat : Int) = bi x := by
  rw [wrap8_bi, show (x.toNat : Int) = bi x from rfl, ofInt_bi]

@[simp] theorem ab8_and {a b : Int} : abin .and .u8 a b = some (.int .u8 (bi (BitVec.ofInt 8 a &&& BitVec.ofInt 8 b))) := by
  show some (Value.int .u8 (IntKind.wrap .u8 ((BitVec.ofInt 8 a &&& BitVec.ofInt 8 b).toNat : Int))) = _
  rw [wrap8_toNat]
@[simp] theorem ab8_or {a b : Int} : abin .or .u8 a b = some (.int .u8 (bi (BitVec.ofInt 8 a ||| BitVec.ofInt 8 b))) := by
  show some (Value.int .u8 (IntKind.wrap .u8 ((BitVec.ofInt 8 a ||| BitVec.ofInt 8 b).toNat : Int))) = _
  rw [wrap8_toNat]
@[simp] theorem ab8_xor {a b : Int} : abin .xor .u8 a b = some (.int .u8 (bi (BitVec.ofInt 8 a ^^^ BitVec.ofInt 8 b))) := by
  show some (Value.int .u8 (IntKind.wrap .u8 ((BitVec.ofInt 8 a ^^^ BitVec.ofInt 8 b).toNat : Int))) = _
  rw [wrap8_toNat]
@[simp] theorem ab8_add {a b : Int} : abin .add .u8 a b = some (.int .u8 (bi (BitVec.ofInt 8 a + BitVec.ofInt 8 b))) := by
  show some (Value.int .u8 (IntKind.wrap .u8 (a + b))) = _
  rw [wrap8_bi, BitVec.ofInt_add]
@[simp] theorem ab8_shl {a b : Int} (hb : 0 ≤ b) : abin .shl .u8 a b = some (.int .u8 (bi (BitVec.ofInt 8 a <<< b.toNat))) := by
  show (if b < 0 then none else some (Value.int .u8 (IntKind.wrap .u8 (a * 2 ^ min b.toNat 8)))) = _
  rw [if_neg (by omega), wrap8_bi]
  congr 3
  apply BitVec.eq_of_getLsbD_eq
  intro i hi
  rw [BitVec.ofInt_mul]
  have e : BitVec.ofInt 8 ((2 : Int) ^ min b.toNat 8) = BitVec.twoPow 8 (min b.toNat 8) := by
    apply BitVec.eq_of_toNat_eq
    rw [BitVec.toNat_ofInt, BitVec.toNat_twoPow]
    have : ((2 : Int) ^ min b.toNat 8) = ((2 ^ min b.toNat 8 : Nat) : Int) := by simp
    rw [this, ← Int.natCast_emod, Int.toNat_natCast]
  rw [e, BitVec.mul_twoPow_eq_shiftLeft, BitVec.getLsbD_shiftLeft, BitVec.getLsbD_shiftLeft]
  by_cases h : b.toNat < 8
  · rw [Nat.min_eq_left (by omega)]
  · rw [Nat.min_eq_right (by omega)]
    simp [hi]
    omega
@[simp] theorem ab8_shr {x : BitVec 8} {b : Int} (hb : 0 ≤ b) : abin .shr .u8 (bi x) b = some (.int .u8 (bi (x >>> b.toNat))) := by
  show (if b < 0 then none else some (Value.int .u8 ((bi x).fdiv (2 ^ min b.toNat 8)))) = _
  rw [if_neg (by omega)]
  congr 2
  unfold bi
  have : ((2 : Int) ^ min b.toNat 8) = ((2 ^ min b.toNat 8 : Nat) : Int) := by simp
  rw [this, Int.fdiv_eq_ediv_of_nonneg _ (Int.natCast_nonneg _), ← Int.natCast_ediv, BitVec.toNat_ushiftRight, Nat.shiftRight_eq_div_pow]
  congr 1
  by_cases h : b.toNat < 8
  · rw [Nat.min_eq_left (by omega)]
  · rw [Nat.min_eq_right (by omega)]
    have h1 : x.toNat / 2 ^ 8 = 0 := Nat.div_eq_of_lt x.isLt
    have h2 : x.toNat / 2 ^ b.toNat = 0 := Nat.div_eq_of_lt (Nat.lt_of_lt_of_le x.isLt (Nat.pow_le_pow_right (by omega) (by omega)))
    rw [h1, h2]

@[simp] theorem bi_inj {x y : BitVec 8} : bi x = bi y ↔ x = y := by
  constructor
  · intro h; rw [← ofInt_bi x, h, ofInt_bi]
  · intro h; rw [h]
@[simp] theorem bi_eq_zero {x : BitVec 8} : bi x = 0 ↔ x = 0#8 := by
  rw [show (0 : Int) = bi 0#8 from rfl, bi_inj]
@[simp] theorem bi_zero : bi 0#8 = 0 := rfl

@[simp] theorem wrap_u64_bi (x : BitVec 8) : IntKind.wrap .u64 (bi x) = wi (x.setWidth 64) := by
  have := x.isLt
  rw [wrap_u64 (bi_nonneg x) (by have := bi_lt x; omega)]
  unfold wi bi
  rw [BitVec.toNat_setWidth, Nat.mod_eq_of_lt (by omega)]
@[simp] theorem wrap_u8_wi (x : BitVec 64) : IntKind.wrap .u8 (wi x) = bi (x.setWidth 8) := by
  rw [wrap8_bi]
  congr 1
@[simp] theorem wrap_u8_bi (x : BitVec 8) : IntKind.wrap .u8 (bi x) = bi x := by rw [wrap8_bi, ofInt_bi]
@[simp] theorem wrap_u64_wi (x : BitVec 64) : IntKind.wrap .u64 (wi x) = wi x := by rw [wrap_wi, ofInt_wi]

/-- Bit i of bytes; none behind them. -/
def byteA (bs : List (BitVec 8)) (i : Nat) : BitVec 8 := bs.getD i 0
def bbit (bs : List (BitVec 8)) (i : Nat) : Bool := (byteA bs (i / 8)).getLsbD (i % 8)

theorem bbit_out {bs : List (BitVec 8)} {i : Nat} (h : 8 * bs.length ≤ i) : bbit bs i = false := by
  unfold bbit byteA
  rw [List.getD_eq_getElem?_getD, List.getElem?_eq_none (by omega)]; simp

theorem bv_get {bs : List (BitVec 8)} {i : Nat} (hi : i < bs.length) : (bs.map bv)[i]? = some (.int .u8 (bi (byteA bs i))) := by
  unfold byteA
  rw [List.getElem?_map, List.getElem?_eq_getElem hi, List.getD_eq_getElem?_getD, List.getElem?_eq_getElem hi]; rfl

/-! ### a word made bit by bit -/

def bitV (b : Bool) : BitVec 64 := if b then 1#64 else 0#64

def bvOf (f : Nat → Bool) : Nat → BitVec 64
  | 0 => 0#64
  | n + 1 => bvOf f n ||| bitV (f n) <<< n

theorem bitV_bit (b : Bool) (j : Nat) : (bitV b).getLsbD j = (b && decide (j = 0)) := by
  unfold bitV
  cases b
  · simp
  · simp

theorem bvOf_bit (f : Nat → Bool) : ∀ (n j : Nat), n ≤ 64 → (bvOf f n).getLsbD j = (decide (j < n) && f j)
  | 0, j, _ => by simp [bvOf]
  | n + 1, j, h => by
    rw [bvOf, BitVec.getLsbD_or, bvOf_bit f n j (by omega), BitVec.getLsbD_shiftLeft, bitV_bit]
    by_cases h1 : j < n
    · have : j < n + 1 := by omega
      simp [h1, this]
    · by_cases h2 : j = n
      · subst h2
        have : j < 64 := by omega
        simp [this]
      · have h3 : ¬ j < n + 1 := by omega
        have h4 : ¬ j - n = 0 := by omega
        simp [h1, h3, h4]

theorem bvOf_congr {f g : Nat → Bool} : ∀ {n : Nat}, (∀ j, j < n → f j = g j) → bvOf f n = bvOf g n
  | 0, _ => rfl
  | n + 1, h => by rw [bvOf, bvOf, bvOf_congr fun j hj => h j (by omega), h n (by omega)]

/-- A word is what its bits say. -/
theorem eq_bvOf {x : BitVec 64} {f : Nat → Bool} {n : Nat} (hn : n ≤ 64) (h : ∀ j, j < 64 → x.getLsbD j = (decide (j < n) && f j)) : x = bvOf f n := by
  apply BitVec.eq_of_getLsbD_eq
  intro j hj
  rw [h j hj, bvOf_bit f n j hn]

theorem and_one64 (x : BitVec 64) (m : Nat) : x >>> m &&& 1#64 = bitV (x.getLsbD m) := by
  apply BitVec.eq_of_getLsbD_eq
  intro j hj
  rw [BitVec.getLsbD_and, BitVec.getLsbD_ushiftRight, bitV_bit]
  by_cases h : j = 0
  · subst h; simp
  · simp [h]

/-- The number in lane i of bytes. -/
def laneB (bs : List (BitVec 8)) (w i : Nat) : BitVec 64 := bvOf (fun j => bbit bs (i * w + j)) w

/-- The 64 bits from a bit on. -/
def wordB (bs : List (BitVec 8)) (i : Nat) : BitVec 64 := bvOf (fun j => bbit bs (i + j)) 64

end Go.Ax
