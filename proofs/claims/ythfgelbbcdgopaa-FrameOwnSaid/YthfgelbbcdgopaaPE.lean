/- Seat pack: numbers of each kind, lent and kept. -/
import Derived.Test.YthfgelbbcdgopaaPD
namespace Go.Ax
set_option linter.unusedVariables false
set_option linter.unusedSimpArgs false

/-- A number brought into a kind of b bits. -/
def cutB (b : Nat) (x : BitVec 64) : BitVec 64 := x &&& maskW b

theorem maskW_nat {w : Nat} (hw : w ≤ 64) : (maskW w).toNat = 2 ^ w - 1 := by
  apply Nat.eq_of_testBit_eq
  intro i
  rw [Nat.testBit_two_pow_sub_one]
  show (maskW w).getLsbD i = _
  rw [maskW, bvOf_bit _ _ _ hw]; simp

theorem cutB_nat {b : Nat} (hb : b ≤ 64) (x : BitVec 64) : (cutB b x).toNat = x.toNat % 2 ^ b := by
  unfold cutB
  rw [BitVec.toNat_and, maskW_nat hb, Nat.and_two_pow_sub_one_eq_mod]
theorem cutB_lt {b : Nat} (hb : b ≤ 64) (x : BitVec 64) : (cutB b x).toNat < 2 ^ b := by rw [cutB_nat hb]; exact Nat.mod_lt _ (Nat.two_pow_pos b)
theorem cutB_eq {b : Nat} (hb : b ≤ 64) {x : BitVec 64} (hx : x.toNat < 2 ^ b) : cutB b x = x := by
  apply BitVec.eq_of_toNat_eq
  rw [cutB_nat hb, Nat.mod_eq_of_lt hx]

/-- A kind's width. -/
def kb : IntKind → Nat | .u8 => 8 | .u16 => 16 | .u32 => 32 | _ => 64

theorem kb_le (k : IntKind) : kb k ≤ 64 := by cases k <;> decide
theorem wrapk_u8 (x : BitVec 64) : IntKind.wrap .u8 (wi x) = wi (cutB 8 x) := by
  unfold wi; rw [cutB_nat (by omega)]; simp [IntKind.wrap, IntKind.bits, IntKind.signed]
theorem wrapk_u16 (x : BitVec 64) : IntKind.wrap .u16 (wi x) = wi (cutB 16 x) := by
  unfold wi; rw [cutB_nat (by omega)]; simp [IntKind.wrap, IntKind.bits, IntKind.signed]
theorem wrapk_u32 (x : BitVec 64) : IntKind.wrap .u32 (wi x) = wi (cutB 32 x) := by
  unfold wi; rw [cutB_nat (by omega)]; simp [IntKind.wrap, IntKind.bits, IntKind.signed]
theorem cutB_64 (x : BitVec 64) : cutB 64 x = x := cutB_eq (by omega) x.isLt
theorem wrapk_u64 (x : BitVec 64) : IntKind.wrap .u64 (wi x) = wi (cutB 64 x) := by
  rw [cutB_64, wrap_u64_wi]

theorem wrapn_u8 {n : Nat} (h : n < 256) : IntKind.wrap .u8 (n : Int) = wi (BitVec.ofNat 64 n) := by
  unfold wi; simp [IntKind.wrap, IntKind.bits, IntKind.signed] <;> omega
theorem wrapn_u16 {n : Nat} (h : n < 256) : IntKind.wrap .u16 (n : Int) = wi (BitVec.ofNat 64 n) := by
  unfold wi; simp [IntKind.wrap, IntKind.bits, IntKind.signed] <;> omega
theorem wrapn_u32 {n : Nat} (h : n < 256) : IntKind.wrap .u32 (n : Int) = wi (BitVec.ofNat 64 n) := by
  unfold wi; simp [IntKind.wrap, IntKind.bits, IntKind.signed] <;> omega
theorem wrapn_u64 {n : Nat} (h : n < 256) : IntKind.wrap .u64 (n : Int) = wi (BitVec.ofNat 64 n) := by
  unfold wi; simp [IntKind.wrap, IntKind.bits, IntKind.signed] <;> omega

theorem xor_nat {b : Nat} {x y : BitVec 64} (hx : x.toNat < 2 ^ b) (hy : y.toNat < 2 ^ b) : (BitVec.ofInt b (wi x) ^^^ BitVec.ofInt b (wi y)).toNat = (x ^^^ y).toNat := by
  rw [BitVec.toNat_xor, BitVec.toNat_xor, BitVec.toNat_ofInt, BitVec.toNat_ofInt]
  unfold wi
  rw [← Int.natCast_emod, Int.toNat_natCast, Nat.mod_eq_of_lt hx, ← Int.natCast_emod, Int.toNat_natCast, Nat.mod_eq_of_lt hy]
theorem xor_lt {b : Nat} {x y : BitVec 64} (hx : x.toNat < 2 ^ b) (hy : y.toNat < 2 ^ b) : (x ^^^ y).toNat < 2 ^ b := by
  rw [BitVec.toNat_xor]; exact Nat.xor_lt_two_pow hx hy

theorem xork_u8 {x y : BitVec 64} (hx : x.toNat < 2 ^ 8) (hy : y.toNat < 2 ^ 8) : abin .xor .u8 (wi x) (wi y) = some (.int .u8 (wi (x ^^^ y))) := by
  show some (Value.int .u8 (IntKind.wrap .u8 ((BitVec.ofInt 8 (wi x) ^^^ BitVec.ofInt 8 (wi y)).toNat : Nat))) = _
  rw [xor_nat hx hy, show (((x ^^^ y).toNat : Nat) : Int) = wi (x ^^^ y) from rfl, wrapk_u8, cutB_eq (by omega) (xor_lt hx hy)]
theorem xork_u16 {x y : BitVec 64} (hx : x.toNat < 2 ^ 16) (hy : y.toNat < 2 ^ 16) : abin .xor .u16 (wi x) (wi y) = some (.int .u16 (wi (x ^^^ y))) := by
  show some (Value.int .u16 (IntKind.wrap .u16 ((BitVec.ofInt 16 (wi x) ^^^ BitVec.ofInt 16 (wi y)).toNat : Nat))) = _
  rw [xor_nat hx hy, show (((x ^^^ y).toNat : Nat) : Int) = wi (x ^^^ y) from rfl, wrapk_u16, cutB_eq (by omega) (xor_lt hx hy)]
theorem xork_u32 {x y : BitVec 64} (hx : x.toNat < 2 ^ 32) (hy : y.toNat < 2 ^ 32) : abin .xor .u32 (wi x) (wi y) = some (.int .u32 (wi (x ^^^ y))) := by
  show some (Value.int .u32 (IntKind.wrap .u32 ((BitVec.ofInt 32 (wi x) ^^^ BitVec.ofInt 32 (wi y)).toNat : Nat))) = _
  rw [xor_nat hx hy, show (((x ^^^ y).toNat : Nat) : Int) = wi (x ^^^ y) from rfl, wrapk_u32, cutB_eq (by omega) (xor_lt hx hy)]
theorem xork_u64 {x y : BitVec 64} (hx : x.toNat < 2 ^ 64) (hy : y.toNat < 2 ^ 64) : abin .xor .u64 (wi x) (wi y) = some (.int .u64 (wi (x ^^^ y))) := by
  rw [ab64_xor]; simp

/-- All numbers of a kind of b bits. -/
def ofKind (b : Nat) (cs : List (BitVec 64)) : Prop := ∀ i, i < cs.length → (numA cs i).toNat < 2 ^ b

theorem ofKind_cut {b : Nat} (hb : b ≤ 64) (cs : List (BitVec 64)) : ofKind b (cs.map (cutB b)) := by
  intro i hi
  unfold numA
  rw [List.getD_eq_getElem?_getD, List.getElem?_map, List.getElem?_eq_getElem (by simpa using hi)]
  exact cutB_lt hb _

theorem numA_set {cs : List (BitVec 64)} {i j : Nat} {x : BitVec 64} : numA (cs.set i x) j = if i = j ∧ j < cs.length then x else numA cs j := by
  unfold numA
  rw [List.getD_eq_getElem?_getD, List.getD_eq_getElem?_getD, List.getElem?_set]
  by_cases h1 : i = j
  · subst h1
    by_cases h2 : i < cs.length
    · simp [h2]
    · simp [h2]
  · simp [h1]

theorem ofKind_set {b : Nat} {cs : List (BitVec 64)} (h : ofKind b cs) {i : Nat} {x : BitVec 64} (hx : x.toNat < 2 ^ b) : ofKind b (cs.set i x) := by
  intro j hj
  rw [numA_set]
  split
  · exact hx
  · exact h j (by simpa using hj)

/-- The marks behind lent numbers (the first k). -/
def marksK (k : Nat) : List (BitVec 64) := (List.range k).map fun i => BitVec.ofNat 64 (100 + i)
theorem marksK_succ (k : Nat) : marksK (k + 1) = marksK k ++ [BitVec.ofNat 64 (100 + k)] := by simp [marksK, List.range_succ]
theorem marksK_len (k : Nat) : (marksK k).length = k := by simp [marksK]

theorem take_map_succ {cs : List (BitVec 64)} {f : BitVec 64 → BitVec 64} {k : IntKind} {i : Nat} (hi : i < cs.length) : ((cs.take (i + 1)).map f).map (kv k) = ((cs.take i).map f).map (kv k) ++ [.int k (wi (f (numA cs i)))] := by
  rw [List.take_add_one, List.getElem?_eq_getElem hi]
  simp only [List.map_append, Option.toList_some, List.map_cons, List.map_nil]
  congr 2
  unfold numA kv
  rw [List.getD_eq_getElem?_getD, List.getElem?_eq_getElem hi]; rfl

theorem u64_get {cs : List (BitVec 64)} {i : Nat} (hi : i < cs.length) : (cs.map (kv .u64))[i]? = some (.int .u64 (wi (numA cs i))) := kv_get hi

theorem own_q {h : Heap} {v : Value} {q q' : Nat} {n : Nat} (hn : n ≤ h.dyn.length) (hq : n ≤ q) (d : q' = q ∧ v ≠ .slice none 0 0 ∨ q' = h.dyn.length + 1) : n ≤ q' := by
  rcases d with ⟨h1, _⟩ | h1 <;> omega

theorem bv_kv (bs : List (BitVec 8)) : bs.map bv = (bs.map fun x => x.setWidth 64).map (kv .u8) := by
  rw [List.map_map]
  apply List.map_congr_left
  intro x _
  simp only [Function.comp, kv, bv]
  congr 1
  first
    | done
    | (unfold wi bi; rw [BitVec.toNat_setWidth]; have := x.isLt; omega)
theorem bv_ofKind (bs : List (BitVec 8)) : ofKind 8 (bs.map fun x => x.setWidth 64) := by
  intro i hi
  unfold numA
  rw [List.getD_eq_getElem?_getD, List.getElem?_map, List.getElem?_eq_getElem (by simpa using hi)]
  simp only [Option.map_some, Option.getD_some, BitVec.toNat_setWidth]
  have := (bs[i]'(by simpa using hi)).isLt
  first | done | omega

end Go.Ax
