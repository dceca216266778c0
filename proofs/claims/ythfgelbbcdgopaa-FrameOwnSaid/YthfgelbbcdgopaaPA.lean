/- Seat pack: widths, Bytes. -/
import Derived.Test.YthfgelbbcdgopaaMQ
import Derived.Test.YthfgelbbcdgopaaML
import Derived.Test.YthfgelbbcdgopaaMR
import Derived.Test.YthfgelbbcdgopaaXK
namespace Go.Ax
set_option linter.unusedVariables false
set_option linter.unusedSimpArgs false

/-- How many bits a number needs. -/
def blen (n : Nat) : Nat := if n = 0 then 0 else Nat.log2 n + 1

theorem blen_le {n w : Nat} : blen n ≤ w ↔ n < 2 ^ w := by
  unfold blen
  by_cases h : n = 0
  · subst h; simp; exact Nat.two_pow_pos w
  · rw [if_neg h, Nat.succ_le_iff, Nat.log2_lt h]

theorem blen_eq {n L : Nat} (h1 : n < 2 ^ L) (h2 : L = 0 ∨ 2 ^ (L - 1) ≤ n) : blen n = L := by
  apply Nat.le_antisymm
  · exact blen_le.2 h1
  · rcases h2 with h2 | h2
    · omega
    · apply Nat.le_of_not_lt
      intro h3
      have := blen_le.1 (show blen n ≤ L - 1 by omega)
      omega

theorem blen_shift {n k : Nat} (h : 2 ^ k ≤ n) : blen n = k + blen (n / 2 ^ k) := by
  have hq : 1 ≤ n / 2 ^ k := (Nat.one_le_div_iff (Nat.two_pow_pos k)).2 h
  have h1 := blen_le.1 (Nat.le_refl (blen (n / 2 ^ k)))
  have h0 : 1 ≤ blen (n / 2 ^ k) := by
    apply Nat.le_of_not_lt
    intro h3
    have := blen_le.1 (show blen (n / 2 ^ k) ≤ 0 by omega)
    omega
  have h2 : 2 ^ (blen (n / 2 ^ k) - 1) ≤ n / 2 ^ k := by
    apply Nat.le_of_not_lt
    intro h3
    have := blen_le.2 h3
    omega
  apply blen_eq
  · rw [Nat.pow_add, Nat.mul_comm]
    exact (Nat.div_lt_iff_lt_mul (Nat.two_pow_pos k)).1 h1
  · right
    rw [show k + blen (n / 2 ^ k) - 1 = (blen (n / 2 ^ k) - 1) + k by omega, Nat.pow_add]
    exact (Nat.le_div_iff_mul_le (Nat.two_pow_pos k)).1 h2

def ixSR (h : Heap) : Value → Value → Option (Value × Heap)
  | .string s, .int _ i => if 0 ≤ i then (match s.data.toList[i.toNat]? with | some b => some (.int .u8 b.toNat, h) | none => none) else none
  | _, _ => none
@[simp] theorem op_ixS {P : Program} {cf : CF} {t : List Value} {h : Heap} {x i : Operand} : runOp P cf (.ixS x i) t h = ixSR h (evalT t x) (evalT t i) := by
  unfold runOp ixSR; simp only [aop]
  generalize evalT t x = u
  generalize evalT t i = v
  cases u with
  | string s =>
    cases v with
    | int kd i =>
      simp only
      by_cases hi : 0 ≤ i
      · simp only [hi, if_true]; cases s.data.toList[i.toNat]? <;> rfl
      · simp only [hi, if_false]
    | _ => rfl
  | _ => cases v <;> rfl

set_option maxRecDepth 100000 in
theorem len_tab : ∀ x : _root_.Fin 256, lit_d46a035e.data.toList[x.val]? = some (UInt8.ofNat (blen x.val)) ∧ (UInt8.ofNat (blen x.val)).toNat = blen x.val := by decide +kernel

theorem len_ix {h : Heap} {x : Nat} (hx : x < 256) : ixSR h (.string lit_d46a035e) (.int .u8 (x : Nat)) = some (.int .u8 (blen x : Nat), h) := by
  obtain ⟨h1, h2⟩ := len_tab ⟨x, hx⟩
  simp only [ixSR]
  rw [if_pos (by omega)]
  simp only [Int.toNat_natCast]
  simp only at h1
  rw [h1]
  simp only [h2]

theorem shr_toNat {x : BitVec 64} {k : Nat} : (x >>> k).toNat = x.toNat / 2 ^ k := by rw [BitVec.toNat_ushiftRight, Nat.shiftRight_eq_div_pow]

/-- The last part of Len64: a byte. -/
theorem bi_small {x : BitVec 64} (h : x.toNat < 256) : bi (x.setWidth 8) = (x.toNat : Nat) := by
  unfold bi; rw [BitVec.toNat_setWidth, Nat.mod_eq_of_lt (by omega)]

theorem blen_small {n : Nat} (h : n < 256) : blen n ≤ 8 := blen_le.2 (by omega)

theorem Len64_spec {h : Heap} {x : BitVec 64} : Gives P T (.fn F_math_bits_Len64) [.int .u64 (wi x)] h fun r h' => r = .int .i64 (blen x.toNat : Nat) ∧ h' = h := by
  refine gives_by t_math_bits_Len64 (by simp [c_math_bits_Len64]) fun Q hQ => ?_
  have hx := x.isLt
  have last : ∀ (y : BitVec 64) (k : Nat) (l : List (Nat × Value)) (K : Value → Heap → Prop), y.toNat < 256 → blen x.toNat = k + blen y.toNat → k ≤ 56 →
      (∀ n : Nat, n ≤ 8 → IntKind.i64.wrap (n : Int) = n → IntKind.i64.wrap ((k : Int) + n) = (blen x.toNat : Nat) → K (.int .u8 n) h) → got (ixSR h (.string lit_d46a035e) (.int .u8 (bi (y.setWidth 8)))) K := by
    intro y k l K h1 h2 h3 hK
    rw [bi_small h1]
    have h4 := blen_small h1
    exact got_of (len_ix h1) (hK _ h4 (wrap_i64 (by omega) (by omega)) (by rw [wrap_i64 (by omega) (by omega)]; omega))
  have v8 : IntKind.i64.wrap 8 = 8 := rfl
  have v16 : IntKind.i64.wrap 16 = 16 := rfl
  have v24 : IntKind.i64.wrap 24 = 24 := rfl
  have v40 : IntKind.i64.wrap 40 = 40 := rfl
  have v48 : IntKind.i64.wrap 48 = 48 := rfl
  have v56 : IntKind.i64.wrap 56 = 56 := rfl
  by_cases b1 : (4294967296 : Int) ≤ wi (x)
  · have c1 : blen (x).toNat = 32 + blen (x >>> 32).toNat := by
      have := blen_shift (n := (x).toNat) (k := 32) (by unfold wi at b1; omega)
      rw [← shr_toNat] at this
      exact this
    by_cases b2 : (65536 : Int) ≤ wi (x >>> 32)
    · have c2 : blen (x >>> 32).toNat = 16 + blen (x >>> 48).toNat := by
        have := blen_shift (n := (x >>> 32).toNat) (k := 16) (by unfold wi at b2; omega)
        rw [← shr_toNat, ← BitVec.shiftRight_add] at this
        exact this
      by_cases b3 : (256 : Int) ≤ wi (x >>> 48)
      · have c3 : blen (x >>> 48).toNat = 8 + blen (x >>> 56).toNat := by
          have := blen_shift (n := (x >>> 48).toNat) (k := 8) (by unfold wi at b3; omega)
          rw [← shr_toNat, ← BitVec.shiftRight_add] at this
          exact this
        simp [c_math_bits_Len64, b1, b2, b3, v8, v16, v24, v40, v48, v56]
        refine last (x >>> 56) 56 [] _ (by simp only [shr_toNat, wi] at *; omega) (by omega) (by omega) fun n hn e1 e2 => ?_
        simp at e2
        simp [e1, e2]
        exact hQ _ _ ⟨rfl, rfl⟩
      · have d3 := b3
        simp [c_math_bits_Len64, b1, b2, b3, v8, v16, v24, v40, v48, v56]
        refine last (x >>> 48) 48 [] _ (by simp only [shr_toNat, wi] at *; omega) (by omega) (by omega) fun n hn e1 e2 => ?_
        simp at e2
        simp [e1, e2]
        exact hQ _ _ ⟨rfl, rfl⟩
    · have d2 := b2
      by_cases b3 : (256 : Int) ≤ wi (x >>> 32)
      · have c3 : blen (x >>> 32).toNat = 8 + blen (x >>> 40).toNat := by
          have := blen_shift (n := (x >>> 32).toNat) (k := 8) (by unfold wi at b3; omega)
          rw [← shr_toNat, ← BitVec.shiftRight_add] at this
          exact this
        simp [c_math_bits_Len64, b1, b2, b3, v8, v16, v24, v40, v48, v56]
        refine last (x >>> 40) 40 [] _ (by simp only [shr_toNat, wi] at *; omega) (by omega) (by omega) fun n hn e1 e2 => ?_
        simp at e2
        simp [e1, e2]
        exact hQ _ _ ⟨rfl, rfl⟩
      · have d3 := b3
        simp [c_math_bits_Len64, b1, b2, b3, v8, v16, v24, v40, v48, v56]
        refine last (x >>> 32) 32 [] _ (by simp only [shr_toNat, wi] at *; omega) (by omega) (by omega) fun n hn e1 e2 => ?_
        simp at e2
        simp [e1, e2]
        exact hQ _ _ ⟨rfl, rfl⟩
  · have d1 := b1
    by_cases b2 : (65536 : Int) ≤ wi (x)
    · have c2 : blen (x).toNat = 16 + blen (x >>> 16).toNat := by
        have := blen_shift (n := (x).toNat) (k := 16) (by unfold wi at b2; omega)
        rw [← shr_toNat] at this
        exact this
      by_cases b3 : (256 : Int) ≤ wi (x >>> 16)
      · have c3 : blen (x >>> 16).toNat = 8 + blen (x >>> 24).toNat := by
          have := blen_shift (n := (x >>> 16).toNat) (k := 8) (by unfold wi at b3; omega)
          rw [← shr_toNat, ← BitVec.shiftRight_add] at this
          exact this
        simp [c_math_bits_Len64, b1, b2, b3, v8, v16, v24, v40, v48, v56]
        refine last (x >>> 24) 24 [] _ (by simp only [shr_toNat, wi] at *; omega) (by omega) (by omega) fun n hn e1 e2 => ?_
        simp at e2
        simp [e1, e2]
        exact hQ _ _ ⟨rfl, rfl⟩
      · have d3 := b3
        simp [c_math_bits_Len64, b1, b2, b3, v8, v16, v24, v40, v48, v56]
        refine last (x >>> 16) 16 [] _ (by simp only [shr_toNat, wi] at *; omega) (by omega) (by omega) fun n hn e1 e2 => ?_
        simp at e2
        simp [e1, e2]
        exact hQ _ _ ⟨rfl, rfl⟩
    · have d2 := b2
      by_cases b3 : (256 : Int) ≤ wi (x)
      · have c3 : blen (x).toNat = 8 + blen (x >>> 8).toNat := by
          have := blen_shift (n := (x).toNat) (k := 8) (by unfold wi at b3; omega)
          rw [← shr_toNat] at this
          exact this
        simp [c_math_bits_Len64, b1, b2, b3, v8, v16, v24, v40, v48, v56]
        refine last (x >>> 8) 8 [] _ (by simp only [shr_toNat, wi] at *; omega) (by omega) (by omega) fun n hn e1 e2 => ?_
        simp at e2
        simp [e1, e2]
        exact hQ _ _ ⟨rfl, rfl⟩
      · have d3 := b3
        simp [c_math_bits_Len64, b1, b2, b3, v8, v16, v24, v40, v48, v56]
        refine last (x) 0 [] _ (by simp only [shr_toNat, wi] at *; omega) (by omega) (by omega) fun n hn e1 e2 => ?_
        simp at e2
        simp [e1, e2]
        exact hQ _ _ ⟨by rw [← e2, e1], rfl⟩

end Go.Ax
