/- Seat bits: Select. -/
import Derived.Test.YtahllahgeldjcaaDoorYI
namespace Go.Ax
set_option linter.unusedVariables false
set_option linter.unusedSimpArgs false

theorem low_form {x : BitVec 64} {j : Nat} (h1 : x.getLsbD j = true) (h0 : ∀ i, i < j → x.getLsbD i = false) : ∃ m, x.toNat = 2 ^ j * (2 * m + 1) := by
  have hlow : x.toNat % 2 ^ j = 0 := by
    apply Nat.eq_of_testBit_eq
    intro i
    rw [Nat.testBit_mod_two_pow, Nat.zero_testBit]
    by_cases hi : i < j
    · have := h0 i hi
      simp only [BitVec.getLsbD] at this
      simp [this]
    · simp [hi]
  have hbit : (x.toNat / 2 ^ j) % 2 = 1 := by
    have h2 : (x.toNat / 2 ^ j).testBit 0 = true := by
      rw [Nat.testBit_div_two_pow]
      simpa [BitVec.getLsbD] using h1
    simpa [Nat.testBit_zero] using h2
  refine ⟨x.toNat / 2 ^ j / 2, ?_⟩
  have a1 := Nat.div_add_mod x.toNat (2 ^ j)
  rw [hlow, Nat.add_zero] at a1
  have a2 : 2 * (x.toNat / 2 ^ j / 2) + 1 = x.toNat / 2 ^ j := by omega
  rw [a2]; exact a1.symm

/-- A word without its lowest one. -/
theorem and_pred {x : BitVec 64} {j : Nat} (hj : j < 64) (h1 : x.getLsbD j = true) (h0 : ∀ i, i < j → x.getLsbD i = false) (b : Nat) : (x &&& (x - 1#64)).getLsbD b = (x.getLsbD b && decide (b ≠ j)) := by
  obtain ⟨m, hm⟩ := low_form h1 h0
  have hp := Nat.two_pow_pos j
  have hx := x.isLt
  have hpred : (x - 1#64).toNat = (2 ^ j - 1) + 2 ^ j * (2 * m) := by
    rw [BitVec.toNat_sub, hm]
    have : 0 < 2 ^ j * (2 * m + 1) := Nat.mul_pos hp (by omega)
    have e : 2 ^ j * (2 * m + 1) = 2 ^ j * (2 * m) + 2 ^ j := by rw [Nat.mul_succ]
    simp
    omega
  have hand : (x &&& (x - 1#64)).toNat = 2 ^ j * (2 * m) := by
    rw [BitVec.toNat_and, hpred, hm]
    have k1 := and_split (k := j) (A := 0) (C := 2 ^ j - 1) (Y := 2 * m + 1) (Z := 2 * m) hp (by omega)
    rw [Nat.zero_add] at k1
    rw [k1]
    have k2 := and_split (k := 1) (A := 1) (C := 0) (Y := m) (Z := m) (by omega) (by omega)
    have k3 : (2 * m + 1) &&& (2 * m) = 2 * m := by
      rw [Nat.zero_add] at k2
      have q1 : 2 * m + 1 = 1 + 2 ^ 1 * m := by omega
      have q2 : 2 * m = 2 ^ 1 * m := by omega
      rw [q1, q2, k2]
      simp
    rw [k3]; simp
  simp only [BitVec.getLsbD]
  rw [hand, hm]
  by_cases hb : b < j
  · have e1 : (2 ^ j * (2 * m)).testBit b = false := by rw [Nat.testBit_two_pow_mul]; simp; omega
    have e2 : (2 ^ j * (2 * m + 1)).testBit b = false := by rw [Nat.testBit_two_pow_mul]; simp; omega
    rw [e1, e2]; rfl
  · rw [Nat.testBit_two_pow_mul, Nat.testBit_two_pow_mul]
    have hjb : b ≥ j := by omega
    simp only [hjb, decide_true, Bool.true_and]
    by_cases hbj : b = j
    · subst hbj; simp
    · obtain ⟨d, hd⟩ : ∃ d, b - j = d + 1 := ⟨b - j - 1, by omega⟩
      rw [hd, Nat.testBit_succ, Nat.testBit_succ, show 2 * m / 2 = m by omega, show (2 * m + 1) / 2 = m by omega]
      simp [hbj]

/-- A word with a one has a lowest one. -/
theorem lowest {x : BitVec 64} (h : ∃ i, i < 64 ∧ x.getLsbD i = true) : ∃ j, j < 64 ∧ x.getLsbD j = true ∧ ∀ i, i < j → x.getLsbD i = false := by
  obtain ⟨i, hi, hx⟩ := h
  induction i using Nat.strongRecOn with
  | _ i ih =>
    by_cases hex : ∃ k, k < i ∧ x.getLsbD k = true
    · obtain ⟨k, hk, hxk⟩ := hex
      exact ih k hk (by omega) hxk
    · refine ⟨i, hi, hx, fun k hk => ?_⟩
      cases hxk : x.getLsbD k with
      | false => rfl
      | true => exact absurd ⟨k, hk, hxk⟩ hex

theorem cnt_step (f : Nat → Bool) (i : Nat) : cnt f (i + 1) = cnt f i + (f i).toNat := rfl

/-- Among the first n there is the k-th one. -/
theorem cnt_find (f : Nat → Bool) : ∀ (n k : Nat), k < cnt f n → ∃ i, i < n ∧ f i = true ∧ cnt f i = k
  | 0, k, h => by simp [cnt] at h
  | n + 1, k, h => by
    by_cases hk : k < cnt f n
    · obtain ⟨i, h1, h2, h3⟩ := cnt_find f n k hk
      exact ⟨i, by omega, h2, h3⟩
    · rw [cnt_step] at h
      cases hf : f n with
      | false => rw [hf] at h; simp at h; omega
      | true => rw [hf] at h; simp at h; exact ⟨n, by omega, hf, by omega⟩

theorem cnt_inj {f : Nat → Bool} {i j : Nat} (hi : f i = true) (hj : f j = true) (h : cnt f i = cnt f j) : i = j := by
  have key : ∀ {a b : Nat}, f a = true → a < b → cnt f a < cnt f b := by
    intro a b ha hab
    have := cnt_mono f (show a + 1 ≤ b by omega)
    rw [cnt_step, ha] at this
    simp at this; omega
  rcases Nat.lt_trichotomy i j with h1 | h1 | h1
  · have := key hi h1; omega
  · exact h1
  · have := key hj h1; omega

/-- What a number asked for comes to. -/
structure Sel (ws : List (BitVec 64)) (n : Nat) (k : Int) (v : Value) : Prop where
  found : ∀ i : Nat, bit ws i = true → (cnt (bit ws) i : Int) = k → v = .tuple #[.int .i64 (i : Nat), .bool true]
  none : (k < 0 ∨ (cnt (bit ws) n : Int) ≤ k) → v = .tuple #[.int .i64 0, .bool false]

end Go.Ax
