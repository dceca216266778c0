/- Counting the ones of a word, as math/bits does. -/
import Derived.Test.YtpemffaclmpnnaaDoorMH
namespace Go.Ax
set_option linter.unusedVariables false
set_option linter.unusedSimpArgs false

/-- How many of the first n numbers f holds. -/
def cnt (f : Nat → Bool) : Nat → Nat
  | 0 => 0
  | n + 1 => cnt f n + (f n).toNat

theorem cnt_add (f : Nat → Bool) (a : Nat) : ∀ b, cnt f (a + b) = cnt f a + cnt (fun i => f (a + i)) b
  | 0 => by simp [cnt]
  | b + 1 => by rw [← Nat.add_assoc]; simp only [cnt]; rw [cnt_add f a b]; omega

theorem cnt_congr {f g : Nat → Bool} : ∀ n, (∀ i, i < n → f i = g i) → cnt f n = cnt g n
  | 0, _ => rfl
  | n + 1, h => by simp only [cnt]; rw [cnt_congr n fun i hi => h i (by omega), h n (by omega)]

theorem cnt_le (f : Nat → Bool) : ∀ n, cnt f n ≤ n
  | 0 => Nat.le_refl _
  | n + 1 => by
    simp only [cnt]
    have := cnt_le f n
    cases f n <;> simp <;> omega

theorem cnt_mono (f : Nat → Bool) {n m : Nat} (h : n ≤ m) : cnt f n ≤ cnt f m := by
  obtain ⟨d, rfl⟩ := Nat.le.dest h
  rw [cnt_add]; omega

theorem cnt_zero {f : Nat → Bool} {n : Nat} (h : ∀ i, i < n → f i = false) : cnt f n = 0 := by
  induction n with
  | zero => rfl
  | succ n ih => simp only [cnt]; rw [ih fun i hi => h i (by omega), h n (by omega)]; rfl

def pc (x : BitVec 64) : Nat := cnt x.getLsbD 64

def val : List Nat → Nat
  | [] => 0
  | b :: bs => b + 256 * val bs
def rep (c : Nat) : Nat → Nat
  | 0 => 0
  | n + 1 => c + 256 * rep c n

theorem and_split {k A C Y Z : Nat} (hA : A < 2 ^ k) (hC : C < 2 ^ k) : (A + 2 ^ k * Y) &&& (C + 2 ^ k * Z) = (A &&& C) + 2 ^ k * (Y &&& Z) := by
  apply Nat.eq_of_testBit_eq
  intro i
  have hAC : A &&& C < 2 ^ k := Nat.and_lt_two_pow _ hC
  rw [Nat.testBit_and, Nat.add_comm A, Nat.add_comm C, Nat.add_comm (A &&& C), Nat.testBit_two_pow_mul_add _ hA, Nat.testBit_two_pow_mul_add _ hC, Nat.testBit_two_pow_mul_add _ hAC]
  split
  · rw [Nat.testBit_and]
  · rw [Nat.testBit_and]

theorem and_low {k A C Y : Nat} (hC : C < 2 ^ k) : (A + 2 ^ k * Y) &&& C = A &&& C := by
  apply Nat.eq_of_testBit_eq
  intro i
  rw [Nat.testBit_and, Nat.testBit_and]
  by_cases hi : i < k
  · congr 1
    have h1 : (A + 2 ^ k * Y).testBit i = ((A + 2 ^ k * Y) % 2 ^ k).testBit i := by rw [Nat.testBit_mod_two_pow]; simp [hi]
    have h2 : A.testBit i = (A % 2 ^ k).testBit i := by rw [Nat.testBit_mod_two_pow]; simp [hi]
    rw [h1, h2, Nat.add_mul_mod_self_left]
  · rw [Nat.testBit_lt_two_pow (Nat.lt_of_lt_of_le hC (Nat.pow_le_pow_right (by omega) (by omega)))]
    simp

theorem stage (j C : Nat) (hj : j ≤ 8) (hC : C < 2 ^ (8 - j)) : ∀ bs : List Nat, (∀ b ∈ bs, b < 256) →
    ((val bs / 2 ^ j) &&& rep C bs.length) = val (bs.map fun b => (b / 2 ^ j) &&& C) ∧ (val bs &&& rep C bs.length) = val (bs.map fun b => b &&& C)
  | [], _ => by simp [val, rep]
  | b :: bs, h => by
    obtain ⟨h1, h2⟩ := stage j C hj hC bs fun x hx => h x (by simp [hx])
    have hb : b < 256 := h b (by simp)
    have hC8 : C < 2 ^ 8 := Nat.lt_of_lt_of_le hC (Nat.pow_le_pow_right (by omega) (by omega))
    have e8 : (2 : Nat) ^ (8 - j) * 2 ^ j = 256 := by rw [← Nat.pow_add, Nat.sub_add_cancel hj]
    simp only [val, rep, List.length_cons, List.map_cons]
    constructor
    · have hd : (b + 256 * val bs) / 2 ^ j = (b / 2 ^ j + 2 ^ (8 - j) * (val bs % 2 ^ j)) + 2 ^ 8 * (val bs / 2 ^ j) := by
        have e1 : 256 * val bs = 2 ^ j * (2 ^ (8 - j) * val bs) := by rw [← Nat.mul_assoc, Nat.mul_comm (2 ^ j), e8]
        rw [e1, Nat.add_mul_div_left _ _ (Nat.two_pow_pos j)]
        have e2 := Nat.div_add_mod (val bs) (2 ^ j)
        have e3 : 2 ^ (8 - j) * val bs = 2 ^ 8 * (val bs / 2 ^ j) + 2 ^ (8 - j) * (val bs % 2 ^ j) := by
          conv => lhs; rw [← e2]
          rw [Nat.mul_add, ← Nat.mul_assoc, e8]
        rw [e3]; omega
      have hlt : b / 2 ^ j + 2 ^ (8 - j) * (val bs % 2 ^ j) < 2 ^ 8 := by
        have a1 : b / 2 ^ j < 2 ^ (8 - j) := by
          rw [Nat.div_lt_iff_lt_mul (Nat.two_pow_pos j), e8]; exact hb
        have a2 : val bs % 2 ^ j < 2 ^ j := Nat.mod_lt _ (Nat.two_pow_pos j)
        have a3 : 2 ^ (8 - j) * (val bs % 2 ^ j) + 2 ^ (8 - j) ≤ 256 := by
          rw [← Nat.mul_succ]
          calc 2 ^ (8 - j) * (val bs % 2 ^ j + 1) ≤ 2 ^ (8 - j) * 2 ^ j := Nat.mul_le_mul_left _ a2
            _ = 256 := e8
        omega
      rw [hd, show C + 256 * rep C bs.length = C + 2 ^ 8 * rep C bs.length from rfl, and_split hlt hC8, h1, and_low hC]
    · rw [show b + 256 * val bs = b + 2 ^ 8 * val bs from rfl, show C + 256 * rep C bs.length = C + 2 ^ 8 * rep C bs.length from rfl, and_split hb hC8, h2]

theorem val_add (f g : Nat → Nat) : ∀ bs : List Nat, val (bs.map f) + val (bs.map g) = val (bs.map fun b => f b + g b)
  | [] => rfl
  | b :: bs => by simp only [List.map_cons, val]; rw [← val_add f g bs]; omega

theorem stage3 : ∀ bs : List Nat, (∀ b ∈ bs, b / 16 ≤ 4 ∧ b % 16 ≤ 4) → ((val bs / 2 ^ 4 + val bs) &&& rep 15 bs.length) = val (bs.map fun b => b / 16 + b % 16) ∧ (bs ≠ [] → val bs % 16 ≤ 4)
  | [], _ => by simp [val, rep]
  | b :: bs, h => by
    obtain ⟨h1, h2⟩ := stage3 bs fun x hx => h x (by simp [hx])
    obtain ⟨hb1, hb2⟩ := h b (by simp)
    have hm : val bs % 16 ≤ 4 := by
      cases bs with
      | nil => simp [val]
      | cons c cs => exact h2 (by simp)
    simp only [val, rep, List.length_cons, List.map_cons]
    refine ⟨?_, fun _ => by omega⟩
    have hd : (b + 256 * val bs) / 2 ^ 4 + (b + 256 * val bs) = (b / 16 + b + 16 * (val bs % 16)) + 2 ^ 8 * (val bs / 2 ^ 4 + val bs) := by omega
    rw [hd, show (15 : Nat) + 256 * rep 15 bs.length = 15 + 2 ^ 8 * rep 15 bs.length from rfl, and_split (by omega) (by omega), h1]
    have : (b / 16 + b + 16 * (val bs % 16)) &&& 15 = b / 16 + b % 16 := by
      rw [show (15 : Nat) = 2 ^ 4 - 1 from rfl, Nat.and_two_pow_sub_one_eq_mod]; omega
    rw [this]

theorem byte_all : ∀ b, b < 256 → (fun b1 => (fun b2 => b1 < 256 ∧ b2 < 256 ∧ b2 / 16 ≤ 4 ∧ b2 % 16 ≤ 4 ∧ b2 / 16 + b2 % 16 = cnt b.testBit 8) ((b1 / 2 ^ 2 &&& 51) + (b1 &&& 51))) ((b / 2 ^ 1 &&& 85) + (b &&& 85)) := by decide +kernel

def bytes8 (x : Nat) : List Nat := [x % 256, x / 256 % 256, x / 256 ^ 2 % 256, x / 256 ^ 3 % 256, x / 256 ^ 4 % 256, x / 256 ^ 5 % 256, x / 256 ^ 6 % 256, x / 256 ^ 7 % 256]

theorem val_bytes {x : Nat} (h : x < 18446744073709551616) : val (bytes8 x) = x := by
  simp only [bytes8, val]; omega

def sumL (l : List Nat) : Nat := l.foldr (· + ·) 0

theorem cnt_bytes (x : Nat) : cnt x.testBit 64 = sumL ((bytes8 x).map fun b => cnt b.testBit 8) := by
  have hb : ∀ k, cnt (fun i => x.testBit (8 * k + i)) 8 = cnt (x / 256 ^ k % 256).testBit 8 := by
    intro k
    apply cnt_congr
    intro i hi
    rw [show (256 : Nat) = 2 ^ 8 from rfl, Nat.testBit_mod_two_pow, ← Nat.pow_mul, Nat.testBit_div_two_pow]
    simp [hi]
    congr 1; omega
  have e : cnt x.testBit 64 = cnt (fun i => x.testBit (8 * 0 + i)) 8 + (cnt (fun i => x.testBit (8 * 1 + i)) 8 + (cnt (fun i => x.testBit (8 * 2 + i)) 8 + (cnt (fun i => x.testBit (8 * 3 + i)) 8 + (cnt (fun i => x.testBit (8 * 4 + i)) 8 + (cnt (fun i => x.testBit (8 * 5 + i)) 8 + (cnt (fun i => x.testBit (8 * 6 + i)) 8 + cnt (fun i => x.testBit (8 * 7 + i)) 8)))))) := by
    have z : (fun i => x.testBit (8 * 0 + i)) = x.testBit := by funext i; congr 1; omega
    rw [z, show (64 : Nat) = 8 + 8 + 8 + 8 + 8 + 8 + 8 + 8 from rfl]
    rw [cnt_add, cnt_add, cnt_add, cnt_add, cnt_add, cnt_add, cnt_add]
    simp only [Nat.reduceAdd, Nat.reduceMul]
    omega
  rw [e, hb, hb, hb, hb, hb, hb, hb, hb]
  simp [bytes8, sumL]

theorem rep_len (c : Nat) (x : Nat) : rep c (bytes8 x).length = rep c 8 := rfl

/-- The whole count, in Nat. -/
theorem pop_nat {x : Nat} (h : x < 18446744073709551616) (y1 y2 y3 : Nat) (h1 : y1 = (x / 2 ^ 1 &&& 6148914691236517205) + (x &&& 6148914691236517205)) (h2 : y2 = (y1 / 2 ^ 2 &&& 3689348814741910323) + (y1 &&& 3689348814741910323))
    (h3 : y3 = (y2 / 2 ^ 4 + y2) &&& 1085102592571150095) :
    y1 < 18446744073709551616 ∧ y2 < 4919131752989213765 ∧ y3 < 578721382704613385 ∧ (y3 + y3 / 256 + (y3 + y3 / 256) / 65536 + (y3 + y3 / 256 + (y3 + y3 / 256) / 65536) / 4294967296) % 128 = cnt x.testBit 64 := by
  have m1 : (6148914691236517205 : Nat) = rep 85 8 := by decide
  have m2 : (3689348814741910323 : Nat) = rep 51 8 := by decide
  have m3 : (1085102592571150095 : Nat) = rep 15 8 := by decide
  let f1 : Nat → Nat := fun b => (b / 2 ^ 1 &&& 85) + (b &&& 85)
  let f2 : Nat → Nat := fun b => (b / 2 ^ 2 &&& 51) + (b &&& 51)
  have hbs : ∀ b ∈ bytes8 x, b < 256 := by
    intro b hb
    simp only [bytes8, List.mem_cons, List.not_mem_nil, or_false] at hb
    omega
  have e1 : y1 = val ((bytes8 x).map f1) := by
    obtain ⟨a, b⟩ := stage 1 85 (by omega) (by decide) (bytes8 x) hbs
    rw [rep_len, ← m1, val_bytes h] at a b
    rw [h1, a, b, val_add]
  have hb1 : ∀ b ∈ (bytes8 x).map f1, b < 256 := by
    intro b hb
    rw [List.mem_map] at hb
    obtain ⟨c, hc, rfl⟩ := hb
    exact (byte_all c (hbs c hc)).1
  have e2 : y2 = val (((bytes8 x).map f1).map f2) := by
    obtain ⟨a, b⟩ := stage 2 51 (by omega) (by decide) ((bytes8 x).map f1) hb1
    rw [List.length_map, rep_len, ← m2, ← e1] at a b
    rw [h2, a, b, val_add]
  have hb2 : ∀ b ∈ ((bytes8 x).map f1).map f2, b / 16 ≤ 4 ∧ b % 16 ≤ 4 := by
    intro b hb
    rw [List.map_map, List.mem_map] at hb
    obtain ⟨c, hc, rfl⟩ := hb
    exact ⟨(byte_all c (hbs c hc)).2.2.1, (byte_all c (hbs c hc)).2.2.2.1⟩
  have e3 : y3 = val ((bytes8 x).map fun b => cnt b.testBit 8) := by
    obtain ⟨a, _⟩ := stage3 (((bytes8 x).map f1).map f2) hb2
    rw [List.length_map, List.length_map, rep_len, ← m3, ← e2] at a
    rw [h3, a, List.map_map, List.map_map]
    congr 1
    apply List.map_congr_left
    intro b hb
    exact (byte_all b (hbs b hb)).2.2.2.2
  rw [cnt_bytes]
  have hc : ∀ b : Nat, cnt b.testBit 8 ≤ 8 := fun b => cnt_le _ 8
  have c2 : ∀ c ∈ ((bytes8 x).map f1).map f2, c ≤ 68 := fun c hc => by have := hb2 c hc; omega
  have g1 : ∀ c ∈ (bytes8 x).map f1, c < 256 := hb1
  simp only [bytes8, List.map_cons, List.map_nil, val] at e1 e2 e3 c2 g1
  simp only [List.mem_cons, List.not_mem_nil, or_false, forall_eq_or_imp, forall_eq] at c2 g1
  simp only [bytes8, List.map_cons, List.map_nil, sumL, List.foldr]
  have k0 := hc (x % 256)
  have k1 := hc (x / 256 % 256)
  have k2 := hc (x / 256 ^ 2 % 256)
  have k3 := hc (x / 256 ^ 3 % 256)
  have k4 := hc (x / 256 ^ 4 % 256)
  have k5 := hc (x / 256 ^ 5 % 256)
  have k6 := hc (x / 256 ^ 6 % 256)
  have k7 := hc (x / 256 ^ 7 % 256)
  refine ⟨?_, ?_, ?_, ?_⟩
  · clear e2 e3 c2 k0 k1 k2 k3 k4 k5 k6 k7; omega
  · clear e1 e3 g1 k0 k1 k2 k3 k4 k5 k6 k7; omega
  · clear e1 e2 g1 c2; omega
  · clear e1 e2 g1 c2 h1 h2 h3
    generalize cnt (x % 256).testBit 8 = c0 at *
    generalize cnt (x / 256 % 256).testBit 8 = c1 at *
    generalize cnt (x / 256 ^ 2 % 256).testBit 8 = c2 at *
    generalize cnt (x / 256 ^ 3 % 256).testBit 8 = c3 at *
    generalize cnt (x / 256 ^ 4 % 256).testBit 8 = c4 at *
    generalize cnt (x / 256 ^ 5 % 256).testBit 8 = c5 at *
    generalize cnt (x / 256 ^ 6 % 256).testBit 8 = c6 at *
    generalize cnt (x / 256 ^ 7 % 256).testBit 8 = c7 at *
    have d1 : y3 / 256 = c1 + 256 * (c2 + 256 * (c3 + 256 * (c4 + 256 * (c5 + 256 * (c6 + 256 * c7))))) := by omega
    rw [d1]
    obtain ⟨y4, h4⟩ : ∃ y4, y3 + (c1 + 256 * (c2 + 256 * (c3 + 256 * (c4 + 256 * (c5 + 256 * (c6 + 256 * c7)))))) = y4 := ⟨_, rfl⟩
    rw [h4]
    have e4 : y4 = (c0 + c1) + 256 * ((c1 + c2) + 256 * ((c2 + c3) + 256 * ((c3 + c4) + 256 * ((c4 + c5) + 256 * ((c5 + c6) + 256 * ((c6 + c7) + 256 * c7)))))) := by omega
    clear d1 h4 e3
    have d2 : y4 / 65536 = (c2 + c3) + 256 * ((c3 + c4) + 256 * ((c4 + c5) + 256 * ((c5 + c6) + 256 * ((c6 + c7) + 256 * c7)))) := by omega
    rw [d2]
    obtain ⟨y5, h5⟩ : ∃ y5, y4 + ((c2 + c3) + 256 * ((c3 + c4) + 256 * ((c4 + c5) + 256 * ((c5 + c6) + 256 * ((c6 + c7) + 256 * c7))))) = y5 := ⟨_, rfl⟩
    rw [h5]
    have e5 : y5 = (c0 + c1 + c2 + c3) + 256 * ((c1 + c2 + c3 + c4) + 256 * ((c2 + c3 + c4 + c5) + 256 * ((c3 + c4 + c5 + c6) + 256 * ((c4 + c5 + c6 + c7) + 256 * ((c5 + c6 + c7) + 256 * ((c6 + c7) + 256 * c7)))))) := by omega
    clear d2 h5 e4
    have d3 : y5 / 4294967296 = (c4 + c5 + c6 + c7) + 256 * ((c5 + c6 + c7) + 256 * ((c6 + c7) + 256 * c7)) := by omega
    rw [d3]
    have e6 : y5 + ((c4 + c5 + c6 + c7) + 256 * ((c5 + c6 + c7) + 256 * ((c6 + c7) + 256 * c7))) = (c0 + (c1 + (c2 + (c3 + (c4 + (c5 + (c6 + (c7 + 0)))))))) + 128 * (2 * ((c1 + c2 + c3 + c4 + c5 + c6 + c7) + 256 * ((c2 + c3 + c4 + c5 + c6 + c7) + 256 * ((c3 + c4 + c5 + c6 + c7) + 256 * ((c4 + c5 + c6 + c7) + 256 * ((c5 + c6 + c7) + 256 * ((c6 + c7) + 256 * c7))))))) := by omega
    rw [e6, Nat.add_mul_mod_self_left]
    omega
end Go.Ax
