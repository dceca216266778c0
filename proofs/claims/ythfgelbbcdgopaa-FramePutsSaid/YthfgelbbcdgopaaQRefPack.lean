/- Pack of the reference: bit by bit; and its Bytes. -/
import Derived.Test.YthfgelbbcdgopaaSx4
import Derived.Test.YthfgelbbcdgopaaSx3
import Derived.Test.YthfgelbbcdgopaaQFits
import Derived.Test.YthfgelbbcdgopaaVL
set_option linter.unusedVariables false
set_option linter.unusedSimpArgs false
namespace Go.Proofs.Ythfgelbbcdgopaa.S
open Go.RowKit Go.Proofs.YthfgelbbcdgopaaV Go.Proofs.YthfgelbbcdgopaaW.PrintWords Go.Proofs.YthfgelbbcdgopaaW.PrintLast Go.Proofs.YthfgelbbcdgopaaW.PrintMore

theorem rmay_is (w : Int) : colonnaderef02_May.f w = some (decide (0 ≤ w ∧ w ≤ 64)) := by
  unfold colonnaderef02_May.f
  by_cases h : w ≥ 0
  · rw [if_pos h]; have : 0 ≤ w := h; simp [this]
  · rw [if_neg h]; have : ¬ 0 ≤ w := h; simp [this]
theorem rbytes_ok (n w : Nat) (hn : n ≤ 16777216) (hw : w ≤ 64) : colonnaderef02_Bytes.f (n : Int) (w : Int) = some ((((n * w + 7) / 8 : Nat) : Int), 0) := by
  have h1 : n * w ≤ 16777216 * 64 := Nat.mul_le_mul hn hw
  unfold colonnaderef02_Bytes.f
  rw [if_neg (by omega), if_neg (by omega), rmay_is]
  simp only [Option.bind_some]
  rw [if_pos (by simp; omega), show (n : Int) * (w : Int) = ((n * w : Nat) : Int) from (Int.natCast_mul _ _).symm, w64 (n := ((n * w : Nat) : Int)) (by omega) (by omega), w64 (n := ((n * w : Nat) : Int) + 7) (by omega) (by omega)]
  rw [show Int.tdiv (((n * w : Nat) : Int) + 7) 8 = (((n * w + 7) / 8 : Nat) : Int) from tdiv_nat (n * w + 7) 8, w64 (by omega) (by omega)]
theorem rbytes_not (n w : Int) (h : ¬ (0 ≤ n ∧ n ≤ 16777216 ∧ 0 ≤ w ∧ w ≤ 64)) : colonnaderef02_Bytes.f n w = some (0, if n < 0 then 2 else if 16777216 < n then 3 else 20) := by
  unfold colonnaderef02_Bytes.f
  by_cases h1 : n < 0
  · rw [if_pos h1, if_pos h1]
  · rw [if_neg h1, if_neg h1]
    by_cases h2 : n > 16777216
    · rw [if_pos h2, if_pos h2]
    · rw [if_neg h2, if_neg h2, rmay_is, Option.bind_some, if_neg (by simp; omega)]
theorem num_set (l : List Int) (q : Nat) (v : Int) (hq : q < l.length) : num (l.set q v) + 256 ^ q * (l.getD q 0).toNat = num l + 256 ^ q * v.toNat := by
  induction l generalizing q with
  | nil => simp at hq
  | cons x xs ih =>
    cases q with
    | zero => simp [num]; omega
    | succ q =>
      have h := ih q (by simpa using hq)
      simp only [List.set_cons_succ, num, List.getD_cons_succ, Nat.pow_succ]
      have e1 : 256 ^ q * 256 * (xs.getD q 0).toNat = 256 * (256 ^ q * (xs.getD q 0).toNat) := by ac_rfl
      have e2 : 256 ^ q * 256 * v.toNat = 256 * (256 ^ q * v.toNat) := by ac_rfl
      rw [e1, e2]
      omega
theorem bytes_set {l : List Int} (h : Bytes l) (q : Nat) {v : Int} (hv : 0 ≤ v ∧ v < 256) : Bytes (l.set q v) := fun x hx => by
  rcases List.mem_or_eq_of_mem_set hx with h1 | h1
  · exact h x h1
  · rw [h1]; exact hv
/-- One bit laid behind all that there is. -/
theorem bit_laid (b : List Int) (hb : Bytes b) (p : Nat) (hp : p / 8 < b.length) (hn : num b < 2 ^ p) (x : Nat) (hx : x < 2) :
    Bytes (b.set (p / 8) (((b.getD (p / 8) 0).toNat ||| x * 2 ^ (p % 8) : Nat) : Int)) ∧ num (b.set (p / 8) (((b.getD (p / 8) 0).toNat ||| x * 2 ^ (p % 8) : Nat) : Int)) = num b + 2 ^ p * x := by
  have hm : p % 8 < 8 := Nat.mod_lt _ (by decide)
  have hp8 : 2 ^ p = 256 ^ (p / 8) * 2 ^ (p % 8) := by rw [pow256, ← Nat.pow_add]; congr 1; omega
  have hlt : (b.getD (p / 8) 0).toNat < 2 ^ (p % 8) := by
    rw [num_get hb]
    have h1 : num b / 256 ^ (p / 8) < 2 ^ (p % 8) := by
      rw [Nat.div_lt_iff_lt_mul (by rw [pow256]; exact Nat.two_pow_pos _), Nat.mul_comm, ← hp8]; exact hn
    exact Nat.lt_of_le_of_lt (Nat.mod_le _ _) h1
  rw [or_add hlt]
  have h2 : 2 ^ (p % 8) ≤ 2 ^ 7 := Nat.pow_le_pow_right (by decide) (by omega)
  have h3 : x * 2 ^ (p % 8) ≤ 1 * 2 ^ (p % 8) := Nat.mul_le_mul_right _ (by omega)
  refine ⟨bytes_set hb _ ⟨by omega, by omega⟩, ?_⟩
  have h := num_set b (p / 8) (((b.getD (p / 8) 0).toNat + x * 2 ^ (p % 8) : Nat) : Int) hp
  rw [Int.toNat_natCast, Nat.mul_add] at h
  rw [hp8]
  have e : 256 ^ (p / 8) * (x * 2 ^ (p % 8)) = 256 ^ (p / 8) * 2 ^ (p % 8) * x := by ac_rfl
  rw [e] at h
  omega
theorem rpack_l1 (l : List Int) (w : Nat) (hw : w ≤ 64) (hn : l.length ≤ 16777216) (i x : Nat) (hi : i < l.length) (hx : l.getD i 0 = (x : Int)) (hx64 : x < 18446744073709551616) (d : Nat) : ∀ (k j : Nat) (b : List Int),
    j + d = w → Bytes b → b.length = (l.length * w + 7) / 8 → num b = lanes w (l.take i) + 2 ^ (i * w) * (x % 2 ^ j) → num b < 2 ^ (i * w + j) → d + 1 ≤ k →
    ∃ (k' : Nat) (b' : List Int), k ≤ k' + d + 1 ∧ colonnaderef02_Pack.l1 k l (w : Int) b (i : Int) (j : Int) = colonnaderef02_Pack.l0 k' l (w : Int) b' ((i + 1 : Nat) : Int) ∧ Bytes b' ∧ b'.length = (l.length * w + 7) / 8 ∧ num b' = lanes w (l.take i) + 2 ^ (i * w) * (x % 2 ^ w) ∧ num b' < 2 ^ ((i + 1) * w) := by
  have hbd : l.length * w ≤ 16777216 * 64 := Nat.mul_le_mul hn hw
  have hbi : (i + 1) * w ≤ l.length * w := Nat.mul_le_mul_right _ (by omega)
  have hs : (i + 1) * w = i * w + w := by rw [Nat.add_mul, Nat.one_mul]
  induction d with
  | zero =>
    intro k j b hj hb hbl hbn hlt hk
    obtain ⟨k, rfl⟩ : ∃ m, k = m + 1 := ⟨k - 1, by omega⟩
    obtain rfl : j = w := by omega
    refine ⟨k, b, by omega, ?_, hb, hbl, hbn, by rw [hs]; exact hlt⟩
    rw [colonnaderef02_Pack.l1, if_neg (by omega), w64 (by omega) (by omega)]
    rfl
  | succ d ih =>
    intro k j b hj hb hbl hbn hlt hk
    obtain ⟨k, rfl⟩ : ∃ m, k = m + 1 := ⟨k - 1, by omega⟩
    obtain ⟨p, hp⟩ : ∃ p : Nat, p = i * w + j := ⟨_, rfl⟩
    have hpl : p / 8 < b.length := by rw [hbl]; omega
    have hxd : (x / 2 ^ j) % 2 < 2 := Nat.mod_lt _ (by decide)
    have hlay := bit_laid b hb p hpl (by rw [hp]; exact hlt) ((x / 2 ^ j) % 2) hxd
    have hrx : rd l (i : Int) = (x : Int) := by unfold rd; rw [Int.toNat_natCast, hx]
    have hbg := hb.get (p / 8)
    have hrb : rd b ((p / 8 : Nat) : Int) = (((b.getD (p / 8) 0).toNat : Nat) : Int) := by unfold rd; rw [Int.toNat_natCast]; omega
    have hm : p % 8 < 8 := Nat.mod_lt _ (by decide)
    have hsh : (x / 2 ^ j) % 2 * 2 ^ (p % 8) < 256 := by
      have h2 : 2 ^ (p % 8) ≤ 2 ^ 7 := Nat.pow_le_pow_right (by decide) (by omega)
      have h3 : (x / 2 ^ j) % 2 * 2 ^ (p % 8) ≤ 1 * 2 ^ (p % 8) := Nat.mul_le_mul_right _ (by omega)
      omega
    rw [colonnaderef02_Pack.l1, if_pos (by omega)]
    rw [show (i : Int) * (w : Int) = ((i * w : Nat) : Int) from (Int.natCast_mul _ _).symm, w64 (n := ((i * w : Nat) : Int)) (by omega) (by omega), show ((i * w : Nat) : Int) + (j : Int) = (p : Int) by omega, w64 (n := (p : Int)) (by omega) (by omega)]
    rw [show Int.tdiv (p : Int) 8 = ((p / 8 : Nat) : Int) from tdiv_nat p 8, show Int.tmod (p : Int) 8 = ((p % 8 : Nat) : Int) from tmod_nat p 8, w64 (n := ((p / 8 : Nat) : Int)) (by omega) (by omega)]
    rw [if_pos (by omega), if_pos (by omega), if_pos (by omega), if_pos (by omega), wrap_u64 (j : Int), show (j : Int) % 18446744073709551616 = (j : Int) by omega, if_pos (by omega), wrap_u64 ((p % 8 : Nat) : Int), show ((p % 8 : Nat) : Int) % 18446744073709551616 = ((p % 8 : Nat) : Int) by omega, if_pos (by omega)]
    rw [hrx, shr_u64' (by omega), show (1 : Int) = ((1 : Nat) : Int) from rfl, and_u64 (Nat.lt_of_le_of_lt (Nat.div_le_self _ _) hx64) (by decide), show x / 2 ^ j &&& 1 = (x / 2 ^ j) % 2 from Nat.and_one_is_mod _]
    rw [show (((x / 2 ^ j) % 2 : Nat) : Int) % 256 = (((x / 2 ^ j) % 2 : Nat) : Int) by omega, shl_u8, Nat.min_eq_left (show p % 8 ≤ 8 by omega), Nat.mod_eq_of_lt hsh, hrb, or_u8 (by omega) hsh, Int.toNat_natCast, w64 (n := (j : Int) + ((1 : Nat) : Int)) (by omega) (by omega)]
    have hmod : x % 2 ^ (j + 1) = x % 2 ^ j + 2 ^ j * (x / 2 ^ j % 2) := by rw [Nat.pow_succ, Nat.mod_mul]
    obtain ⟨k', b', a1, a2, a3, a4, a5, a6⟩ := ih k (j + 1) _ (by omega) hlay.1 (by rw [List.length_set]; exact hbl)
      (by rw [hlay.2, hbn, hmod, Nat.mul_add, ← Nat.mul_assoc, ← Nat.pow_add, ← hp, Nat.add_assoc])
      (by
        rw [hlay.2, show i * w + (j + 1) = p + 1 by omega, Nat.pow_succ]
        have : 2 ^ p * (x / 2 ^ j % 2) ≤ 2 ^ p * 1 := Nat.mul_le_mul_left _ (by omega)
        rw [← hp] at hlt
        omega) (by omega)
    exact ⟨k', b', by omega, a2, a3, a4, a5, a6⟩
theorem rpack_l0 (l : List Int) (hl : Fit 64 l) (w : Nat) (hw : w ≤ 64) (hn : l.length ≤ 16777216) (d : Nat) : ∀ (k i : Nat) (b : List Int),
    i + d = l.length → Bytes b → b.length = (l.length * w + 7) / 8 → num b = lanes w (l.take i) → num b < 2 ^ (i * w) → Fit w (l.take i) → d * (w + 2) + 1 ≤ k →
    (Fit w l → ∃ b', colonnaderef02_Pack.l0 k l (w : Int) b (i : Int) = some (b', 0) ∧ Bytes b' ∧ b'.length = (l.length * w + 7) / 8 ∧ num b' = lanes w l) ∧ (¬ Fit w l → colonnaderef02_Pack.l0 k l (w : Int) b (i : Int) = some ([], 21)) := by
  induction d with
  | zero =>
    intro k i b hi hb hbl hbn hlt hf hk
    obtain ⟨k, rfl⟩ : ∃ m, k = m + 1 := ⟨k - 1, by omega⟩
    rw [List.take_of_length_le (by omega)] at hf hbn
    rw [colonnaderef02_Pack.l0, if_neg (by omega)]
    exact ⟨fun _ => ⟨b, rfl, hb, hbl, hbn⟩, fun h => absurd hf h⟩
  | succ d ih =>
    intro k i b hi hb hbl hbn hlt hf hk
    rw [Nat.succ_mul] at hk
    obtain ⟨k, rfl⟩ : ∃ m, k = m + 1 := ⟨k - 1, by omega⟩
    have hx := hl.get i
    obtain ⟨x, hxe⟩ : ∃ x : Nat, l.getD i 0 = (x : Int) := ⟨(l.getD i 0).toNat, by omega⟩
    have hrd : rd l (i : Int) = (x : Int) := by unfold rd; rw [Int.toNat_natCast, hxe]
    rw [hxe, Int.toNat_natCast] at hx
    have hget : l[i]'(show i < l.length by omega) = (x : Int) := by
      rw [← hxe, List.getD_eq_getElem?_getD, List.getElem?_eq_getElem (show i < l.length by omega)]; rfl
    rw [colonnaderef02_Pack.l0, if_pos (by omega), if_pos (by omega), hrd, fits_is x w hw hx.2, Option.bind_some]
    by_cases hfit : wid x ≤ w
    · have hxw := wid_le.1 hfit
      rw [if_pos (by simpa using hfit)]
      obtain ⟨k', b', a1, a2, a3, a4, a5, a6⟩ := rpack_l1 l w hw hn i x (by omega) hxe hx.2 w k 0 b (by omega) hb hbl (by rw [hbn, Nat.pow_zero, Nat.mod_one]; simp) (by simpa using hlt) (by omega)
      rw [show ((0 : Nat) : Int) = 0 from rfl] at a2
      rw [a2]
      have hts := lanes_take_succ (w := w) l i (by omega)
      rw [hxe, Int.toNat_natCast] at hts
      refine ih k' (i + 1) b' (by omega) a3 a4 (by rw [a5, hts, Nat.mod_eq_of_lt hxw, Nat.mul_comm i w]) a6 ?_ (by omega)
      rw [List.take_succ_eq_append_getElem (show i < l.length by omega), hget]
      exact Fit.append.2 ⟨hf, Fit.cons.2 ⟨⟨by omega, by rw [Int.toNat_natCast]; exact hxw⟩, fun _ h => by cases h⟩⟩
    · rw [if_neg (by simpa using hfit)]
      refine ⟨fun h => ?_, fun _ => rfl⟩
      exfalso
      have h2 := (h _ (List.getElem_mem (show i < l.length by omega))).2
      rw [hget, Int.toNat_natCast] at h2
      exact hfit (wid_le.2 h2)
theorem num_zeros (n : Nat) : num (List.replicate n 0) = 0 := by
  induction n with
  | zero => rfl
  | succ n ih => rw [List.replicate_succ, num, ih]; rfl
/-- Pack of the reference, at a width that may be. -/
theorem rpack_is (l : List Int) (hl : Fit 64 l) (w : Nat) (hw : w ≤ 64) (hn : l.length ≤ 16777216) (k : Nat) (hk : l.length * (w + 2) + 1 ≤ k) :
    (Fit w l → ∃ b, colonnaderef02_Pack.f k l (w : Int) = some (b, 0) ∧ Bytes b ∧ b.length = (l.length * w + 7) / 8 ∧ num b = lanes w l) ∧ (¬ Fit w l → colonnaderef02_Pack.f k l (w : Int) = some ([], 21)) := by
  have hbd : l.length * w ≤ 16777216 * 64 := Nat.mul_le_mul hn hw
  unfold colonnaderef02_Pack.f
  rw [rbytes_ok l.length w hn hw, Option.bind_some]
  (try dsimp only)
  rw [if_pos rfl, if_pos (by omega), if_pos (by omega), Int.toNat_natCast]
  exact rpack_l0 l hl w hw hn l.length k 0 _ (by omega) (fun x hx => by rw [List.eq_of_mem_replicate hx]; omega) (by simp) (by rw [num_zeros]; rfl) (by rw [num_zeros]; exact Nat.two_pow_pos _) (fun _ h => by cases h) hk
theorem rpack_not (l : List Int) (w : Int) (h : ¬ ((l.length : Int) ≤ 16777216 ∧ 0 ≤ w ∧ w ≤ 64)) (k : Nat) : colonnaderef02_Pack.f k l w = some ([], if 16777216 < l.length then 3 else 20) := by
  unfold colonnaderef02_Pack.f
  rw [rbytes_not (l.length : Int) w (fun h2 => h h2.2), Option.bind_some]
  (try dsimp only)
  rw [if_neg (show ¬ (l.length : Int) < 0 by omega)]
  by_cases h1 : 16777216 < l.length
  · rw [if_pos h1, if_pos (show (16777216 : Int) < (l.length : Int) by omega), if_neg (by decide)]
  · rw [if_neg h1, if_neg (show ¬ (16777216 : Int) < (l.length : Int) by omega), if_neg (by decide)]
end Go.Proofs.Ythfgelbbcdgopaa.S
