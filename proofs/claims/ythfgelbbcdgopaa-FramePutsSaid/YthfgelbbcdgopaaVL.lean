/- Plain lemmas on lanes: numbers of so many bits, one behind the other, as one number. -/
import Derived.Test.YthfgelbbcdgopaaVB
set_option linter.unusedVariables false
set_option linter.unusedSimpArgs false
namespace Go.Proofs.YthfgelbbcdgopaaV
open Go.RowKit Go.Proofs.YthfgelbbcdgopaaW.PrintWords Go.Proofs.YthfgelbbcdgopaaW.PrintLast Go.Proofs.YthfgelbbcdgopaaW.PrintMore

def lanes (w : Nat) : List Int → Nat
  | [] => 0
  | x :: xs => x.toNat + 2 ^ w * lanes w xs
theorem lanes_append (w : Nat) (l m : List Int) : lanes w (l ++ m) = lanes w l + 2 ^ (w * l.length) * lanes w m := by
  induction l with
  | nil => simp [lanes]
  | cons x xs ih =>
    simp only [List.cons_append, lanes, ih, List.length_cons, Nat.mul_add, Nat.mul_one, Nat.pow_add]
    rw [Nat.add_assoc]
    congr 2
    ac_rfl
def Fit (w : Nat) (l : List Int) : Prop := ∀ x ∈ l, 0 ≤ x ∧ x.toNat < 2 ^ w
theorem Fit.cons {w : Nat} {x : Int} {l : List Int} : Fit w (x :: l) ↔ (0 ≤ x ∧ x.toNat < 2 ^ w) ∧ Fit w l := by simp [Fit]
theorem Fit.append {w : Nat} {l m : List Int} : Fit w (l ++ m) ↔ Fit w l ∧ Fit w m := by
  simp only [Fit, List.mem_append]
  exact ⟨fun h => ⟨fun x hx => h x (.inl hx), fun x hx => h x (.inr hx)⟩, fun h x hx => hx.elim (h.1 x) (h.2 x)⟩
theorem Fit.take {w : Nat} {l : List Int} (h : Fit w l) (n : Nat) : Fit w (l.take n) := fun x hx => h x (List.mem_of_mem_take hx)
theorem Fit.drop {w : Nat} {l : List Int} (h : Fit w l) (n : Nat) : Fit w (l.drop n) := fun x hx => h x (List.mem_of_mem_drop hx)
theorem Fit.get {w : Nat} {l : List Int} (h : Fit w l) (i : Nat) : 0 ≤ l.getD i 0 ∧ (l.getD i 0).toNat < 2 ^ w := by
  rw [List.getD_eq_getElem?_getD]
  by_cases hi : i < l.length
  · rw [List.getElem?_eq_getElem hi]; exact h _ (List.getElem_mem hi)
  · rw [List.getElem?_eq_none (by omega)]; simp [Nat.two_pow_pos]
theorem lanes_lt {w : Nat} {l : List Int} (h : Fit w l) : lanes w l < 2 ^ (w * l.length) := by
  induction l with
  | nil => simp [lanes]
  | cons x xs ih =>
    have h1 := Fit.cons.1 h
    have h2 := ih h1.2
    simp only [lanes, List.length_cons, Nat.mul_add, Nat.mul_one]
    rw [Nat.add_comm (w * xs.length), Nat.pow_add]
    have h3 : 2 ^ w * (lanes w xs + 1) ≤ 2 ^ w * 2 ^ (w * xs.length) := Nat.mul_le_mul_left _ (by omega)
    rw [Nat.mul_add] at h3
    omega
theorem lanes_inj : ∀ {w : Nat} {l m : List Int}, Fit w l → Fit w m → l.length = m.length → lanes w l = lanes w m → l = m
  | _, [], [], _, _, _, _ => rfl
  | w, x :: xs, y :: ys, hl, hm, hlen, he => by
    have h1 := Fit.cons.1 hl
    have h2 := Fit.cons.1 hm
    simp only [lanes] at he
    have hp := Nat.two_pow_pos w
    have hx : x.toNat = y.toNat := by
      have := congrArg (· % 2 ^ w) he
      simpa [Nat.add_mul_mod_self_left, Nat.mod_eq_of_lt h1.1.2, Nat.mod_eq_of_lt h2.1.2] using this
    have h4 : lanes w xs = lanes w ys := by
      rw [hx] at he
      exact Nat.eq_of_mul_eq_mul_left hp (by omega)
    rw [show x = y by omega, lanes_inj h1.2 h2.2 (by simpa using hlen) h4]
/-- The number in lane i. -/
theorem lanes_get {w : Nat} {l : List Int} (h : Fit w l) (i : Nat) (hi : i < l.length) : lanes w l / 2 ^ (i * w) % 2 ^ w = (l.getD i 0).toNat := by
  have h1 := lanes_append w (l.take i) (l.drop i)
  rw [List.take_append_drop, List.length_take, Nat.min_eq_left (by omega)] at h1
  have h2 := lanes_lt (h.take i)
  rw [List.length_take, Nat.min_eq_left (by omega)] at h2
  rw [h1, Nat.mul_comm i w, Nat.add_mul_div_left _ _ (Nat.two_pow_pos _), Nat.div_eq_of_lt h2, Nat.zero_add, List.drop_eq_getElem_cons hi, lanes, Nat.add_mul_mod_self_left]
  have h3 := h _ (List.getElem_mem hi)
  rw [Nat.mod_eq_of_lt h3.2, List.getD_eq_getElem?_getD, List.getElem?_eq_getElem hi]
  rfl
theorem lanes_take_succ {w : Nat} (l : List Int) (i : Nat) (hi : i < l.length) : lanes w (l.take (i + 1)) = lanes w (l.take i) + 2 ^ (w * i) * (l.getD i 0).toNat := by
  rw [List.take_succ_eq_append_getElem hi, lanes_append, List.length_take, Nat.min_eq_left (by omega), List.getD_eq_getElem?_getD, List.getElem?_eq_getElem hi]
  simp [lanes]
theorem lanes_zero (l : List Int) : lanes 0 l = 0 ∨ ¬ Fit 0 l := by
  by_cases h : Fit 0 l
  · have := lanes_lt h; simp at this; exact .inl this
  · exact .inr h
/-- The lanes of a number. -/
def lanesOf (w n N : Nat) : List Int := (List.range n).map fun i => ((N / 2 ^ (i * w) % 2 ^ w : Nat) : Int)
theorem lanesOf_length (w n N : Nat) : (lanesOf w n N).length = n := by simp [lanesOf]
theorem lanesOf_succ (w n N : Nat) : lanesOf w (n + 1) N = lanesOf w n N ++ [((N / 2 ^ (n * w) % 2 ^ w : Nat) : Int)] := by simp [lanesOf, List.range_succ]
theorem lanesOf_fit (w n N : Nat) : Fit w (lanesOf w n N) := by
  intro x hx
  simp only [lanesOf, List.mem_map] at hx
  obtain ⟨i, _, rfl⟩ := hx
  exact ⟨Int.natCast_nonneg _, by rw [Int.toNat_natCast]; exact Nat.mod_lt _ (Nat.two_pow_pos _)⟩
theorem lanes_lanesOf (w n N : Nat) : lanes w (lanesOf w n N) = N % 2 ^ (w * n) := by
  induction n with
  | zero => simp [lanesOf, lanes, Nat.mod_one]
  | succ n ih =>
    rw [lanesOf_succ, lanes_append, ih, lanesOf_length, Nat.mul_succ, Nat.pow_add, Nat.mod_mul]
    simp only [lanes, Int.toNat_natCast, Nat.mul_comm n w, Nat.mul_zero, Nat.add_zero]
theorem lanesOf_lanes {w : Nat} {l : List Int} (h : Fit w l) : lanesOf w l.length (lanes w l) = l := by
  refine lanes_inj (lanesOf_fit _ _ _) h (lanesOf_length _ _ _) ?_
  rw [lanes_lanesOf, Nat.mod_eq_of_lt (lanes_lt h)]
theorem lanesOf_get (w n N i : Nat) (hi : i < n) : (lanesOf w n N).getD i 0 = ((N / 2 ^ (i * w) % 2 ^ w : Nat) : Int) := by
  rw [List.getD_eq_getElem?_getD, List.getElem?_eq_getElem (by rw [lanesOf_length]; exact hi)]
  simp [lanesOf]
end Go.Proofs.YthfgelbbcdgopaaV
