/- Seat bits: And, Or, Xor, Less, Not, Get, Put at the numbers they hold. -/
import Derived.Test.YtpemffaclmpnnaaDoorYB
namespace Go.Ax
set_option linter.unusedVariables false
set_option linter.unusedSimpArgs false

/-- Is the number i in? -/
def bit (ws : List (BitVec 64)) (i : Nat) : Bool := (word ws (i / 64)).getLsbD (i % 64)

/-- Words of a set of n numbers. -/
structure Canon (n : Nat) (ws : List (BitVec 64)) : Prop where
  len : ws.length = (n + 63) / 64
  le : n ≤ 16777216
  out : ∀ i, n ≤ i → bit ws i = false

theorem word_out {ws : List (BitVec 64)} {i : Nat} (h : ws.length ≤ i) : word ws i = 0 := by
  unfold word; rw [List.getD_eq_getElem?_getD, List.getElem?_eq_none h]; rfl

theorem word_bit (ws : List (BitVec 64)) (k j : Nat) (hj : j < 64) : (word ws k).getLsbD j = bit ws (64 * k + j) := by
  unfold bit
  rw [show (64 * k + j) / 64 = k by omega, show (64 * k + j) % 64 = j by omega]

/-- Sets that hold the same have the same words. -/
theorem Canon.ext {n : Nat} {ws ws' : List (BitVec 64)} (c : Canon n ws) (c' : Canon n ws') (h : ∀ i, i < n → bit ws i = bit ws' i) : ws = ws' := by
  apply List.ext_getElem?
  intro k
  by_cases hk : k < (n + 63) / 64
  · rw [word_get (by rw [c.len]; exact hk), word_get (by rw [c'.len]; exact hk)]
    congr 1
    apply BitVec.eq_of_getLsbD_eq
    intro j hj
    rw [word_bit _ _ _ hj, word_bit _ _ _ hj]
    by_cases hb : 64 * k + j < n
    · exact h _ hb
    · rw [c.out _ (by omega), c'.out _ (by omega)]
  · rw [List.getElem?_eq_none (by rw [c.len]; omega), List.getElem?_eq_none (by rw [c'.len]; omega)]

theorem Canon.bits {n : Nat} {ws : List (BitVec 64)} (c : Canon n ws) {i : Nat} (h : bit ws i = true) : i < n := by
  apply Classical.byContradiction
  intro hn
  rw [c.out i (by omega)] at h
  cases h

theorem canon_op {n : Nat} {ws ws' ws2 : List (BitVec 64)} {op : BitVec 64 → BitVec 64 → BitVec 64} {bop : Bool → Bool → Bool} (c : Canon n ws) (c' : Canon n ws') (hl : ws2.length = (n + 63) / 64)
    (h : ∀ i, i < (n + 63) / 64 → word ws2 i = op (word ws i) (word ws' i)) (hop : ∀ x y j, j < 64 → (op x y).getLsbD j = bop (x.getLsbD j) (y.getLsbD j)) (h0 : bop false false = false) :
    Canon n ws2 ∧ ∀ i, bit ws2 i = bop (bit ws i) (bit ws' i) := by
  have key : ∀ i, bit ws2 i = bop (bit ws i) (bit ws' i) := by
    intro i
    unfold bit
    by_cases hi : i / 64 < (n + 63) / 64
    · rw [h _ hi, hop _ _ _ (by omega)]
    · rw [word_out (ws := ws2) (by omega), word_out (ws := ws) (by rw [c.len]; omega), word_out (ws := ws') (by rw [c'.len]; omega)]
      simp [h0]
  exact ⟨⟨hl, c.le, fun i hi => by rw [key, c.out i hi, c'.out i hi, h0]⟩, key⟩

theorem And_spec {h : Heap} {p q p' q' n : Nat} {ws ws' : List (BitVec 64)} (s : SetAt h p q n ws) (s' : SetAt h p' q' n ws') (c : Canon n ws) (c' : Canon n ws') :
    Gives P T (.fn F_bits_Set_And) [ptr p, ptr p'] h fun v h' => ∃ p2 q2 ws2, v = .tuple #[ptr p2, .int .i64 0] ∧ SetAt h' p2 q2 n ws2 ∧ Canon n ws2 ∧ (∀ i, bit ws2 i = ((bit ws i) && (bit ws' i))) ∧ Grow h h' ∧ h.dyn.length ≤ p2 ∧ h.dyn.length ≤ q2 := by
  refine gives_by t_bits_Set_And (by simp [c_bits_Set_And]) fun Q hQ => ?_
  simp [c_bits_Set_And]
  refine got_call (both_spec (op := fun x y => x &&& y) (fun _ _ _ => and1_spec) s s' c.le c.len c'.len) ?_
  rintro _ h' ⟨p2, q2, ws2, rfl, s2, hl, hw, g, f1, f2⟩
  obtain ⟨c2, hb⟩ := canon_op (op := fun x y => x &&& y) (bop := fun x y => x && y) c c' hl hw (fun x y j hj => by simp) rfl
  simp
  exact hQ _ _ ⟨p2, q2, ws2, rfl, s2, c2, hb, g, f1, f2⟩

theorem Or_spec {h : Heap} {p q p' q' n : Nat} {ws ws' : List (BitVec 64)} (s : SetAt h p q n ws) (s' : SetAt h p' q' n ws') (c : Canon n ws) (c' : Canon n ws') :
    Gives P T (.fn F_bits_Set_Or) [ptr p, ptr p'] h fun v h' => ∃ p2 q2 ws2, v = .tuple #[ptr p2, .int .i64 0] ∧ SetAt h' p2 q2 n ws2 ∧ Canon n ws2 ∧ (∀ i, bit ws2 i = ((bit ws i) || (bit ws' i))) ∧ Grow h h' ∧ h.dyn.length ≤ p2 ∧ h.dyn.length ≤ q2 := by
  refine gives_by t_bits_Set_Or (by simp [c_bits_Set_Or]) fun Q hQ => ?_
  simp [c_bits_Set_Or]
  refine got_call (both_spec (op := fun x y => x ||| y) (fun _ _ _ => or1_spec) s s' c.le c.len c'.len) ?_
  rintro _ h' ⟨p2, q2, ws2, rfl, s2, hl, hw, g, f1, f2⟩
  obtain ⟨c2, hb⟩ := canon_op (op := fun x y => x ||| y) (bop := fun x y => x || y) c c' hl hw (fun x y j hj => by simp) rfl
  simp
  exact hQ _ _ ⟨p2, q2, ws2, rfl, s2, c2, hb, g, f1, f2⟩

theorem Xor_spec {h : Heap} {p q p' q' n : Nat} {ws ws' : List (BitVec 64)} (s : SetAt h p q n ws) (s' : SetAt h p' q' n ws') (c : Canon n ws) (c' : Canon n ws') :
    Gives P T (.fn F_bits_Set_Xor) [ptr p, ptr p'] h fun v h' => ∃ p2 q2 ws2, v = .tuple #[ptr p2, .int .i64 0] ∧ SetAt h' p2 q2 n ws2 ∧ Canon n ws2 ∧ (∀ i, bit ws2 i = (Bool.xor (bit ws i) (bit ws' i))) ∧ Grow h h' ∧ h.dyn.length ≤ p2 ∧ h.dyn.length ≤ q2 := by
  refine gives_by t_bits_Set_Xor (by simp [c_bits_Set_Xor]) fun Q hQ => ?_
  simp [c_bits_Set_Xor]
  refine got_call (both_spec (op := fun x y => x ^^^ y) (fun _ _ _ => xor1_spec) s s' c.le c.len c'.len) ?_
  rintro _ h' ⟨p2, q2, ws2, rfl, s2, hl, hw, g, f1, f2⟩
  obtain ⟨c2, hb⟩ := canon_op (op := fun x y => x ^^^ y) (bop := fun x y => Bool.xor x y) c c' hl hw (fun x y j hj => by simp) rfl
  simp
  exact hQ _ _ ⟨p2, q2, ws2, rfl, s2, c2, hb, g, f1, f2⟩

theorem Less_spec {h : Heap} {p q p' q' n : Nat} {ws ws' : List (BitVec 64)} (s : SetAt h p q n ws) (s' : SetAt h p' q' n ws') (c : Canon n ws) (c' : Canon n ws') :
    Gives P T (.fn F_bits_Set_Less) [ptr p, ptr p'] h fun v h' => ∃ p2 q2 ws2, v = .tuple #[ptr p2, .int .i64 0] ∧ SetAt h' p2 q2 n ws2 ∧ Canon n ws2 ∧ (∀ i, bit ws2 i = ((bit ws i) && !(bit ws' i))) ∧ Grow h h' ∧ h.dyn.length ≤ p2 ∧ h.dyn.length ≤ q2 := by
  refine gives_by t_bits_Set_Less (by simp [c_bits_Set_Less]) fun Q hQ => ?_
  simp [c_bits_Set_Less]
  refine got_call (both_spec (op := fun x y => x &&& ~~~ y) (fun _ _ _ => less1_spec) s s' c.le c.len c'.len) ?_
  rintro _ h' ⟨p2, q2, ws2, rfl, s2, hl, hw, g, f1, f2⟩
  obtain ⟨c2, hb⟩ := canon_op (op := fun x y => x &&& ~~~ y) (bop := fun x y => x && !y) c c' hl hw (fun x y j hj => by simp [hj]) rfl
  simp
  exact hQ _ _ ⟨p2, q2, ws2, rfl, s2, c2, hb, g, f1, f2⟩

end Go.Ax
