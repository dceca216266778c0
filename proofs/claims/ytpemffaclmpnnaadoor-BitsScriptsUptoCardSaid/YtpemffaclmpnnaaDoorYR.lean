/- Seat bits: Put. -/
import Derived.Test.YtpemffaclmpnnaaDoorYI
namespace Go.Ax
set_option linter.unusedVariables false
set_option linter.unusedSimpArgs false

theorem word_put {ws : List (BitVec 64)} {d e : Nat} {x : BitVec 64} (hd : d < ws.length) : word (ws.set d x) e = if e = d then x else word ws e := by
  unfold word
  rw [List.getD_eq_getElem?_getD, List.getD_eq_getElem?_getD]
  by_cases h : e = d
  · subst h; rw [if_pos rfl, List.getElem?_set_self hd]; rfl
  · rw [if_neg h, List.getElem?_set_ne (fun e => h e.symm)]

theorem bit_put {ws : List (BitVec 64)} {i : Nat} {b : Bool} (hd : i / 64 < ws.length) (j : Nat) :
    bit (ws.set (i / 64) (if b then word ws (i / 64) ||| 1#64 <<< (i % 64) else word ws (i / 64) &&& ~~~ (1#64 <<< (i % 64)))) j = if j = i then b else bit ws j := by
  unfold bit
  rw [word_put hd]
  have hj : j % 64 < 64 := by omega
  have hm : i % 64 < 64 := by omega
  by_cases h : j / 64 = i / 64
  · rw [if_pos h]
    by_cases hji : j = i
    · subst hji
      cases b <;> simp [one_bit, hj]
    · have hne : ¬ j % 64 = i % 64 := by omega
      have ho := one_bit (i % 64) (j % 64) hm hj
      rw [decide_eq_false hne] at ho
      rw [if_neg hji, h]
      cases b
      · simp only [Bool.false_eq_true, if_false, BitVec.getLsbD_and, BitVec.getLsbD_not, ho, hj, decide_true]; simp
      · simp only [if_true, BitVec.getLsbD_or, ho]; simp
  · rw [if_neg h, if_neg (fun e => h (by rw [e]))]

theorem Put_spec {h : Heap} {p q n : Nat} {ws : List (BitVec 64)} (s : SetAt h p q n ws) (cn : Canon n ws) {i : Nat} (hi : i < n) (b : Bool) :
    Gives P T (.fn F_bits_Set_Put) [ptr p, .int .i64 i, .bool b] h fun r h' => r = .int .i64 0 ∧ ∃ ws', SetAt h' p q n ws' ∧ Canon n ws' ∧ (∀ j, bit ws' j = if j = i then b else bit ws j) ∧ Chg (· = q) h h' := by
  have hn := cn.le
  have hl := cn.len
  refine gives_by t_bits_Set_Put (by simp [c_bits_Set_Put]) fun Q hQ => ?_
  have i3 : i / 64 < ws.length := by omega
  have hb := @bit_put ws i b i3
  obtain ⟨m, hm⟩ : ∃ m, i % 64 = m := ⟨_, rfl⟩
  obtain ⟨d, hd⟩ : ∃ d, i / 64 = d := ⟨_, rfl⟩
  have e1 := tmod_nat i 64
  have e2 := tdiv_nat i 64
  rw [hm] at e1 hb
  rw [hd] at e2 i3 hb
  simp only [Int.cast_ofNat_Int] at e1 e2
  have e3 : IntKind.i64.wrap (d : Int) = d := wrap_i64 (by omega) (by omega)
  have i1 : ¬ (i : Int) < 0 := by omega
  have i2 : ¬ (n : Int) ≤ i := by omega
  obtain ⟨v, c', rh, rw, st⟩ := s.open i3
  obtain ⟨y, hy⟩ : ∃ y, (if b then word ws d ||| 1#64 <<< m else word ws d &&& ~~~ (1#64 <<< m)) = y := ⟨_, rfl⟩
  rw [hy] at hb
  obtain ⟨h', es, S', cg, _, _⟩ := st y
  have hlen : (ws.set d y).length = ws.length := by simp
  have C' : Canon n (ws.set d y) := ⟨by rw [hlen]; exact hl, hn, fun j hj => by rw [hb, if_neg (by omega)]; exact cn.out j hj⟩
  cases b with
  | true =>
    simp only [if_true] at hy
    simp [c_bits_Set_Put, ptr, i1, i2, rh.get (i := 0) rfl, rh.get (i := 1) rfl, e1, e2, e3, i3, rw.get (wv_get i3), hy, es]
    exact hQ _ _ ⟨rfl, _, S', C', hb, cg⟩
  | false =>
    simp only [Bool.false_eq_true, if_false] at hy
    simp [c_bits_Set_Put, ptr, i1, i2, rh.get (i := 0) rfl, rh.get (i := 1) rfl, e1, e2, e3, i3, rw.get (wv_get i3), hy, es]
    exact hQ _ _ ⟨rfl, _, S', C', hb, cg⟩

theorem Put_out {h : Heap} {p q n : Nat} {ws : List (BitVec 64)} (s : SetAt h p q n ws) {i : Int} (hi : i < 0 ∨ (n : Int) ≤ i) (b : Bool) :
    Gives P T (.fn F_bits_Set_Put) [ptr p, .int .i64 i, .bool b] h fun r h' => r = .int .i64 2 ∧ h' = h := by
  obtain ⟨bb, c, h1, h2⟩ := s.ex
  refine gives_by t_bits_Set_Put (by simp [c_bits_Set_Put]) fun Q hQ => ?_
  by_cases h0 : i < 0
  · simp [c_bits_Set_Put, ptr, h0, skipV]
    exact hQ _ _ ⟨rfl, rfl⟩
  · have h3 : (n : Int) ≤ i := by omega
    simp [c_bits_Set_Put, ptr, h0, h1.get (i := 0) rfl, h3]
    exact hQ _ _ ⟨rfl, rfl⟩

theorem Put_nil {h : Heap} {i : Int} {b : Bool} : Gives P T (.fn F_bits_Set_Put) [.pointer none, .int .i64 i, .bool b] h fun r h' => r = .int .i64 1 ∧ h' = h := by
  refine gives_by t_bits_Set_Put (by simp [c_bits_Set_Put]) fun Q hQ => ?_
  simp [c_bits_Set_Put]
  exact hQ _ _ ⟨rfl, rfl⟩

end Go.Ax
