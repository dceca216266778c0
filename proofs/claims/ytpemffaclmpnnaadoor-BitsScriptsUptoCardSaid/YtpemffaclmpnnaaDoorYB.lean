/- Seat bits: And, Or, Xor, Less, Not. -/
import Derived.Test.YtpemffaclmpnnaaDoorYA
namespace Go.Ax
set_option linter.unusedVariables false
set_option linter.unusedSimpArgs false

theorem Words.at {h : Heap} {b : Option Addr} {c q : Nat} {ws : List (BitVec 64)} (w : Words h b c q ws) {i : Nat} (hi : i < ws.length) : ∃ v, b = some ⟨q, 0, some v⟩ ∧ RowAt h q v 1 (ws.map wv) := by
  rcases w with ⟨_, _, rfl⟩ | ⟨v, h1, h2, _⟩
  · simp at hi
  · exact ⟨v, h1, h2⟩

/-- Word i (0 behind the last). -/
def word (ws : List (BitVec 64)) (i : Nat) : BitVec 64 := ws.getD i 0

theorem word_get {ws : List (BitVec 64)} {i : Nat} (hi : i < ws.length) : ws[i]? = some (word ws i) := by
  rw [word, List.getElem?_eq_getElem hi, List.getD_eq_getElem?_getD, List.getElem?_eq_getElem hi]; rfl

theorem word_set {ws : List (BitVec 64)} {i j : Nat} {x : BitVec 64} (hi : i < ws.length) : word (ws.set i x) j = if i = j then x else word ws j := by
  unfold word
  rw [List.getD_eq_getElem?_getD, List.getElem?_set, List.getD_eq_getElem?_getD]
  by_cases h : i = j
  · subst h; simp [hi]
  · simp [h]

theorem wv_set (ws : List (BitVec 64)) (i : Nat) (x : BitVec 64) : (ws.map wv).set i (.int .u64 (wi x)) = (ws.set i x).map wv := by
  rw [List.map_set]; rfl

theorem wv_get {ws : List (BitVec 64)} {i : Nat} (hi : i < ws.length) : (ws.map wv)[i]? = some (.int .u64 (wi (word ws i))) := by
  rw [List.getElem?_map, word_get hi]; rfl

theorem and1_spec {h : Heap} {x y : BitVec 64} : Gives P T (.fn F_bits_Set_And_1) [.int .u64 (wi x), .int .u64 (wi y)] h fun v h' => v = .int .u64 (wi (x &&& y)) ∧ h' = h := by
  refine gives_by t_bits_Set_And_1 (by simp [c_bits_Set_And_1]) fun Q hQ => ?_
  simp [c_bits_Set_And_1]
  exact hQ _ _ ⟨rfl, rfl⟩
theorem or1_spec {h : Heap} {x y : BitVec 64} : Gives P T (.fn F_bits_Set_Or_1) [.int .u64 (wi x), .int .u64 (wi y)] h fun v h' => v = .int .u64 (wi (x ||| y)) ∧ h' = h := by
  refine gives_by t_bits_Set_Or_1 (by simp [c_bits_Set_Or_1]) fun Q hQ => ?_
  simp [c_bits_Set_Or_1]
  exact hQ _ _ ⟨rfl, rfl⟩
theorem xor1_spec {h : Heap} {x y : BitVec 64} : Gives P T (.fn F_bits_Set_Xor_1) [.int .u64 (wi x), .int .u64 (wi y)] h fun v h' => v = .int .u64 (wi (x ^^^ y)) ∧ h' = h := by
  refine gives_by t_bits_Set_Xor_1 (by simp [c_bits_Set_Xor_1]) fun Q hQ => ?_
  simp [c_bits_Set_Xor_1]
  exact hQ _ _ ⟨rfl, rfl⟩
theorem less1_spec {h : Heap} {x y : BitVec 64} : Gives P T (.fn F_bits_Set_Less_1) [.int .u64 (wi x), .int .u64 (wi y)] h fun v h' => v = .int .u64 (wi (x &&& ~~~ y)) ∧ h' = h := by
  refine gives_by t_bits_Set_Less_1 (by simp [c_bits_Set_Less_1]) fun Q hQ => ?_
  simp [c_bits_Set_Less_1]
  exact hQ _ _ ⟨rfl, rfl⟩

theorem both_spec {h : Heap} {p q p' q' n F : Nat} {ws ws' : List (BitVec 64)} {op : BitVec 64 → BitVec 64 → BitVec 64}
    (hF : ∀ (h : Heap) (x y : BitVec 64), Gives P T (.fn F) [.int .u64 (wi x), .int .u64 (wi y)] h fun v h' => v = .int .u64 (wi (op x y)) ∧ h' = h)
    (s : SetAt h p q n ws) (s' : SetAt h p' q' n ws') (hn : n ≤ 16777216) (hl : ws.length = (n + 63) / 64) (hl' : ws'.length = (n + 63) / 64) :
    Gives P T (.fn F_bits_Set_both) [ptr p, ptr p', .func (.func F) #[] #[]] h fun v h' => ∃ p2 q2 ws2, v = .tuple #[ptr p2, .int .i64 0] ∧ SetAt h' p2 q2 n ws2 ∧ ws2.length = (n + 63) / 64 ∧
      (∀ i, i < (n + 63) / 64 → (word ws2 i) = op (word ws i) (word ws' i)) ∧ Grow h h' ∧ h.dyn.length ≤ p2 ∧ h.dyn.length ≤ q2 := by
  obtain ⟨b, c, r1, w1⟩ := s.ex
  obtain ⟨b', c', r1', w1'⟩ := s'.ex
  refine gives_by t_bits_Set_both (by simp [c_bits_Set_both]) fun Q hQ => ?_
  simp [c_bits_Set_both, ptr, r1.get (i := 0) rfl, r1'.get (i := 0) rfl]
  refine got_call (new_spec hn) ?_
  rintro _ h1 ⟨pt, qt, rfl, st, g1, hpt, hqt⟩
  obtain ⟨bt, ct, rt, wt⟩ := st.ex
  simp [ptr, rt.get (i := 1) rfl]
  let L := (n + 63) / 64
  refine go_loop (fun k t h2 => ∃ (i : Nat) (wsi : List (BitVec 64)), k = L - i ∧ i ≤ L ∧ t = envT 64 [(0, ptr p), (1, ptr p'), (2, .func (.func F) #[] #[]), (8, ptr pt), (36, .int .i64 L), (37, .int .i64 i)] ∧
      wsi.length = L ∧ (∀ j, j < i → (word wsi j) = op (word ws j) (word ws' j)) ∧ SetAt h2 pt qt n wsi ∧ Grow h h2) (n := L) ?_ ?_
  · refine ⟨0, _, rfl, by omega, ?_, by simp; rfl, fun j hj => by omega, st, g1⟩
    rw [envT_forget [0, 1, 2, 8, 36, 37] (by decide)]
    simp [ptr, L]
  · rintro k t h2 ⟨i, wsi, rfl, hi, rfl, hwl, hw, sti, g2⟩
    simp [ptr]
    refine branch_dec (fun hlt => ?_) (fun hge => ?_)
    · have hiL : i < L := by omega
      obtain ⟨bi, ci, ri, wti⟩ := sti.ex
      obtain ⟨v, rfl, rw⟩ := (w1.chg g2 id).at (i := i) (by omega)
      obtain ⟨v', rfl, rw'⟩ := (w1'.chg g2 id).at (i := i) (by omega)
      obtain ⟨vt, rfl, rwt⟩ := wti.at (i := i) (by omega)
      obtain ⟨h3, e3, rw3, c3, _⟩ := rwt.store (i := i) (by simp; omega) (x := .int .u64 (wi (op (word ws i) (word ws' i)))) (by simp)
      have i1 : i < ws.length := by omega
      have i2 : i < ws'.length := by omega
      have i3 : i < wsi.length := by omega
      simp [hlt, e3, i1, i2, i3, ri.get (i := 1) rfl, (r1.grow g2).get (i := 1) rfl, (r1'.grow g2).get (i := 1) rfl, rw.get (wv_get i1), rw'.get (wv_get i2), pushP_in]
      refine got_call (hF _ _ _) ?_
      rintro _ _ ⟨rfl, rfl⟩
      have hw1 : IntKind.i64.wrap ((i : Int) + 1) = ((i + 1 : Nat) : Int) := by rw [wrap_i64 (by omega) (by omega)]; omega
      simp [e3, i3, ri.get (i := 1) rfl, hw1]
      have g3 : Grow h h3 := g2.after c3 fun m hm hmq => by omega
      refine ⟨L - (i + 1), by omega, i + 1, rfl, by omega, ?_, wsi.set i (op (word ws i) (word ws' i)), by simpa using hwl, fun j hj => ?_, ?_, g3⟩
      · rw [envT_forget [0, 1, 2, 8, 36, 37] (by decide)]
        simp
      · rw [word_set i3]
        split
        · subst j; rfl
        · exact hw j (by omega)
      · have hne : pt ≠ qt := sti.ne (by intro e; simp [e] at i3)
        refine ⟨⟨_, ci, by simpa using ri.chg c3 hne, .inr ⟨vt, rfl, by rw [← wv_set]; exact rw3, ?_⟩⟩, fun _ => hne⟩
        rcases wti with ⟨h0, _⟩ | ⟨_, _, _, h4⟩
        · simp at h0
        · simpa using h4
    · have hiL : i = L := by omega
      subst hiL
      simp
      exact hQ _ _ ⟨pt, qt, wsi, rfl, sti, hwl, hw, g2, hpt, hqt⟩
end Go.Ax
