/- Seat bits: trim, Not, Get, Put. -/
import Derived.Test.YtpemffaclmpnnaaDoorMR
import Derived.Test.YtpemffaclmpnnaaDoorYC
namespace Go.Ax
set_option linter.unusedVariables false
set_option linter.unusedSimpArgs false

/-- A set with a word i, opened: its header, its words, and what writing one does. -/
theorem SetAt.open {h : Heap} {p q n : Nat} {ws : List (BitVec 64)} (s : SetAt h p q n ws) {i : Nat} (hi : i < ws.length) :
    ∃ v c, RowAt h p 0 0 [.int .i64 n, .slice (some ⟨q, 0, some v⟩) ws.length c] ∧ RowAt h q v 1 (ws.map wv) ∧
      ∀ x, ∃ h', hstore h ⟨q, i, some v⟩ (.int .u64 (wi x)) = some h' ∧ SetAt h' p q n (ws.set i x) ∧ Chg (· = q) h h' ∧ RowAt h' p 0 0 [.int .i64 n, .slice (some ⟨q, 0, some v⟩) ws.length c] ∧ RowAt h' q v 1 ((ws.set i x).map wv) := by
  obtain ⟨b, c, r, w⟩ := s.ex
  have hne : p ≠ q := s.ne (by intro e; simp [e] at hi)
  rcases w with ⟨_, _, rfl⟩ | ⟨v, rfl, rw, hc⟩
  · simp at hi
  refine ⟨v, c, r, rw, fun x => ?_⟩
  obtain ⟨h3, e3, rw3, c3, _⟩ := rw.store (i := i) (by simpa using hi) (x := .int .u64 (wi x)) (by simp)
  rw [wv_set] at rw3
  exact ⟨h3, e3, ⟨⟨_, c, by simpa using r.chg c3 hne, .inr ⟨v, rfl, rw3, by simpa using hc⟩⟩, fun _ => hne⟩, c3, r.chg c3 hne, rw3⟩

theorem bit_set {ws : List (BitVec 64)} {k i : Nat} {x : BitVec 64} (hk : k < ws.length) : bit (ws.set k x) i = if i / 64 = k then x.getLsbD (i % 64) else bit ws i := by
  unfold bit
  rw [word_set hk]
  by_cases h : k = i / 64
  · rw [if_pos h, if_pos h.symm]
  · rw [if_neg h, if_neg (fun e => h e.symm)]

theorem trim_spec {h : Heap} {p q n : Nat} {ws : List (BitVec 64)} (s : SetAt h p q n ws) (hl : ws.length = (n + 63) / 64) (hn : n ≤ 16777216) :
    Gives P T (.fn F_bits_Set_trim) [ptr p] h fun v h' => ∃ ws2, SetAt h' p q n ws2 ∧ Canon n ws2 ∧ (∀ i, bit ws2 i = (bit ws i && decide (i < n))) ∧ Chg (· = q) h h' := by
  refine gives_by t_bits_Set_trim (by simp [c_bits_Set_trim]) fun Q hQ => ?_
  obtain ⟨b, c, r, w⟩ := s.ex
  have e64 := tmod_nat n 64
  obtain ⟨m, hm⟩ : ∃ m, n % 64 = m := ⟨_, rfl⟩
  rw [hm] at e64
  simp only [Int.cast_ofNat_Int] at e64
  by_cases h0 : m = 0
  · subst h0
    simp [c_bits_Set_trim, ptr, r.get (i := 0) rfl, e64]
    refine hQ _ _ ⟨ws, s, ⟨hl, hn, fun i hi => ?_⟩, fun i => ?_, Chg.refl _⟩
    · unfold bit; rw [word_out (by omega)]; simp
    · by_cases hi : i < n
      · simp [hi]
      · have : bit ws i = false := by unfold bit; rw [word_out (by omega)]; simp
        simp [this]
  · obtain ⟨L, hL⟩ : ∃ L, ws.length = L + 1 := ⟨ws.length - 1, by omega⟩
    obtain ⟨v, c, r, rw, st⟩ := s.open (i := L) (by omega)
    obtain ⟨h', e3, s3, c3, _⟩ := st (word ws L &&& ((1#64 <<< m) - 1#64))
    have e1 : IntKind.i64.wrap ((ws.length : Int) - 1) = (L : Int) := by rw [wrap_i64 (by omega) (by omega)]; omega
    have hx : 0 < m := by omega
    have i1 : L < ws.length := by omega
    simp [c_bits_Set_trim, ptr, r.get (i := 0) rfl, r.get (i := 1) rfl, e64, hx, e1, i1, rw.get (wv_get i1), e3]
    have key : ∀ i, bit (ws.set L (word ws L &&& ((1#64 <<< m) - 1#64))) i = (bit ws i && decide (i < n)) := by
      intro i
      rw [bit_set i1]
      split
      · rename_i hi
        rw [BitVec.getLsbD_and, mask_bit m _ (by omega) (by omega)]
        have : decide (i % 64 < m) = decide (i < n) := by
          have : i % 64 < m ↔ i < n := by omega
          simp [this]
        rw [this]; unfold bit; rw [hi]
      · rename_i hi
        by_cases hin : i < n
        · simp [hin]
        · have : bit ws i = false := by unfold bit; rw [word_out (by omega)]; simp
          simp [this]
    exact hQ _ _ ⟨_, s3, ⟨by simpa using hl, hn, fun i hi => by rw [key]; simp; omega⟩, key, c3⟩

theorem Not_spec {h : Heap} {p q n : Nat} {ws : List (BitVec 64)} (s : SetAt h p q n ws) (cn : Canon n ws) :
    Gives P T (.fn F_bits_Set_Not) [ptr p] h fun v h' => ∃ p2 q2 ws2, v = ptr p2 ∧ SetAt h' p2 q2 n ws2 ∧ Canon n ws2 ∧ (∀ i, bit ws2 i = (!bit ws i && decide (i < n))) ∧ Grow h h' ∧ h.dyn.length ≤ p2 ∧ h.dyn.length ≤ q2 := by
  have hn := cn.le
  have hl := cn.len
  refine gives_by t_bits_Set_Not (by simp [c_bits_Set_Not]) fun Q hQ => ?_
  simp [c_bits_Set_Not]
  refine got_call (Clone_spec s (by omega)) ?_
  rintro _ h1 ⟨pt, qt, rfl, st, g1, f1, f2⟩
  obtain ⟨bt, ct, rt, wt⟩ := st.ex
  simp [ptr, rt.get (i := 1) rfl]
  obtain ⟨L, hL⟩ : ∃ L, (n + 63) / 64 = L := ⟨_, rfl⟩
  rw [hL] at hl
  refine go_loop (fun k t h2 => ∃ (i : Nat) (wsi : List (BitVec 64)), k = L - i ∧ i ≤ L ∧ t = envT 35 [(3, ptr pt), (13, .int .i64 L), (14, .int .i64 i)] ∧
      wsi.length = L ∧ (∀ j, word wsi j = if j < i then ~~~ word ws j else word ws j) ∧ SetAt h2 pt qt n wsi ∧ Grow h h2) (n := L) ?_ ?_
  · refine ⟨0, _, rfl, by omega, ?_, hl, fun j => by simp, st, g1⟩
    rw [envT_forget [3, 13, 14] (by decide)]
    simp [ptr, hl]
  · rintro k t h2 ⟨i, wsi, rfl, hi, rfl, hwl, hw, sti, g2⟩
    simp [ptr]
    refine branch_dec (fun hlt => ?_) (fun hge => ?_)
    · have i3 : i < wsi.length := by omega
      obtain ⟨v, c, r, rw, stt⟩ := sti.open i3
      obtain ⟨h3, e3, s3, c3, _⟩ := stt (~~~ word wsi i)
      have hw1 : IntKind.i64.wrap ((i : Int) + 1) = ((i + 1 : Nat) : Int) := by rw [wrap_i64 (by omega) (by omega)]; omega
      simp [hlt, e3, i3, r.get (i := 1) rfl, rw.get (wv_get i3), hw1]
      have g3 : Grow h h3 := g2.after c3 fun m hm hmq => by omega
      refine ⟨L - (i + 1), by omega, i + 1, rfl, by omega, ?_, _, by simpa using hwl, fun j => ?_, s3, g3⟩
      · rw [envT_forget [3, 13, 14] (by decide)]
        simp
      · rw [word_set i3]
        by_cases hj : i = j
        · subst hj; simp [hw i]
        · rw [if_neg hj, hw j]
          by_cases hji : j < i
          · rw [if_pos hji, if_pos (by omega)]
          · rw [if_neg hji, if_neg (by omega)]
    · have hiL : i = L := by omega
      subst hiL
      simp
      refine got_call (trim_spec sti (by omega) hn) ?_
      rintro v h3 ⟨ws2, s3, c2, hb, c3⟩
      simp
      refine hQ _ _ ⟨pt, qt, ws2, rfl, s3, c2, fun j => ?_, g2.after c3 fun m hm hmq => by omega, f1, f2⟩
      rw [hb]
      by_cases hj : j < n
      · simp only [hj, decide_true, Bool.and_true]
        unfold bit
        rw [hw, if_pos (by omega)]
        simp [show j % 64 < 64 by omega]
      · simp [hj]
end Go.Ax
