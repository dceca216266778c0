/- Seat bits: Load. -/
import Derived.Test.YtpemffaclmpnnaaDoorYL
namespace Go.Ax
set_option linter.unusedVariables false
set_option linter.unusedSimpArgs false

/-- Loading a set's own words. -/
theorem load_spec {h : Heap} {b : Option Addr} {c q n : Nat} {ws : List (BitVec 64)} (w : Words h b c q ws) (cn : Canon n ws) :
    Gives P T (.fn F_bits_Load) [.int .i64 n, .slice b ws.length c] h fun v h' => ∃ p2 q2, v = .tuple #[ptr p2, .int .i64 0] ∧ SetAt h' p2 q2 n ws ∧ Grow h h' ∧ h.dyn.length ≤ p2 ∧ h.dyn.length ≤ q2 := by
  have hn := cn.le
  have hl := cn.len
  refine gives_by t_bits_Load (by simp [c_bits_Load]) fun Q hQ => ?_
  have g1 : ¬ ((16777216 : Int) < n) := by omega
  have g0 : ¬ ((n : Int) < 0) := by omega
  obtain ⟨L, hL⟩ : ∃ L, (n + 63) / 64 = L := ⟨_, rfl⟩
  obtain ⟨m, hm⟩ : ∃ m, n % 64 = m := ⟨_, rfl⟩
  have e1 := tmod_nat n 64
  rw [hm] at e1
  simp only [Int.cast_ofNat_Int] at e1
  rw [hL] at hl
  have hlen : (ws.length : Int) = L := by omega
  simp [c_bits_Load, g0, g1]
  refine got_call (words_spec hn) ?_
  rintro _ _ ⟨rfl, rfl⟩
  rename_i hh
  rw [hL]
  by_cases hm0 : m = 0
  · subst hm0
    simp [hl, e1, skipV]
    refine got_call (hl ▸ clone_spec w (by omega)) ?_
    rintro _ h' ⟨b', c', q', rfl, w', g, hq⟩
    simp
    exact hQ _ _ ⟨h'.dyn.length, q', rfl, ⟨⟨b', c', by rw [hl]; exact RowAt.new _ _ _, w'.chg (Grow.new _ _ _) id⟩, fun h0 => by have := w'.le.resolve_left h0; omega⟩, g.trans (Grow.new _ _ _), g.len, hq⟩
  · have hmp : 0 < m := by omega
    obtain ⟨L1, hL1⟩ : ∃ L1, L = L1 + 1 := ⟨L - 1, by omega⟩
    have i3 : L1 < ws.length := by omega
    have i4 : L1 < L := by omega
    obtain ⟨v, rfl, rw⟩ := w.at i3
    have z1 : IntKind.i64.wrap ((L : Int) - 1) = (L1 : Int) := by rw [wrap_i64 (by omega) (by omega)]; omega
    have hz : word ws L1 >>> m = 0#64 := by
      apply BitVec.eq_of_getLsbD_eq
      intro b hb
      rw [across (by omega) hb, cn.out _ (by omega)]; simp
    simp [hl, e1, skipV, hmp, z1, i4, rw.get (wv_get i3), hz]
    refine got_call (hl ▸ clone_spec w (by omega)) ?_
    rintro _ h' ⟨b', c', q', rfl, w', g, hq⟩
    simp
    exact hQ _ _ ⟨h'.dyn.length, q', rfl, ⟨⟨b', c', by rw [hl]; exact RowAt.new _ _ _, w'.chg (Grow.new _ _ _) id⟩, fun h0 => by have := w'.le.resolve_left h0; omega⟩, g.trans (Grow.new _ _ _), g.len, hq⟩
end Go.Ax
