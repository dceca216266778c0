/- Seat value: the document's Compare; the law ValueCompares. -/
import Derived.Test.YtpkllocdpgfboaaVK
namespace Go.Ax
open Go.Proofs
set_option linter.unusedVariables false
set_option linter.unusedSimpArgs false

set_option maxHeartbeats 4000000 in
theorem refCompare_spec {h : Heap} {k i k' i' : Int} {a a' : Nat} {bs bs' : List (BitVec 8)} (ha : a < 18446744073709551616) (ha' : a' < 18446744073709551616) :
    Gives P T (.fn F_colonnaderef05_Compare) [.agg (vCells k i a bs).toArray, .agg (vCells k' i' a' bs').toArray] h fun v h' => v = .int .i64 (cmpB k i a bs k' i' a' bs') ∧ Grow h h' := by
  refine gives_by t_colonnaderef05_Compare (by simp [c_colonnaderef05_Compare]) fun Q hQ => ?_
  have g1 := Grow.new h (vCells k i a bs) 0
  have r1 := RowAt.new h (vCells k i a bs) 0
  have g2 := Grow.new (hnew h (vCells k i a bs) 0) (vCells k' i' a' bs') 0
  have r2 := RowAt.new (hnew h (vCells k i a bs) 0) (vCells k' i' a' bs') 0
  have r1 := r1.grow g2
  have G := g1.trans g2
  obtain ⟨H, hH⟩ : ∃ H, hnew (hnew h (vCells k i a bs) 0) (vCells k' i' a' bs') 0 = H := ⟨_, rfl⟩
  have hn1 : (hnew h (vCells k i a bs) 0).dyn.length = h.dyn.length + 1 := by simp
  rw [hn1] at r2
  rw [hH] at r1 r2 g2 G
  have ld : ∀ h', Grow H h' → loadN h' ⟨h.dyn.length, 0, some 0⟩ 4 = some (vCells k i a bs) ∧ loadN h' ⟨h.dyn.length + 1, 0, some 0⟩ 4 = some (vCells k' i' a' bs') := fun h' g =>
    ⟨loadN_row_all (r1.grow g) (n := 4) rfl, loadN_row_all (r2.grow g) (n := 4) rfl⟩
  have lf : ∀ h', Grow H h' → hload h' ⟨h.dyn.length, 0, some 0⟩ = some (.int .i64 k) ∧ hload h' ⟨h.dyn.length, 3, some 0⟩ = some (.string (bstr bs)) ∧
      hload h' ⟨h.dyn.length + 1, 0, some 0⟩ = some (.int .i64 k') ∧ hload h' ⟨h.dyn.length + 1, 3, some 0⟩ = some (.string (bstr bs')) := fun h' g =>
    ⟨(r1.grow g).get (i := 0) rfl, (r1.grow g).get (i := 3) rfl, (r2.grow g).get (i := 0) rfl, (r2.grow g).get (i := 3) rfl⟩
  obtain ⟨l1, l2⟩ := ld H (Chg.refl _)
  simp [c_colonnaderef05_Compare, hH, l1]
  refine got_call (refMay_spec ha) ?_
  rintro _ h3 ⟨rfl, g3⟩
  obtain ⟨m1, m2⟩ := ld h3 g3
  simp [m2]
  refine got_call (refMay_spec ha') ?_
  rintro _ h4 ⟨rfl, g4⟩
  have g34 := g3.trans g4
  obtain ⟨n1, n2⟩ := ld h4 g34
  obtain ⟨m, hm⟩ : ∃ m, mayB k i a bs.length = m := ⟨_, rfl⟩
  obtain ⟨m', hm'⟩ : ∃ m', mayB k' i' a' bs'.length = m' := ⟨_, rfl⟩
  rw [hm, hm']
  unfold cmpB at hQ
  rw [hm, hm'] at hQ
  have G4 := G.trans g34
  cases m with
  | false =>
    cases m' with
    | false =>
      simp [skipV]
      exact hQ _ _ ⟨rfl, G4⟩
    | true =>
      simp [skipV]
      exact hQ _ _ ⟨rfl, G4⟩
  | true =>
    cases m' with
    | false =>
      simp
      exact hQ _ _ ⟨rfl, G4⟩
    | true =>
      simp [n1]
      refine got_call refclass_spec ?_
      rintro _ h5 ⟨rfl, g5⟩
      obtain ⟨o1, o2⟩ := ld h5 (g34.trans g5)
      simp [n1, n2, o1, o2, pushP_in, same_v]
      refine got_call refclass_spec ?_
      rintro _ h6 ⟨rfl, g6⟩
      have g36 := (g34.trans g5).trans g6
      obtain ⟨p1, p2⟩ := ld h6 g36
      have G6 := G.trans g36
      by_cases hne : clsR k = clsR k'
      · simp [hne, p1]
        refine got_call refclass_spec ?_
        rintro _ h7 ⟨rfl, g7⟩
        have g37 := g36.trans g7
        obtain ⟨q1, q2⟩ := ld h7 g37
        have hkk := may_kind hm
        have hkk' := may_kind hm'
        rcases hkk with rfl | rfl | ⟨rfl, hl⟩ | ⟨rfl, hf⟩
        · simp [clsR]
          exact hQ _ _ ⟨by simp [hne], G.trans g37⟩
        · rcases hkk' with rfl | rfl | ⟨rfl, hl'⟩ | ⟨rfl, hf'⟩
          · simp [clsR] at hne
          · simp [clsR, q1]
            refine got_call refclass_spec ?_
            rintro _ h8 ⟨rfl, g8⟩
            obtain ⟨s1, s2⟩ := ld h8 (g37.trans g8)
            simp [clsR, s1, s2]
            refine got_call (numbers_spec (.inl rfl) (.inl rfl)) ?_
            rintro _ h9 ⟨rfl, g9⟩
            have G9 := G.trans ((g37.trans g8).trans g9)
            obtain ⟨f0, f3, e0, e3⟩ := lf h9 ((g37.trans g8).trans g9)
            have hnv : numV 1 i a 1 i' a' = cmpI i i' := by simp [numV]
            rw [hnv]
            by_cases hz : cmpI i i' = 0
            · simp [hz, f0, e0]
              refine got_call less_spec ?_
              rintro _ _ ⟨rfl, rfl⟩
              simp
              exact hQ _ _ ⟨by simp [hz]; simp [cmpI], G9⟩
            · simp [hz]
              exact hQ _ _ ⟨by simp, G9⟩
          · simp [clsR] at hne
          · simp [clsR, q1]
            refine got_call refclass_spec ?_
            rintro _ h8 ⟨rfl, g8⟩
            obtain ⟨s1, s2⟩ := ld h8 (g37.trans g8)
            simp [clsR, s1, s2]
            refine got_call (numbers_spec (.inl rfl) (.inr ⟨rfl, hf'⟩)) ?_
            rintro _ h9 ⟨rfl, g9⟩
            have G9 := G.trans ((g37.trans g8).trans g9)
            obtain ⟨f0, f3, e0, e3⟩ := lf h9 ((g37.trans g8).trans g9)
            have hnv : numV 1 i a 3 i' a' = agI i a' := by simp [numV]
            rw [hnv]
            by_cases hz : agI i a' = 0
            · simp [hz, f0, e0]
              refine got_call less_spec ?_
              rintro _ _ ⟨rfl, rfl⟩
              simp
              exact hQ _ _ ⟨by simp [hne, hz]; simp [cmpI], G9⟩
            · simp [hz]
              exact hQ _ _ ⟨by simp [hne, hz], G9⟩
        · rcases hkk' with rfl | rfl | ⟨rfl, hl'⟩ | ⟨rfl, hf'⟩
          · simp [clsR] at hne
          · simp [clsR] at hne
          · simp [clsR, q1]
            refine got_call refclass_spec ?_
            rintro _ h8 ⟨rfl, g8⟩
            obtain ⟨f0, f3, e0, e3⟩ := lf h8 (g37.trans g8)
            simp [clsR, f3, e3]
            refine got_call (texts_spec (by omega) (by omega)) ?_
            rintro _ _ ⟨rfl, rfl⟩
            simp
            exact hQ _ _ ⟨by simp, G.trans (g37.trans g8)⟩
          · simp [clsR] at hne
        · rcases hkk' with rfl | rfl | ⟨rfl, hl'⟩ | ⟨rfl, hf'⟩
          · simp [clsR] at hne
          · simp [clsR, q1]
            refine got_call refclass_spec ?_
            rintro _ h8 ⟨rfl, g8⟩
            obtain ⟨s1, s2⟩ := ld h8 (g37.trans g8)
            simp [clsR, s1, s2]
            refine got_call (numbers_spec (.inr ⟨rfl, hf⟩) (.inl rfl)) ?_
            rintro _ h9 ⟨rfl, g9⟩
            have G9 := G.trans ((g37.trans g8).trans g9)
            obtain ⟨f0, f3, e0, e3⟩ := lf h9 ((g37.trans g8).trans g9)
            have hnv : numV 3 i a 1 i' a' = -(agI i' a) := by simp [numV]
            rw [hnv]
            by_cases hz : agI i' a = 0
            · simp [hz, f0, e0]
              refine got_call less_spec ?_
              rintro _ _ ⟨rfl, rfl⟩
              simp
              exact hQ _ _ ⟨by simp [hne, hz]; simp [cmpI], G9⟩
            · have hz' : ¬ -(agI i' a) = 0 := by omega
              simp [hz, hz']
              exact hQ _ _ ⟨by simp [hne, hz], G9⟩
          · simp [clsR] at hne
          · simp [clsR, q1]
            refine got_call refclass_spec ?_
            rintro _ h8 ⟨rfl, g8⟩
            obtain ⟨s1, s2⟩ := ld h8 (g37.trans g8)
            simp [clsR, s1, s2]
            refine got_call (numbers_spec (.inr ⟨rfl, hf⟩) (.inr ⟨rfl, hf'⟩)) ?_
            rintro _ h9 ⟨rfl, g9⟩
            have G9 := G.trans ((g37.trans g8).trans g9)
            obtain ⟨f0, f3, e0, e3⟩ := lf h9 ((g37.trans g8).trans g9)
            have hnv : numV 3 i a 3 i' a' = cmpI (V a) (V a') := by simp [numV]
            rw [hnv]
            by_cases hz : cmpI (V a) (V a') = 0
            · simp [hz, f0, e0]
              refine got_call less_spec ?_
              rintro _ _ ⟨rfl, rfl⟩
              simp
              exact hQ _ _ ⟨by simp [hne, hz]; simp [cmpI], G9⟩
            · simp [hz]
              exact hQ _ _ ⟨by simp [hne], G9⟩
      · simp [hne, p1]
        refine got_call refclass_spec ?_
        rintro _ h7 ⟨rfl, g7⟩
        have g37 := g36.trans g7
        obtain ⟨q1, q2⟩ := ld h7 g37
        simp [p1, p2, q1, q2, pushP_in, same_v]
        refine got_call refclass_spec ?_
        rintro _ h8 ⟨rfl, g8⟩
        simp [pushP_in]
        refine got_call less_spec ?_
        rintro _ _ ⟨rfl, rfl⟩
        simp
        exact hQ _ _ ⟨by simp [hne], G.trans (g37.trans g8)⟩

theorem compares_spec {h : Heap} {k i k' i' : Int} {a a' : Nat} {bs bs' : List (BitVec 8)} (ha : a < 18446744073709551616) (ha' : a' < 18446744073709551616) :
    Gives P T (.fn F_colonnadelaw05_ValueCompares) [.agg (vCells k i a bs).toArray, .agg (vCells k' i' a' bs').toArray] h fun v h' => v = .bool true := by
  refine gives_by t_colonnadelaw05_ValueCompares (by simp [c_colonnadelaw05_ValueCompares]) fun Q hQ => ?_
  have r1 := (RowAt.new h (vCells k i a bs) 0).grow (Grow.new (hnew h (vCells k i a bs) 0) (vCells k' i' a' bs') 0)
  have r2 := RowAt.new (hnew h (vCells k i a bs) 0) (vCells k' i' a' bs') 0
  have ld : ∀ h', Grow (hnew (hnew h (vCells k i a bs) 0) (vCells k' i' a' bs') 0) h' → loadN h' ⟨h.dyn.length, 0, some 0⟩ 4 = some (vCells k i a bs) ∧ loadN h' ⟨h.dyn.length + 1, 0, some 0⟩ 4 = some (vCells k' i' a' bs') := fun h' g => by
    have l1 := loadN_row_all (r1.grow g) (n := 4) rfl
    have l2 := loadN_row_all (r2.grow g) (n := 4) rfl
    simp at l1 l2
    exact ⟨l1, l2⟩
  obtain ⟨l1, l2⟩ := ld _ (Chg.refl _)
  simp [c_colonnadelaw05_ValueCompares, l1, l2]
  refine got_call (Compare_spec ha ha') ?_
  rintro _ h3 ⟨rfl, g3⟩
  obtain ⟨m1, m2⟩ := ld h3 g3
  simp [l1, l2, m1, m2, pushP_in, same_v]
  refine got_call (refCompare_spec ha ha') ?_
  rintro _ h4 ⟨rfl, g4⟩
  simp [pushP_in]
  exact hQ _ _ rfl

end Go.Ax
