/- Seat value: Compare; the law ValueCompares. -/
import Derived.Test.YtjfdnmjjmbildaaGreatDoorVH
namespace Go.Ax
open Go.Proofs
set_option linter.unusedVariables false
set_option linter.unusedSimpArgs false
set_option maxRecDepth 100000

/-- How two values stand to each other. -/
def cmpB (k i : Int) (a : Nat) (bs : List (BitVec 8)) (k' i' : Int) (a' : Nat) (bs' : List (BitVec 8)) : Int :=
  if mayB k i a bs.length = false ∨ mayB k' i' a' bs'.length = false then
    (if mayB k i a bs.length = mayB k' i' a' bs'.length then 0 else if mayB k i a bs.length = true then 1 else -1)
  else if clsR k ≠ clsR k' then cmpI (clsR k) (clsR k')
  else if k = 0 then 0
  else if k = 2 then tcL bs bs'
  else if k = 1 ∧ k' = 1 then cmpI i i'
  else if k = 3 ∧ k' = 3 then cmpI (V a) (V a')
  else if k = 1 then (if agI i a' = 0 then -1 else agI i a')
  else (if agI i' a = 0 then 1 else -(agI i' a))

theorem may_kind {k i : Int} {a n : Nat} (h : mayB k i a n = true) : k = 0 ∨ k = 1 ∨ (k = 2 ∧ n ≤ 65535) ∨ (k = 3 ∧ fin a) := by
  unfold mayB at h
  split at h
  · exact .inl (by assumption)
  · split at h
    · exact .inr (.inl (by assumption))
    · split at h
      · rename_i h3
        simp at h
        exact .inr (.inr (.inl ⟨h3, h.2⟩))
      · split at h
        · rename_i h4
          simp at h
          exact .inr (.inr (.inr ⟨h4, h.1.2⟩))
        · simp at h

theorem same_v (k i : Int) (a : Nat) (bs : List (BitVec 8)) : vsame (.agg (vCells k i a bs).toArray) (some (.agg (vCells k i a bs).toArray)) = true := by
  simp [vsame, veqN, vCells]

theorem neg_ag (i : Int) (a : Nat) : aun P .neg (.int .i64 (agI i a)) = some (.int .i64 (-(agI i a))) := by
  have hr := agI_range i a
  have wn : IntKind.i64.wrap (-(agI i a)) = -(agI i a) := wrap_i64 (by omega) (by omega)
  show some (Value.int .i64 (IntKind.i64.wrap (0 - agI i a))) = _
  rw [Int.zero_sub, wn]

set_option maxHeartbeats 4000000 in
theorem Compare_spec {h : Heap} {k i k' i' : Int} {a a' : Nat} {bs bs' : List (BitVec 8)} (ha : a < 18446744073709551616) (ha' : a' < 18446744073709551616) :
    Gives P T (.fn F_value_Compare) [.agg (vCells k i a bs).toArray, .agg (vCells k' i' a' bs').toArray] h fun v h' => v = .int .i64 (cmpB k i a bs k' i' a' bs') ∧ Grow h h' := by
  refine gives_by t_value_Compare (by simp [c_value_Compare]) fun Q hQ => ?_
  have g1 := Grow.new h (vCells k i a bs) 0
  have r1 := RowAt.new h (vCells k i a bs) 0
  have g2 := Grow.new (hnew h (vCells k i a bs) 0) (vCells k' i' a' bs') 0
  have r2 := RowAt.new (hnew h (vCells k i a bs) 0) (vCells k' i' a' bs') 0
  have r1 := r1.grow g2
  have G := g1.trans g2
  obtain ⟨H, hH⟩ : ∃ H, hnew (hnew h (vCells k i a bs) 0) (vCells k' i' a' bs') 0 = H := ⟨_, rfl⟩
  have hn1 : (hnew h (vCells k i a bs) 0).dyn.length = h.dyn.length + 1 := by simp
  rw [hn1] at r2
  rw [hH] at r1 r2 g2 G
  have ld : ∀ h', Grow H h' → loadN h' ⟨h.dyn.length, 0, some 0⟩ 4 = some (vCells k i a bs) ∧ loadN h' ⟨h.dyn.length + 1, 0, some 0⟩ 4 = some (vCells k' i' a' bs') := fun h' g =>
    ⟨loadN_row_all (r1.grow g) (n := 4) rfl, loadN_row_all (r2.grow g) (n := 4) rfl⟩
  have lf : ∀ h', Grow H h' → hload h' ⟨h.dyn.length, 0, some 0⟩ = some (.int .i64 k) ∧ hload h' ⟨h.dyn.length, 1, some 0⟩ = some (.int .i64 i) ∧ hload h' ⟨h.dyn.length, 2, some 0⟩ = some (.float .f64 a) ∧ hload h' ⟨h.dyn.length, 3, some 0⟩ = some (.string (bstr bs)) ∧
      hload h' ⟨h.dyn.length + 1, 0, some 0⟩ = some (.int .i64 k') ∧ hload h' ⟨h.dyn.length + 1, 1, some 0⟩ = some (.int .i64 i') ∧ hload h' ⟨h.dyn.length + 1, 2, some 0⟩ = some (.float .f64 a') ∧ hload h' ⟨h.dyn.length + 1, 3, some 0⟩ = some (.string (bstr bs')) := fun h' g =>
    ⟨(r1.grow g).get (i := 0) rfl, (r1.grow g).get (i := 1) rfl, (r1.grow g).get (i := 2) rfl, (r1.grow g).get (i := 3) rfl, (r2.grow g).get (i := 0) rfl, (r2.grow g).get (i := 1) rfl, (r2.grow g).get (i := 2) rfl, (r2.grow g).get (i := 3) rfl⟩
  obtain ⟨l1, l2⟩ := ld H (Chg.refl _)
  simp [c_value_Compare, hH, l1]
  refine got_call (class_spec ha) ?_
  rintro _ h3 ⟨rfl, g3⟩
  obtain ⟨m1, m2⟩ := ld h3 g3
  simp [l1, l2, m1, m2, pushP_in, same_v]
  refine got_call (class_spec ha') ?_
  rintro _ h4 ⟨rfl, g4⟩
  have g34 := g3.trans g4
  obtain ⟨n1, n2⟩ := ld h4 g34
  obtain ⟨f0, f1, f2, f3, e0, e1, e2, e3⟩ := lf h4 g34
  simp [l1, l2, m1, m2, n1, n2, pushP_in, same_v]
  refine got_call cmpInt_spec ?_
  rintro _ _ ⟨rfl, rfl⟩
  rename_i h4
  obtain ⟨m, hm⟩ : ∃ m, mayB k i a bs.length = m := ⟨_, rfl⟩
  obtain ⟨m', hm'⟩ : ∃ m', mayB k' i' a' bs'.length = m' := ⟨_, rfl⟩
  rw [hm, hm']
  unfold cmpB at hQ
  rw [hm, hm'] at hQ
  have G4 := G.trans g34
  cases m with
  | false =>
    cases m' with
    | false =>
      have c0 : cmpI (clsP false k) (clsP false k') = 0 := rfl
      simp [c0, n1]
      refine got_call (class_spec ha) ?_
      rintro _ h5 ⟨rfl, g5⟩
      rw [hm]
      simp [clsP]
      exact hQ _ _ ⟨rfl, G4.trans g5⟩
    | true =>
      have c0 : cmpI (clsP false k) (clsP true k') = -1 := by
        simp only [clsP, if_pos, Bool.false_eq_true, if_false]
        unfold cmpI
        split <;> (try split) <;> (try split) <;> omega
      simp [c0]
      exact hQ _ _ ⟨rfl, G4⟩
  | true =>
    cases m' with
    | false =>
      have c0 : cmpI (clsP true k) (clsP false k') = 1 := by
        simp only [clsP, if_pos, Bool.false_eq_true, if_false]
        unfold cmpI
        split <;> (try split) <;> (try split) <;> omega
      simp [c0]
      exact hQ _ _ ⟨rfl, G4⟩
    | true =>
      have hc : cmpI (clsP true k) (clsP true k') = cmpI (clsR k) (clsR k') := by
        unfold clsP clsR cmpI
        simp only [if_true]
        by_cases a0 : k = 0 <;> by_cases a2 : k = 2 <;> by_cases b0 : k' = 0 <;> by_cases b2 : k' = 2 <;> simp [a0, a2, b0, b2]
      rw [hc]
      by_cases hne : clsR k = clsR k'
      · have c0 : cmpI (clsR k) (clsR k') = 0 := by rw [hne]; unfold cmpI; simp
        have hkk := may_kind hm
        have hkk' := may_kind hm'
        simp [c0, n1]
        refine got_call (class_spec ha) ?_
        rintro _ h5 ⟨rfl, g5⟩
        rw [hm]
        obtain ⟨f0, f1, f2, f3, e0, e1, e2, e3⟩ := lf h5 (g34.trans g5)
        have G5 := G4.trans g5
        rcases hkk with rfl | rfl | ⟨rfl, hl⟩ | ⟨rfl, hf⟩
        · simp [clsP]
          exact hQ _ _ ⟨by simp [hne], G5⟩
        · rcases hkk' with rfl | rfl | ⟨rfl, hl'⟩ | ⟨rfl, hf'⟩
          · simp [clsR] at hne
          · simp [clsP, f0, f1, e0, e1]
            refine got_call cmpLong_spec ?_
            rintro _ _ ⟨rfl, rfl⟩
            simp
            exact hQ _ _ ⟨by simp [hne], G5⟩
          · simp [clsR] at hne
          · simp [clsP, f0, f1, e0, e2, skipV]
            refine got_call (against_spec hf') ?_
            rintro _ _ ⟨rfl, rfl⟩
            rename_i h5
            simp
            refine got_call (or_spec (RowAt.new _ _ _) (by omega)) ?_
            rintro _ _ ⟨rfl, rfl⟩
            simp
            exact hQ _ _ ⟨by simp [hne], G5.trans (Grow.new _ _ _)⟩
        · rcases hkk' with rfl | rfl | ⟨rfl, hl'⟩ | ⟨rfl, hf'⟩
          · simp [clsR] at hne
          · simp [clsR] at hne
          · simp [clsP, f0, f3, e3]
            refine got_call strCompare_spec ?_
            rintro _ _ ⟨rfl, rfl⟩
            simp
            exact hQ _ _ ⟨by simp [hne], G5⟩
          · simp [clsR] at hne
        · rcases hkk' with rfl | rfl | ⟨rfl, hl'⟩ | ⟨rfl, hf'⟩
          · simp [clsR] at hne
          · simp [clsP, f0, f2, e0, e1, skipV]
            refine got_call (against_spec hf) ?_
            rintro _ _ ⟨rfl, rfl⟩
            rename_i h5
            simp [neg_ag]
            refine got_call (or_spec (RowAt.new _ _ _) (by omega)) ?_
            rintro _ _ ⟨rfl, rfl⟩
            simp
            exact hQ _ _ ⟨by simp [hne, Int.neg_eq_zero], G5.trans (Grow.new _ _ _)⟩
          · simp [clsR] at hne
          · simp [clsP, f0, f2, e0, e2, skipV]
            have q1 : (ford a a == some .eq) = true := by rw [fin_eq hf hf]; simp
            have q2 : (ford a' a' == some .eq) = true := by rw [fin_eq hf' hf']; simp
            refine got_call (cmpFloat_spec (c := cmpI (V a) (V a')) q1 q2 (by rw [fin_lt hf hf', fin_gt hf hf']; simp [cmpI])) ?_
            rintro _ _ ⟨rfl, rfl⟩
            simp
            exact hQ _ _ ⟨by simp [hne], G5⟩
      · have c0 : ¬ cmpI (clsR k) (clsR k') = 0 := by unfold cmpI; split <;> (try split) <;> omega
        simp [c0]
        exact hQ _ _ ⟨by simp [hne], G4⟩

end Go.Ax
