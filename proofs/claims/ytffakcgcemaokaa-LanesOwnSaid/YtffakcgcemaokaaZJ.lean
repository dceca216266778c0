/- Seat lanes: what every right program says first. -/
import Derived.Test.YtffakcgcemaokaaZI
namespace Go.Ax
open Go.Proofs
set_option linter.unusedVariables false
set_option linter.unusedSimpArgs false

theorem knB_map : knB.map bv = [.int .u8 213, .int .u8 1] := rfl
theorem kn7 : ([7#64, 9#64, 0#64] : List (BitVec 64)).map wv = [.int .u64 7, .int .u64 9, .int .u64 0] := rfl

theorem known_spec {h : Heap} : Gives P T (.fn F_colonnadelaw03_known) [] h fun r h' => r = .bool true ∧ Grow h h' := by
  refine gives_by t_colonnadelaw03_known (by simp [c_colonnadelaw03_known]) fun Q hQ => ?_
  simp [c_colonnadelaw03_known]
  have hB := lit_bytes (h := h) knB (by unfold gcap; decide)
  rw [knB_map] at hB
  have g1 := Grow.new h [.int .u8 213, .int .u8 1] 1
  refine got_call (Test_spec (c := 5#64) hB kn_fine (by omega) (by omega)) ?_
  rintro _ h2 ⟨p2, rfl, s2, g2⟩
  have hB2 := hB.grow g2
  simp
  have hL := lit_reads (h := h2) (([7#64, 9#64, 0#64] : List (BitVec 64)).map wv)
  rw [kn7] at hL
  have g3 := Grow.new h2 [.int .u64 7, .int .u64 9, .int .u64 0] 1
  refine got_call (In_spec (cs := [7#64, 9#64, 0#64]) (hB2.grow g3) hL kn_fine (by simp)) ?_
  rintro _ h4 ⟨p4, rfl, s4, g4⟩
  have hB4 := (hB2.grow g3).grow g4
  simp
  refine got_call (Sum_spec hB4 kn_fine) ?_
  rintro _ _ ⟨rfl, rfl⟩
  rename_i h4
  rw [kn_sum]
  simp
  refine got_call (Equal_spec (w := 8) (x := 72623859790382856#64) (y := 72623842610513664#64) (by omega) (by omega)) ?_
  rintro _ _ ⟨rfl, rfl⟩
  rename_i h4
  rw [kn_equal]
  simp
  refine got_call (Spread_spec (w := 16) (v := 5#64) (by omega) (by omega) (.inr (by decide))) ?_
  rintro _ _ ⟨rfl, rfl⟩
  rename_i h4
  rw [kn_spread]
  simp
  refine got_call (Marks_spec (w := 8) (m := 9259541573518000128#64) (by omega) (by omega)) ?_
  rintro _ _ ⟨rfl, rfl⟩
  rename_i h4
  rw [kn_marks]
  simp
  obtain ⟨q2, ws2, t2, c2, b2, _, _⟩ := (s2.grow g3).grow g4
  obtain ⟨q4, ws4, t4, c4, b4, _, _⟩ := s4
  have l5 := lit_reads (h := h4) (tL (fun i => [false, true, false, true].getD i false) 4)
  have g5 := Grow.new h4 (tL (fun i => [false, true, false, true].getD i false) 4) 1
  have e5 : tL (fun i => [false, true, false, true].getD i false) 4 = [.bool false, .bool true, .bool false, .bool true] := rfl
  rw [e5] at g5
  refine got_call (like_true (t2.grow g5) c2 (f := fun i => [false, true, false, true].getD i false) l5 (fun i hi => by rw [b2]; simp only [hi, decide_true, Bool.true_and]; exact kn_test i hi)) ?_
  rintro _ _ ⟨rfl, rfl⟩
  rename_i h5
  simp
  have l6 := lit_reads (h := hnew h4 [.bool false, .bool true, .bool false, .bool true] 1) (tL (fun i => [false, false, true, true].getD i false) 4)
  have g6 := Grow.new (hnew h4 [.bool false, .bool true, .bool false, .bool true] 1) (tL (fun i => [false, false, true, true].getD i false) 4) 1
  have e6 : tL (fun i => [false, false, true, true].getD i false) 4 = [.bool false, .bool false, .bool true, .bool true] := rfl
  rw [e6] at g6
  rw [hnew_len] at l6
  refine got_call (like_true ((t4.grow g5).grow g6) c4 (f := fun i => [false, false, true, true].getD i false) l6 (fun i hi => by rw [b4]; simp only [hi, decide_true, Bool.true_and]; exact kn_in i hi)) ?_
  rintro _ _ ⟨rfl, rfl⟩
  have hhi : wi (hiB 14) = 0 := by decide
  have hlo : wi (loB 14) = 14 := by decide
  have k1 : wi 9259541573518000128#64 = 9259541573518000128 := rfl
  have k2 : wi 1407396358717445#64 = 1407396358717445 := rfl
  have k3 : wi 238#64 = 238 := rfl
  simp [hhi, hlo, k1, k2, k3]
  exact hQ _ _ ⟨rfl, (((g1.trans g2).trans g3).trans g4).trans (g5.trans g6)⟩

theorem spreads_spec {h : Heap} (v : BitVec 64) (w : Int) : Gives P T (.fn F_colonnadelaw03_LanesSpreads) [.int .u64 (wi v), .int .i64 w] h fun r _ => r = .bool true := by
  refine gives_by t_colonnadelaw03_LanesSpreads (by simp [c_colonnadelaw03_LanesSpreads]) fun Q hQ => ?_
  simp [c_colonnadelaw03_LanesSpreads]
  by_cases hr : 1 ≤ w ∧ w ≤ 64
  · obtain ⟨n, rfl⟩ : ∃ n : Nat, w = n := ⟨w.toNat, by omega⟩
    by_cases hv : 64 ≤ n ∨ v >>> n = 0#64
    · refine got_call (refSpread_spec (by omega) (by omega) hv) ?_
      rintro _ _ ⟨rfl, rfl⟩
      simp
      refine got_call (Spread_spec (by omega) (by omega) hv) ?_
      rintro _ _ ⟨rfl, rfl⟩
      simp
      refine got_call known_spec ?_
      rintro _ _ ⟨rfl, _⟩
      simp
      exact hQ _ _ rfl
    · refine got_call (refSpread_over (by omega) (by omega) hv) ?_
      rintro _ _ ⟨rfl, rfl⟩
      simp
      refine got_call (Spread_over (by omega) (by omega) hv) ?_
      rintro _ _ ⟨rfl, rfl⟩
      simp
      refine got_call known_spec ?_
      rintro _ _ ⟨rfl, _⟩
      simp
      exact hQ _ _ rfl
  · refine got_call (refSpread_bad hr) ?_
    rintro _ _ ⟨rfl, rfl⟩
    simp
    refine got_call (Spread_bad hr) ?_
    rintro _ _ ⟨rfl, rfl⟩
    simp
    refine got_call known_spec ?_
    rintro _ _ ⟨rfl, _⟩
    simp
    exact hQ _ _ rfl

theorem marksL_spec {h : Heap} (v : BitVec 64) (w : Int) : Gives P T (.fn F_colonnadelaw03_LanesMarks) [.int .u64 (wi v), .int .i64 w] h fun r _ => r = .bool true := by
  refine gives_by t_colonnadelaw03_LanesMarks (by simp [c_colonnadelaw03_LanesMarks]) fun Q hQ => ?_
  simp [c_colonnadelaw03_LanesMarks]
  by_cases hr : 1 ≤ w ∧ w ≤ 64
  · obtain ⟨n, rfl⟩ : ∃ n : Nat, w = n := ⟨w.toNat, by omega⟩
    refine got_call (refMarks_spec (by omega) (by omega)) ?_
    rintro _ _ ⟨rfl, _⟩
    simp
    refine got_call (Marks_spec (by omega) (by omega)) ?_
    rintro _ _ ⟨rfl, rfl⟩
    simp
    refine got_call known_spec ?_
    rintro _ _ ⟨rfl, _⟩
    simp
    exact hQ _ _ rfl
  · refine got_call (refMarks_bad hr) ?_
    rintro _ _ ⟨rfl, rfl⟩
    simp
    refine got_call (Marks_bad hr) ?_
    rintro _ _ ⟨rfl, rfl⟩
    simp
    refine got_call known_spec ?_
    rintro _ _ ⟨rfl, _⟩
    simp
    exact hQ _ _ rfl

theorem holds_spec {h : Heap} (x y : BitVec 64) (w : Int) : Gives P T (.fn F_colonnadelaw03_LanesHolds) [.int .u64 (wi x), .int .u64 (wi y), .int .i64 w] h fun r _ => r = .bool true := by
  refine gives_by t_colonnadelaw03_LanesHolds (by simp [c_colonnadelaw03_LanesHolds]) fun Q hQ => ?_
  simp [c_colonnadelaw03_LanesHolds]
  by_cases hr : 1 ≤ w ∧ w ≤ 64
  · obtain ⟨n, rfl⟩ : ∃ n : Nat, w = n := ⟨w.toNat, by omega⟩
    refine got_call (held_spec (by omega) (by omega)) ?_
    rintro _ _ ⟨rfl, _⟩
    simp
    refine got_call (held_spec (by omega) (by omega)) ?_
    rintro _ _ ⟨rfl, _⟩
    simp
    refine got_call (Equal_spec (by omega) (by omega)) ?_
    rintro _ _ ⟨rfl, rfl⟩
    rw [equal_held (by omega) (by omega)]
    simp
    refine got_call (Below_spec (by omega) (by omega)) ?_
    rintro _ _ ⟨rfl, rfl⟩
    rw [below_held (by omega) (by omega)]
    simp
    refine got_call known_spec ?_
    rintro _ _ ⟨rfl, _⟩
    simp
    exact hQ _ _ rfl
  · refine got_call (held_bad hr) ?_
    rintro _ _ ⟨rfl, rfl⟩
    simp
    refine got_call (held_bad hr) ?_
    rintro _ _ ⟨rfl, rfl⟩
    simp
    refine got_call (Equal_bad hr) ?_
    rintro _ _ ⟨rfl, rfl⟩
    simp
    refine got_call (Below_bad hr) ?_
    rintro _ _ ⟨rfl, rfl⟩
    simp
    refine got_call known_spec ?_
    rintro _ _ ⟨rfl, _⟩
    simp
    exact hQ _ _ rfl

theorem spreads_law {h : Heap} {a : Int} (wa : (Lit.int .u64 a).wf = true) (w : Int) : Gives P T (.fn F_colonnadelaw03_LanesSpreads) [.int .u64 a, .int .i64 w] h fun r _ => r = .bool true := by
  obtain ⟨x, rfl⟩ := u64_of wa
  exact spreads_spec x w
theorem marks_law {h : Heap} {a : Int} (wa : (Lit.int .u64 a).wf = true) (w : Int) : Gives P T (.fn F_colonnadelaw03_LanesMarks) [.int .u64 a, .int .i64 w] h fun r _ => r = .bool true := by
  obtain ⟨x, rfl⟩ := u64_of wa
  exact marksL_spec x w
theorem holds_law {h : Heap} {a b : Int} (wa : (Lit.int .u64 a).wf = true) (wb : (Lit.int .u64 b).wf = true) (w : Int) : Gives P T (.fn F_colonnadelaw03_LanesHolds) [.int .u64 a, .int .u64 b, .int .i64 w] h fun r _ => r = .bool true := by
  obtain ⟨x, rfl⟩ := u64_of wa
  obtain ⟨y, rfl⟩ := u64_of wb
  exact holds_spec x y w

end Go.Ax
