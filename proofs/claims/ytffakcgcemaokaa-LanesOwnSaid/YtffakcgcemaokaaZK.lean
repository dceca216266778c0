/- Seat lanes: the laws of tests, intervals, lists, sums. -/
import Derived.Test.YtffakcgcemaokaaZJ
namespace Go.Ax
open Go.Proofs
set_option linter.unusedVariables false
set_option linter.unusedSimpArgs false

/-- The fields of an argument, read out of its box. -/
theorem tests_spec {h : Heap} {vB vL : Value} {bs : List (BitVec 8)} (rB : ArgS h vB (bs.map bv)) (hl : bs.length ≤ 140737488351232) (w n op : Int) (c lo hi : BitVec 64) :
    Gives P T (.fn F_colonnadelaw03_LanesTests) [.agg #[vB, .int .i64 w, .int .i64 n, .int .i64 op, .int .u64 (wi c), .int .u64 (wi lo), .int .u64 (wi hi), vL]] h fun r _ => r = .bool true := by
  refine gives_by t_colonnadelaw03_LanesTests (by simp [c_colonnadelaw03_LanesTests]) fun Q hQ => ?_
  simp [c_colonnadelaw03_LanesTests]
  have gb := Grow.new h [vB, .int .i64 w, .int .i64 n, .int .i64 op, .int .u64 (wi c), .int .u64 (wi lo), .int .u64 (wi hi), vL] 0
  have rb := RowAt.new h [vB, .int .i64 w, .int .i64 n, .int .i64 op, .int .u64 (wi c), .int .u64 (wi lo), .int .u64 (wi hi), vL] 0
  refine got_call known_spec ?_
  rintro _ h2 ⟨rfl, g2⟩
  have r2 := rb.grow g2
  have B2 : Bytes h2 vB bs := (rB.bytes.grow gb).grow g2
  simp [r2.get (i := 0) rfl, r2.get (i := 1) rfl, r2.get (i := 2) rfl, r2.get (i := 3) rfl, r2.get (i := 4) rfl]
  refine got_call (large_spec n) ?_
  rintro _ _ ⟨rfl, rfl⟩
  rename_i h2
  by_cases hlg : (1048576 < n ∧ n ≤ 16777216) ∧ w = 0
  · obtain ⟨⟨a1, a2⟩, rfl⟩ := hlg
    simp [a1, a2, r2.get (i := 1) rfl]
    exact hQ _ _ rfl
  have hskip : ∀ K : Prop, K → K := fun _ k => k
  have main : Gives P T (.fn F_colonnaderef03_Test) [vB, .int .i64 w, .int .i64 n, .int .i64 op, .int .u64 (wi c)] h2 fun r h3 => ∃ u f, r = .tuple #[u, .int .i64 f] ∧ Grow h2 h3 ∧ ∀ v4 q4 h4, Grow h3 h4 → Own h4 v4 q4 (bs.map bv) →
      Gives P T (.fn F_lanes_Test) [v4, .int .i64 w, .int .i64 n, .int .i64 op, .int .u64 (wi c)] h4 fun r h5 => ∃ s, r = .tuple #[s, .int .i64 f] ∧ Grow h4 h5 ∧ Gives P T (.fn F_colonnadelaw03_like) [s, u, .int .i64 f] h5 fun r h' => r = .bool true ∧ h' = h5 := by
    by_cases hf : faultE bs w n = 0
    · by_cases ho : 1 ≤ op ∧ op ≤ 6
      · obtain ⟨w', n', rfl, rfl, G⟩ := faultE_fine hf
        refine (refTest_spec B2.reads G ho.1 ho.2).mono ?_
        rintro _ h3 ⟨u, rfl, ru, g3⟩
        refine ⟨u, 0, rfl, g3, fun v4 q4 h4 g4 o4 => ?_⟩
        refine (Test_spec o4.bytes G ho.1 ho.2).mono ?_
        rintro _ h5 ⟨p, rfl, ⟨q, ws, s, cn, hb, _, _⟩, g5⟩
        exact ⟨_, rfl, g5, like_true s cn ((ru.grow g4).grow g5) fun i hi => by rw [hb]; simp [hi]⟩
      · refine (refTest_op B2.reads (by omega) hf ho).mono ?_
        rintro _ h3 ⟨rfl, rfl⟩
        refine ⟨_, 2, rfl, Chg.refl _, fun v4 q4 h4 g4 o4 => ?_⟩
        refine (Test_op o4.bytes (by omega) hf ho).mono ?_
        rintro _ h5 ⟨rfl, rfl⟩
        exact ⟨_, rfl, Chg.refl _, like_nil (by omega)⟩
    · refine (refTest_bad B2.reads (by omega) hf).mono ?_
      rintro _ h3 ⟨rfl, rfl⟩
      refine ⟨_, _, rfl, Chg.refl _, fun v4 q4 h4 g4 o4 => ?_⟩
      refine (Test_fault o4.bytes (by omega) hf).mono ?_
      rintro _ h5 ⟨rfl, rfl⟩
      exact ⟨_, rfl, Chg.refl _, like_nil hf⟩
  have rest : ∀ (t : List Value), True := fun _ => trivial
  by_cases ha : 1048576 < n ∧ n ≤ 16777216
  · have hw : ¬ w = 0 := fun e => hlg ⟨ha, e⟩
    simp [ha, hw, r2.get (i := 0) rfl, r2.get (i := 1) rfl, r2.get (i := 2) rfl, r2.get (i := 3) rfl, r2.get (i := 4) rfl]
    refine got_call main ?_
    rintro _ h3 ⟨u, f, rfl, g3, hm⟩
    have r3 := r2.grow g3
    simp [r3.get (i := 0) rfl, r3.get (i := 1) rfl, r3.get (i := 2) rfl, r3.get (i := 3) rfl, r3.get (i := 4) rfl]
    refine got_call (twin_spec (B2.reads.grow g3) hl) ?_
    rintro v4 h4 ⟨q4, o4, g4, _⟩
    have r4 := r3.grow g4
    simp [r3.get (i := 0) rfl, r3.get (i := 1) rfl, r3.get (i := 2) rfl, r3.get (i := 3) rfl, r3.get (i := 4) rfl, r4.get (i := 0) rfl, r4.get (i := 1) rfl, r4.get (i := 2) rfl, r4.get (i := 3) rfl, r4.get (i := 4) rfl]
    refine got_call (hm v4 q4 h4 g4 o4) ?_
    rintro _ h5 ⟨s, rfl, g5, hk⟩
    simp
    refine got_call hk ?_
    rintro _ _ ⟨rfl, rfl⟩
    simp
    exact hQ _ _ rfl
  · have hd : (decide (1048576 < n) && decide (n ≤ 16777216)) = false := by
      rw [Bool.and_eq_false_iff]; simp; omega
    simp [hd, skipV, r2.get (i := 0) rfl, r2.get (i := 1) rfl, r2.get (i := 2) rfl, r2.get (i := 3) rfl, r2.get (i := 4) rfl]
    refine got_call main ?_
    rintro _ h3 ⟨u, f, rfl, g3, hm⟩
    have r3 := r2.grow g3
    simp [r3.get (i := 0) rfl, r3.get (i := 1) rfl, r3.get (i := 2) rfl, r3.get (i := 3) rfl, r3.get (i := 4) rfl]
    refine got_call (twin_spec (B2.reads.grow g3) hl) ?_
    rintro v4 h4 ⟨q4, o4, g4, _⟩
    have r4 := r3.grow g4
    simp [r3.get (i := 0) rfl, r3.get (i := 1) rfl, r3.get (i := 2) rfl, r3.get (i := 3) rfl, r3.get (i := 4) rfl, r4.get (i := 0) rfl, r4.get (i := 1) rfl, r4.get (i := 2) rfl, r4.get (i := 3) rfl, r4.get (i := 4) rfl]
    refine got_call (hm v4 q4 h4 g4 o4) ?_
    rintro _ h5 ⟨s, rfl, g5, hk⟩
    simp
    refine got_call hk ?_
    rintro _ _ ⟨rfl, rfl⟩
    simp
    exact hQ _ _ rfl

theorem app_list {h : Heap} {v : Value} {m : List Value} {bytes : Nat} {z : Value} (r : Reads h v m) (hg : m.all goodC = true) (hb : m.length * bytes ≤ 140737488355328) (hb' : m.length ≤ 140737488355328) :
    ∃ v' h' q, aappend h 1 bytes [z] (.slice none 0 0) v = some (v', h') ∧ Own h' v' q m ∧ Grow h h' ∧ h.dyn.length ≤ q := by
  have hv : slen v = some m.length ∧ firstN h 1 m.length v = some m := by
    rcases r with ⟨rfl, rfl⟩ | ⟨a, c, rfl, hl⟩
    · exact ⟨rfl, rfl⟩
    · refine ⟨rfl, ?_⟩
      simp only [firstN, Nat.mul_one]
      exact loadN_of _ _ hl
  by_cases h0 : m = []
  · subst h0
    exact ⟨_, _, h.dyn.length, (Own.nil h h.dyn.length).app0 (by simp) (bytes := bytes) (z := z) hv.1 hv.2, Own.nil _ _, Chg.refl _, Nat.le_refl _⟩
  · obtain ⟨v', h', q', e, o, c, _, d⟩ := (Own.nil h h.dyn.length).app (bytes := bytes) (z := z) h0 hv.1 hv.2 hg (by simpa using hb) (by simpa using hb')
    refine ⟨v', h', q', e, by simpa using o, c.mono fun n hn hb => by have := hb.1; omega, ?_⟩
    rcases d with ⟨h1, _⟩ | h1 <;> omega

theorem betweens_spec {h : Heap} {vB vL : Value} {bs : List (BitVec 8)} (rB : ArgS h vB (bs.map bv)) (hl : bs.length ≤ 140737488351232) (w n op : Int) (c lo hi : BitVec 64) :
    Gives P T (.fn F_colonnadelaw03_LanesBetweens) [.agg #[vB, .int .i64 w, .int .i64 n, .int .i64 op, .int .u64 (wi c), .int .u64 (wi lo), .int .u64 (wi hi), vL]] h fun r _ => r = .bool true := by
  refine gives_by t_colonnadelaw03_LanesBetweens (by simp [c_colonnadelaw03_LanesBetweens]) fun Q hQ => ?_
  simp [c_colonnadelaw03_LanesBetweens]
  have gb := Grow.new h [vB, .int .i64 w, .int .i64 n, .int .i64 op, .int .u64 (wi c), .int .u64 (wi lo), .int .u64 (wi hi), vL] 0
  have rb := RowAt.new h [vB, .int .i64 w, .int .i64 n, .int .i64 op, .int .u64 (wi c), .int .u64 (wi lo), .int .u64 (wi hi), vL] 0
  refine got_call known_spec ?_
  rintro _ h2 ⟨rfl, g2⟩
  have r2 := rb.grow g2
  have B2 : Bytes h2 vB bs := (rB.bytes.grow gb).grow g2
  simp [r2.get (i := 2) rfl]
  refine got_call (large_spec n) ?_
  rintro _ _ ⟨rfl, rfl⟩
  rename_i h2
  by_cases hlg : (1048576 < n ∧ n ≤ 16777216) ∧ w = 0
  · obtain ⟨⟨a1, a2⟩, rfl⟩ := hlg
    simp [a1, a2, r2.get (i := 1) rfl]
    exact hQ _ _ rfl
  have main : Gives P T (.fn F_colonnaderef03_Between) [vB, .int .i64 w, .int .i64 n, .int .u64 (wi lo), .int .u64 (wi hi)] h2 fun r h3 => ∃ u f, r = .tuple #[u, .int .i64 f] ∧ Grow h2 h3 ∧ ∀ v4 q4 h4, Grow h3 h4 → Own h4 v4 q4 (bs.map bv) →
      Gives P T (.fn F_lanes_Between) [v4, .int .i64 w, .int .i64 n, .int .u64 (wi lo), .int .u64 (wi hi)] h4 fun r h5 => ∃ s, r = .tuple #[s, .int .i64 f] ∧ Grow h4 h5 ∧ Gives P T (.fn F_colonnadelaw03_like) [s, u, .int .i64 f] h5 fun r h' => r = .bool true ∧ h' = h5 := by
    by_cases hf : faultE bs w n = 0
    · obtain ⟨w', n', rfl, rfl, G⟩ := faultE_fine hf
      refine (refBetween_spec B2.reads G).mono ?_
      rintro _ h3 ⟨u, rfl, ru, g3⟩
      refine ⟨u, 0, rfl, g3, fun v4 q4 h4 g4 o4 => ?_⟩
      refine (Between_spec o4.bytes G).mono ?_
      rintro _ h5 ⟨p, rfl, ⟨q, ws, s, cn, hb, _, _⟩, g5⟩
      exact ⟨_, rfl, g5, like_true s cn ((ru.grow g4).grow g5) fun i hi => by rw [hb]; simp [hi]⟩
    · refine (refBetween_bad B2.reads (by omega) hf).mono ?_
      rintro _ h3 ⟨rfl, rfl⟩
      refine ⟨_, _, rfl, Chg.refl _, fun v4 q4 h4 g4 o4 => ?_⟩
      refine (Between_bad o4.bytes (by omega) hf).mono ?_
      rintro _ h5 ⟨rfl, rfl⟩
      exact ⟨_, rfl, Chg.refl _, like_nil hf⟩
  have hd : (1048576 < n ∧ n ≤ 16777216 ∧ ¬ w = 0) ∨ (decide (1048576 < n) && decide (n ≤ 16777216)) = false := by
    by_cases ha : 1048576 < n ∧ n ≤ 16777216
    · exact .inl ⟨ha.1, ha.2, fun e => hlg ⟨ha, e⟩⟩
    · right; rw [Bool.and_eq_false_iff]; simp; omega
  rcases hd with ⟨a1, a2, a3⟩ | hd
  all_goals first | simp [a1, a2, a3, r2.get (i := 0) rfl, r2.get (i := 1) rfl, r2.get (i := 2) rfl, r2.get (i := 5) rfl, r2.get (i := 6) rfl] | simp [hd, skipV, r2.get (i := 0) rfl, r2.get (i := 1) rfl, r2.get (i := 2) rfl, r2.get (i := 5) rfl, r2.get (i := 6) rfl]
  all_goals
    refine got_call main ?_
    rintro _ h3 ⟨u, f, rfl, g3, hm⟩
    have r3 := r2.grow g3
    simp [r3.get (i := 0) rfl]
    refine got_call (twin_spec (B2.reads.grow g3) hl) ?_
    rintro v4 h4 ⟨q4, o4, g4, _⟩
    have r4 := r3.grow g4
    simp [r3.get (i := 0) rfl, r3.get (i := 1) rfl, r3.get (i := 2) rfl, r3.get (i := 5) rfl, r3.get (i := 6) rfl, r4.get (i := 0) rfl, r4.get (i := 1) rfl, r4.get (i := 2) rfl, r4.get (i := 5) rfl, r4.get (i := 6) rfl]
    refine got_call (hm v4 q4 h4 g4 o4) ?_
    rintro _ h5 ⟨s, rfl, g5, hk⟩
    simp
    refine got_call hk ?_
    rintro _ _ ⟨rfl, rfl⟩
    simp
    exact hQ _ _ rfl

theorem ins_spec {h : Heap} {vB vL : Value} {bs : List (BitVec 8)} {cs : List (BitVec 64)} (rB : ArgS h vB (bs.map bv)) (rL : ArgS h vL (cs.map wv)) (hl : bs.length ≤ 140737488351232) (hcs : cs.length * 8 ≤ 140737488351232) (w n op : Int) (c lo hi : BitVec 64) :
    Gives P T (.fn F_colonnadelaw03_LanesIns) [.agg #[vB, .int .i64 w, .int .i64 n, .int .i64 op, .int .u64 (wi c), .int .u64 (wi lo), .int .u64 (wi hi), vL]] h fun r _ => r = .bool true := by
  refine gives_by t_colonnadelaw03_LanesIns (by simp [c_colonnadelaw03_LanesIns]) fun Q hQ => ?_
  simp [c_colonnadelaw03_LanesIns]
  have gb := Grow.new h [vB, .int .i64 w, .int .i64 n, .int .i64 op, .int .u64 (wi c), .int .u64 (wi lo), .int .u64 (wi hi), vL] 0
  have rb := RowAt.new h [vB, .int .i64 w, .int .i64 n, .int .i64 op, .int .u64 (wi c), .int .u64 (wi lo), .int .u64 (wi hi), vL] 0
  refine got_call known_spec ?_
  rintro _ h2 ⟨rfl, g2⟩
  have r2 := rb.grow g2
  have B2 : Bytes h2 vB bs := (rB.bytes.grow gb).grow g2
  have L2 : Reads h2 vL (cs.map wv) := (rL.reads.grow gb).grow g2
  simp [r2.get (i := 2) rfl]
  refine got_call (large_spec n) ?_
  rintro _ _ ⟨rfl, rfl⟩
  rename_i h2
  by_cases hlg : (1048576 < n ∧ n ≤ 16777216) ∧ w = 0
  · obtain ⟨⟨a1, a2⟩, rfl⟩ := hlg
    simp [a1, a2, r2.get (i := 1) rfl]
    exact hQ _ _ rfl
  have main : Gives P T (.fn F_colonnaderef03_In) [vB, .int .i64 w, .int .i64 n, vL] h2 fun r h3 => ∃ u f, r = .tuple #[u, .int .i64 f] ∧ Grow h2 h3 ∧ ∀ v4 q4 v5 q5 h4, Grow h3 h4 → Own h4 v4 q4 (bs.map bv) → Own h4 v5 q5 (cs.map wv) →
      Gives P T (.fn F_lanes_In) [v4, .int .i64 w, .int .i64 n, v5] h4 fun r h5 => ∃ s, r = .tuple #[s, .int .i64 f] ∧ Grow h4 h5 ∧ Gives P T (.fn F_colonnadelaw03_like) [s, u, .int .i64 f] h5 fun r h' => r = .bool true ∧ h' = h5 := by
    by_cases hf : faultE bs w n = 0
    · obtain ⟨w', n', rfl, rfl, G⟩ := faultE_fine hf
      refine (refIn_spec B2.reads L2 G (by omega)).mono ?_
      rintro _ h3 ⟨u, rfl, ru, g3⟩
      refine ⟨u, 0, rfl, g3, fun v4 q4 v5 q5 h4 g4 o4 o5 => ?_⟩
      refine (In_spec o4.bytes o5.reads G (by omega)).mono ?_
      rintro _ h5 ⟨p, rfl, ⟨q, ws, s, cn, hb, _, _⟩, g5⟩
      exact ⟨_, rfl, g5, like_true s cn ((ru.grow g4).grow g5) fun i hi => by rw [hb]; simp [hi]⟩
    · refine (refIn_bad B2.reads (by omega) hf).mono ?_
      rintro _ h3 ⟨rfl, rfl⟩
      refine ⟨_, _, rfl, Chg.refl _, fun v4 q4 v5 q5 h4 g4 o4 o5 => ?_⟩
      refine (In_bad o4.bytes (by omega) hf).mono ?_
      rintro _ h5 ⟨rfl, rfl⟩
      exact ⟨_, rfl, Chg.refl _, like_nil hf⟩
  have hd : (1048576 < n ∧ n ≤ 16777216 ∧ ¬ w = 0) ∨ (decide (1048576 < n) && decide (n ≤ 16777216)) = false := by
    by_cases ha : 1048576 < n ∧ n ≤ 16777216
    · exact .inl ⟨ha.1, ha.2, fun e => hlg ⟨ha, e⟩⟩
    · right; rw [Bool.and_eq_false_iff]; simp; omega
  have hg : (cs.map wv).all goodC = true := by rw [List.all_eq_true]; intro x hx; rw [List.mem_map] at hx; obtain ⟨y, _, rfl⟩ := hx; simp [wv]
  rcases hd with ⟨a1, a2, a3⟩ | hd
  all_goals first | simp [a1, a2, a3, r2.get (i := 0) rfl, r2.get (i := 1) rfl, r2.get (i := 2) rfl, r2.get (i := 7) rfl] | simp [hd, skipV, r2.get (i := 0) rfl, r2.get (i := 1) rfl, r2.get (i := 2) rfl, r2.get (i := 7) rfl]
  all_goals
    refine got_call main ?_
    rintro _ h3 ⟨u, f, rfl, g3, hm⟩
    have r3 := r2.grow g3
    obtain ⟨v5, h4, q5, e5, o5, g4, _⟩ := app_list (bytes := 8) (z := .int .u64 0) (L2.grow g3) hg (by simp; omega) (by simp; omega)
    have r4 := r3.grow g4
    simp [r3.get (i := 7) rfl, e5, r4.get (i := 0) rfl]
    refine got_call (twin_spec ((B2.reads.grow g3).grow g4) hl) ?_
    rintro v4 h6 ⟨q4, o4, g6, _⟩
    have r6 := r4.grow g6
    simp [r4.get (i := 0) rfl, r4.get (i := 1) rfl, r4.get (i := 2) rfl, r6.get (i := 0) rfl, r6.get (i := 1) rfl, r6.get (i := 2) rfl]
    refine got_call (hm v4 q4 v5 q5 h6 (g4.trans g6) o4 (o5.grow g6)) ?_
    rintro _ h5 ⟨s, rfl, g5, hk⟩
    simp
    refine got_call hk ?_
    rintro _ _ ⟨rfl, rfl⟩
    simp
    exact hQ _ _ rfl

theorem sums_spec {h : Heap} {vB vL : Value} {bs : List (BitVec 8)} (rB : ArgS h vB (bs.map bv)) (hl : bs.length ≤ 140737488351232) (w n op : Int) (c lo hi : BitVec 64) :
    Gives P T (.fn F_colonnadelaw03_LanesSums) [.agg #[vB, .int .i64 w, .int .i64 n, .int .i64 op, .int .u64 (wi c), .int .u64 (wi lo), .int .u64 (wi hi), vL]] h fun r _ => r = .bool true := by
  refine gives_by t_colonnadelaw03_LanesSums (by simp [c_colonnadelaw03_LanesSums]) fun Q hQ => ?_
  simp [c_colonnadelaw03_LanesSums]
  have gb := Grow.new h [vB, .int .i64 w, .int .i64 n, .int .i64 op, .int .u64 (wi c), .int .u64 (wi lo), .int .u64 (wi hi), vL] 0
  have rb := RowAt.new h [vB, .int .i64 w, .int .i64 n, .int .i64 op, .int .u64 (wi c), .int .u64 (wi lo), .int .u64 (wi hi), vL] 0
  refine got_call known_spec ?_
  rintro _ h2 ⟨rfl, g2⟩
  have r2 := rb.grow g2
  have B2 : Bytes h2 vB bs := (rB.bytes.grow gb).grow g2
  simp [r2.get (i := 2) rfl]
  refine got_call (large_spec n) ?_
  rintro _ _ ⟨rfl, rfl⟩
  rename_i h2
  by_cases hlg : (1048576 < n ∧ n ≤ 16777216) ∧ w = 0
  · obtain ⟨⟨a1, a2⟩, rfl⟩ := hlg
    simp [a1, a2, r2.get (i := 1) rfl]
    exact hQ _ _ rfl
  obtain ⟨s1, s2, f, m1, m2, m3⟩ : ∃ (s1 s2 f : Int), (∀ h v, Reads h v (bs.map bv) → Gives P T (.fn F_colonnaderef03_Sum) [v, .int .i64 w, .int .i64 n] h fun r h' => r = .tuple #[.int .u64 s1, .int .u64 s2, .int .i64 f] ∧ Grow h h') ∧
      (∀ h v, Bytes h v bs → Gives P T (.fn F_lanes_Sum) [v, .int .i64 w, .int .i64 n] h fun r h' => r = .tuple #[.int .u64 s1, .int .u64 s2, .int .i64 f] ∧ h' = h) ∧
      ∃ (e1 e2 : Int), (∀ h v, Reads h v (bs.map bv) → Gives P T (.fn F_colonnaderef03_Ends) [v, .int .i64 w, .int .i64 n] h fun r h' => r = .tuple #[.int .u64 e1, .int .u64 e2, .int .i64 f] ∧ Grow h h') ∧
      (∀ h v, Bytes h v bs → Gives P T (.fn F_lanes_Ends) [v, .int .i64 w, .int .i64 n] h fun r h' => r = .tuple #[.int .u64 e1, .int .u64 e2, .int .i64 f] ∧ h' = h) := by
    by_cases hf : faultE bs w n = 0
    · obtain ⟨w', n', rfl, rfl, G⟩ := faultE_fine hf
      exact ⟨_, _, 0, fun h v r => refSum_spec r G, fun h v r => Sum_spec r G, _, _, fun h v r => refEnds_spec r G, fun h v r => Ends_spec r G⟩
    · exact ⟨0, 0, faultE bs w n, fun h v r => (refSum_bad r (by omega) hf).mono fun _ _ ⟨a, b⟩ => ⟨a, by rw [b]; exact Chg.refl _⟩, fun h v r => Sum_bad r (by omega) hf, 0, 0,
        fun h v r => (refEnds_bad r (by omega) hf).mono fun _ _ ⟨a, b⟩ => ⟨a, by rw [b]; exact Chg.refl _⟩, fun h v r => Ends_bad r (by omega) hf⟩
  obtain ⟨e1, e2, m3, m4⟩ := m3
  have hd : (1048576 < n ∧ n ≤ 16777216 ∧ ¬ w = 0) ∨ (decide (1048576 < n) && decide (n ≤ 16777216)) = false := by
    by_cases ha : 1048576 < n ∧ n ≤ 16777216
    · exact .inl ⟨ha.1, ha.2, fun e => hlg ⟨ha, e⟩⟩
    · right; rw [Bool.and_eq_false_iff]; simp; omega
  rcases hd with ⟨a1, a2, a3⟩ | hd
  all_goals first | simp [a1, a2, a3, r2.get (i := 0) rfl, r2.get (i := 1) rfl, r2.get (i := 2) rfl] | simp [hd, skipV, r2.get (i := 0) rfl, r2.get (i := 1) rfl, r2.get (i := 2) rfl]
  all_goals
    refine got_call (m1 _ _ B2.reads) ?_
    rintro _ h3 ⟨rfl, g3⟩
    have r3 := r2.grow g3
    simp [r3.get (i := 0) rfl]
    refine got_call (twin_spec (B2.reads.grow g3) hl) ?_
    rintro v4 h4 ⟨q4, o4, g4, _⟩
    have r4 := r3.grow g4
    simp [r3.get (i := 0) rfl, r3.get (i := 1) rfl, r3.get (i := 2) rfl, r4.get (i := 0) rfl, r4.get (i := 1) rfl, r4.get (i := 2) rfl]
    refine got_call (m2 _ _ o4.bytes) ?_
    rintro _ _ ⟨rfl, rfl⟩
    rename_i h4
    simp [r4.get (i := 0) rfl, r4.get (i := 1) rfl, r4.get (i := 2) rfl]
    refine got_call (m3 _ _ ((B2.reads.grow g3).grow g4)) ?_
    rintro _ h5 ⟨rfl, g5⟩
    have r5 := r4.grow g5
    simp [r5.get (i := 0) rfl]
    refine got_call (twin_spec (((B2.reads.grow g3).grow g4).grow g5) hl) ?_
    rintro v6 h6 ⟨q6, o6, g6, _⟩
    have r6 := r5.grow g6
    simp [r5.get (i := 0) rfl, r5.get (i := 1) rfl, r5.get (i := 2) rfl, r6.get (i := 0) rfl, r6.get (i := 1) rfl, r6.get (i := 2) rfl]
    refine got_call (m4 _ _ o6.bytes) ?_
    rintro _ _ ⟨rfl, rfl⟩
    simp
    exact hQ _ _ rfl

theorem bytes_nil {h : Heap} : Bytes h (.slice none 0 0) [] := ⟨.inl ⟨rfl, rfl⟩, fun a n c e => by simp at e⟩

theorem cnt_const {f : Nat → Bool} {b : Bool} : ∀ n, (∀ i, i < n → f i = b) → cnt f n = if b then n else 0
  | 0, _ => by cases b <;> rfl
  | n + 1, h => by rw [cnt, cnt_const n fun i hi => h i (by omega), h n (by omega)]; cases b <;> simp

theorem empty_spec {h : Heap} (n : Int) (c : BitVec 64) : Gives P T (.fn F_colonnadelaw03_LanesEmpty) [.int .i64 n, .int .u64 (wi c)] h fun r _ => r = .bool true := by
  refine gives_by t_colonnadelaw03_LanesEmpty (by simp [c_colonnadelaw03_LanesEmpty]) fun Q hQ => ?_
  simp [c_colonnadelaw03_LanesEmpty]
  refine got_call known_spec ?_
  rintro _ h2 ⟨rfl, g2⟩
  simp
  have b0 : Bytes h2 (.slice none 0 0) [] := bytes_nil
  by_cases hn : 0 ≤ n ∧ n ≤ 16777216
  · obtain ⟨m, rfl⟩ : ∃ m : Nat, n = m := ⟨n.toNat, by omega⟩
    have G : Fine [] 0 m := ⟨by omega, by omega, by simp, fun i _ => bbit_out (by simp)⟩
    refine got_call (Test_spec (c := c) b0 G (by omega) (by omega)) ?_
    rintro _ h3 ⟨p3, rfl, s3, g3⟩
    have b3 : Bytes h3 (.slice none 0 0) [] := bytes_nil
    simp
    refine got_call (Between_spec (lo := 0#64) (hi := c) b3 G) ?_
    rintro _ h4 ⟨p4, rfl, s4, g4⟩
    have b4 : Bytes h4 (.slice none 0 0) [] := bytes_nil
    simp
    refine got_call (Sum_spec b4 G) ?_
    rintro _ _ ⟨rfl, rfl⟩
    rename_i h4
    have n1 : ¬ (m : Int) < 0 := by omega
    have n2 : ¬ 16777216 < (m : Int) := by omega
    rw [sum_zero]
    have z1 : wi (hiB 0) = 0 := rfl
    have z2 : wi (loB 0) = 0 := rfl
    obtain ⟨q3, ws3, t3, c3, bb3, _, _⟩ := s3.grow g4
    obtain ⟨q4, ws4, t4, c4, bb4, _, _⟩ := s4
    have hz : ∀ i, laneB [] 0 i = 0#64 := fun i => rfl
    have k4 : cnt (bit ws4) m = m := by
      have := cnt_const (f := bit ws4) (b := true) m fun i hi => by rw [bb4]; have := wi_nonneg c; simp [hi, hz, this]
      simpa using this
    simp [n1, n2, z1, z2, ptr]
    refine got_call (len_spec t3) ?_
    rintro _ _ ⟨rfl, rfl⟩
    simp
    refine got_call (len_spec t4) ?_
    rintro _ _ ⟨rfl, rfl⟩
    simp
    refine got_call (count_spec t4 c4) ?_
    rintro _ _ ⟨rfl, rfl⟩
    rw [k4]
    simp
    by_cases hc : c = 0#64
    · subst hc
      have k3 : cnt (bit ws3) m = 0 := by
        have := cnt_const (f := bit ws3) (b := false) m fun i hi => by rw [bb3]; simp [hi, hz, stB]
        simpa using this
      simp
      refine got_call (count_spec t3 c3) ?_
      rintro _ _ ⟨rfl, rfl⟩
      rw [k3]
      simp [skipV]
      exact hQ _ _ rfl
    · have k3 : cnt (bit ws3) m = m := by
        have := cnt_const (f := bit ws3) (b := true) m fun i hi => by
          have h1 : wi 0#64 < wi c := by have := wi_nonneg c; have h2 : ¬ wi c = 0 := fun e => hc (wi_eq_zero.1 e); rw [wi_zero]; omega
          rw [bb3]; simp only [hz, stB]; simp at h1 ⊢; simp [hi, h1]
        simpa using this
      simp [hc, skipV]
      refine got_call (count_spec t3 c3) ?_
      rintro _ _ ⟨rfl, rfl⟩
      rw [k3]
      simp
      exact hQ _ _ rfl
  · have hf : faultE [] 0 n = if n < 0 then 2 else 3 := by
      unfold faultE
      by_cases h1 : n < 0
      · simp [h1]
      · have h2 : 16777216 < n := by omega
        simp [h1, h2]
    have hf0 : ¬ faultE [] 0 n = 0 := by rw [hf]; split <;> omega
    refine got_call (Test_fault b0 (by simp) hf0) ?_
    rintro _ _ ⟨rfl, rfl⟩
    rename_i h2
    simp
    refine got_call (Between_bad (lo := 0#64) (hi := c) b0 (by simp) hf0) ?_
    rintro _ _ ⟨rfl, rfl⟩
    rename_i h2
    simp
    refine got_call (Sum_bad b0 (by simp) hf0) ?_
    rintro _ _ ⟨rfl, rfl⟩
    rw [hf]
    by_cases h1 : n < 0
    · simp [h1, skipV]
      exact hQ _ _ rfl
    · have h2 : 16777216 < n := by omega
      simp [h1, h2, skipV]
      exact hQ _ _ rfl

theorem tests_law {h : Heap} {vB vL : Value} {bs : List (BitVec 8)} (rB : ArgS h vB (bs.map bv)) (hl : bs.length ≤ 140737488351232) (w n op : Int) {c lo hi : Int} (wc : (Lit.int .u64 c).wf = true) (wl : (Lit.int .u64 lo).wf = true) (wh : (Lit.int .u64 hi).wf = true) :
    Gives P T (.fn F_colonnadelaw03_LanesTests) [.agg #[vB, .int .i64 w, .int .i64 n, .int .i64 op, .int .u64 c, .int .u64 lo, .int .u64 hi, vL]] h fun r _ => r = .bool true := by
  obtain ⟨c, rfl⟩ := u64_of wc
  obtain ⟨lo, rfl⟩ := u64_of wl
  obtain ⟨hi, rfl⟩ := u64_of wh
  exact tests_spec rB hl w n op c lo hi
theorem betweens_law {h : Heap} {vB vL : Value} {bs : List (BitVec 8)} (rB : ArgS h vB (bs.map bv)) (hl : bs.length ≤ 140737488351232) (w n op : Int) {c lo hi : Int} (wc : (Lit.int .u64 c).wf = true) (wl : (Lit.int .u64 lo).wf = true) (wh : (Lit.int .u64 hi).wf = true) :
    Gives P T (.fn F_colonnadelaw03_LanesBetweens) [.agg #[vB, .int .i64 w, .int .i64 n, .int .i64 op, .int .u64 c, .int .u64 lo, .int .u64 hi, vL]] h fun r _ => r = .bool true := by
  obtain ⟨c, rfl⟩ := u64_of wc
  obtain ⟨lo, rfl⟩ := u64_of wl
  obtain ⟨hi, rfl⟩ := u64_of wh
  exact betweens_spec rB hl w n op c lo hi
theorem sums_law {h : Heap} {vB vL : Value} {bs : List (BitVec 8)} (rB : ArgS h vB (bs.map bv)) (hl : bs.length ≤ 140737488351232) (w n op : Int) {c lo hi : Int} (wc : (Lit.int .u64 c).wf = true) (wl : (Lit.int .u64 lo).wf = true) (wh : (Lit.int .u64 hi).wf = true) :
    Gives P T (.fn F_colonnadelaw03_LanesSums) [.agg #[vB, .int .i64 w, .int .i64 n, .int .i64 op, .int .u64 c, .int .u64 lo, .int .u64 hi, vL]] h fun r _ => r = .bool true := by
  obtain ⟨c, rfl⟩ := u64_of wc
  obtain ⟨lo, rfl⟩ := u64_of wl
  obtain ⟨hi, rfl⟩ := u64_of wh
  exact sums_spec rB hl w n op c lo hi
theorem ins_law {h : Heap} {vB vL : Value} {bs : List (BitVec 8)} {cs : List (BitVec 64)} (rB : ArgS h vB (bs.map bv)) (rL : ArgS h vL (cs.map wv)) (hl : bs.length ≤ 140737488351232) (hcs : cs.length * 8 ≤ 140737488351232) (w n op : Int) {c lo hi : Int} (wc : (Lit.int .u64 c).wf = true) (wl : (Lit.int .u64 lo).wf = true) (wh : (Lit.int .u64 hi).wf = true) :
    Gives P T (.fn F_colonnadelaw03_LanesIns) [.agg #[vB, .int .i64 w, .int .i64 n, .int .i64 op, .int .u64 c, .int .u64 lo, .int .u64 hi, vL]] h fun r _ => r = .bool true := by
  obtain ⟨c, rfl⟩ := u64_of wc
  obtain ⟨lo, rfl⟩ := u64_of wl
  obtain ⟨hi, rfl⟩ := u64_of wh
  exact ins_spec rB rL hl hcs w n op c lo hi
theorem empty_law {h : Heap} (n : Int) {c : Int} (wc : (Lit.int .u64 c).wf = true) : Gives P T (.fn F_colonnadelaw03_LanesEmpty) [.int .i64 n, .int .u64 c] h fun r _ => r = .bool true := by
  obtain ⟨c, rfl⟩ := u64_of wc
  exact empty_spec n c

end Go.Ax
