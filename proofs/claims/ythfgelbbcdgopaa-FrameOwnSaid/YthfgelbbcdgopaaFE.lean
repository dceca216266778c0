/- Seat frame: the law of opening. -/
import Derived.Test.YthfgelbbcdgopaaFD
namespace Go.Ax
set_option linter.unusedVariables false
set_option linter.unusedSimpArgs false

open Classical in
/-- What opening a frame answers. -/
noncomputable def resF (bs : List (BitVec 8)) (w n : Int) : Int × List (BitVec 8) × Int :=
  if ¬ openE bs w n = 0 then (0, [], openE bs w n) else if goodF bs w.toNat n.toNat then (baseF bs, bs.drop 8, 0) else (0, [], 70)
open Classical in
noncomputable def resP (bs : List (BitVec 8)) (w n : Int) : List (BitVec 8) × Int :=
  if ¬ openP bs w n = 0 then ([], openP bs w n) else if within bs w.toNat n.toNat 0 then (bs, 0) else ([], 70)

/-- Bytes that were answered, new ones. -/
def NewB (h0 h : Heap) (u : Value) (L : List (BitVec 8)) : Prop := (u = .slice none 0 0 ∧ L = []) ∨ ∃ q, Own h u q (L.map bv) ∧ h0.dyn.length ≤ q
theorem NewB.reads {h0 h : Heap} {u : Value} {L : List (BitVec 8)} (o : NewB h0 h u L) : Reads h u (L.map bv) := by
  rcases o with ⟨rfl, rfl⟩ | ⟨q, o, _⟩
  · exact .inl ⟨rfl, rfl⟩
  · exact o.reads
theorem NewB.chg {S : Nat → Prop} {h0 h h' : Heap} {u : Value} {L : List (BitVec 8)} (o : NewB h0 h u L) (c : Chg S h h') (hs : ∀ b, h0.dyn.length ≤ b → ¬ S b) : NewB h0 h' u L := by
  rcases o with o | ⟨q, o, hq⟩
  · exact .inl o
  · exact .inr ⟨q, o.chg c (hs q hq), hq⟩

theorem F_any {h : Heap} {v : Value} {bs : List (BitVec 8)} (r : Bytes h v bs) (hl : bs.length ≤ 140737488351232) (w n : Int) :
    Gives P T (.fn F_frame_OpenFrame) [v, .int .i64 n, .int .i64 w] h fun r h' => Grow h h' ∧ ∃ u, r = .tuple #[.int .i64 (resF bs w n).1, u, .int .i64 (resF bs w n).2.2] ∧ NewB h h' u (resF bs w n).2.1 := by
  by_cases he : openE bs w n = 0
  · obtain ⟨h8, w, n, rfl, rfl, g⟩ := openE_ok he
    refine (OpenFrame_spec r hl h8 g).mono ?_
    rintro _ h' ⟨gg, ⟨hb, rfl⟩ | ⟨u, q, hg, rfl, o, hq, _⟩⟩
    · have : resF bs w n = (0, [], 70) := by unfold resF; rw [if_neg (by simpa using he), if_neg (by simpa using hb)]
      rw [this]; exact ⟨gg, _, rfl, .inl ⟨rfl, rfl⟩⟩
    · have : resF bs w n = (baseF bs, bs.drop 8, 0) := by unfold resF; rw [if_neg (by simpa using he), if_pos (by simpa using hg)]
      rw [this]; exact ⟨gg, u, rfl, .inr ⟨q, o, hq⟩⟩
  · have : resF bs w n = (0, [], openE bs w n) := by unfold resF; rw [if_pos he]
    rw [this]
    refine (OpenFrame_bad r hl he).mono ?_
    rintro _ h' ⟨rfl, rfl⟩
    exact ⟨Chg.refl _, _, rfl, .inl ⟨rfl, rfl⟩⟩

theorem refF_any {h : Heap} {v : Value} {bs : List (BitVec 8)} (r : Bytes h v bs) (hl : bs.length ≤ 140737488351232) (w n : Int) :
    Gives P T (.fn F_colonnaderef11_OpenFrame) [v, .int .i64 n, .int .i64 w] h fun r h' => Grow h h' ∧ ∃ u, r = .tuple #[.int .i64 (resF bs w n).1, u, .int .i64 (resF bs w n).2.2] ∧ NewB h h' u (resF bs w n).2.1 := by
  by_cases he : openE bs w n = 0
  · obtain ⟨h8, w, n, rfl, rfl, g⟩ := openE_ok he
    refine (refOpenFrame_spec r hl h8 g).mono ?_
    rintro _ h' ⟨gg, ⟨hb, rfl⟩ | ⟨u, q, hg, rfl, o, hq⟩⟩
    · have : resF bs w n = (0, [], 70) := by unfold resF; rw [if_neg (by simpa using he), if_neg (by simpa using hb)]
      rw [this]; exact ⟨gg, _, rfl, .inl ⟨rfl, rfl⟩⟩
    · have : resF bs w n = (baseF bs, bs.drop 8, 0) := by unfold resF; rw [if_neg (by simpa using he), if_pos (by simpa using hg)]
      rw [this]; exact ⟨gg, u, rfl, .inr ⟨q, o, hq⟩⟩
  · have : resF bs w n = (0, [], openE bs w n) := by unfold resF; rw [if_pos he]
    rw [this]
    refine (refOpenFrame_bad r hl he).mono ?_
    rintro _ h' ⟨rfl, rfl⟩
    exact ⟨Chg.refl _, _, rfl, .inl ⟨rfl, rfl⟩⟩

theorem P_any {h : Heap} {v : Value} {bs : List (BitVec 8)} (r : Bytes h v bs) (hl : bs.length ≤ 140737488351232) (w n : Int) :
    Gives P T (.fn F_frame_OpenPacked) [v, .int .i64 n, .int .i64 w] h fun r h' => Grow h h' ∧ ∃ u, r = .tuple #[u, .int .i64 (resP bs w n).2] ∧ NewB h h' u (resP bs w n).1 := by
  by_cases he : openP bs w n = 0
  · obtain ⟨w, n, rfl, rfl, g⟩ := openP_ok he
    refine (OpenPacked_spec r hl g).mono ?_
    rintro _ h' ⟨gg, ⟨hb, rfl⟩ | ⟨u, q, hg, rfl, o, hq, _⟩⟩
    · have : resP bs w n = ([], 70) := by unfold resP; rw [if_neg (by simpa using he), if_neg (by simpa using hb)]
      rw [this]; exact ⟨gg, _, rfl, .inl ⟨rfl, rfl⟩⟩
    · have : resP bs w n = (bs, 0) := by unfold resP; rw [if_neg (by simpa using he), if_pos (by simpa using hg)]
      rw [this]; exact ⟨gg, u, rfl, .inr ⟨q, o, hq⟩⟩
  · have : resP bs w n = ([], openP bs w n) := by unfold resP; rw [if_pos he]
    rw [this]
    refine (OpenPacked_bad r hl he).mono ?_
    rintro _ h' ⟨rfl, rfl⟩
    exact ⟨Chg.refl _, _, rfl, .inl ⟨rfl, rfl⟩⟩

theorem refP_any {h : Heap} {v : Value} {bs : List (BitVec 8)} (r : Reads h v (bs.map bv)) (hl : bs.length ≤ 140737488351232) (w n : Int) :
    Gives P T (.fn F_colonnaderef11_OpenPacked) [v, .int .i64 n, .int .i64 w] h fun r h' => Grow h h' ∧ ∃ u, r = .tuple #[u, .int .i64 (resP bs w n).2] ∧ NewB h h' u (resP bs w n).1 := by
  by_cases he : openP bs w n = 0
  · obtain ⟨w, n, rfl, rfl, g⟩ := openP_ok he
    refine (refOpenPacked_spec r hl g).mono ?_
    rintro _ h' ⟨gg, ⟨hb, rfl⟩ | ⟨u, q, hg, rfl, o, hq⟩⟩
    · have : resP bs w n = ([], 70) := by unfold resP; rw [if_neg (by simpa using he), if_neg (by simpa using hb)]
      rw [this]; exact ⟨gg, _, rfl, .inl ⟨rfl, rfl⟩⟩
    · have : resP bs w n = (bs, 0) := by unfold resP; rw [if_neg (by simpa using he), if_pos (by simpa using hg)]
      rw [this]; exact ⟨gg, u, rfl, .inr ⟨q, o, hq⟩⟩
  · have : resP bs w n = ([], openP bs w n) := by unfold resP; rw [if_pos he]
    rw [this]
    refine (refOpenPacked_bad r hl he).mono ?_
    rintro _ h' ⟨rfl, rfl⟩
    exact ⟨Chg.refl _, _, rfl, .inl ⟨rfl, rfl⟩⟩

theorem opens_law {h : Heap} {v : Value} {bs : List (BitVec 8)} (r : ArgS h v (bs.map bv)) (hl : bs.length ≤ 140737488351232) (w n : Int) :
    Gives P T (.fn F_colonnadelaw11_FrameOpens) [v, .int .i64 n, .int .i64 w] h fun r h' => r = .bool true := by
  refine gives_by t_colonnadelaw11_FrameOpens (by simp [c_colonnadelaw11_FrameOpens]) fun Q hQ => ?_
  obtain ⟨N, hN⟩ : ∃ N, bs.length = N := ⟨_, rfl⟩
  simp [c_colonnadelaw11_FrameOpens]
  refine got_call (bytesLent_spec r.reads hl) ?_
  rintro u h1 ⟨q, rm, g1, hq⟩
  rw [hN] at hl
  obtain ⟨uu, eu, _⟩ := rm
  have eu' := eu
  simp only [List.length_map, hN] at eu
  subst eu
  simp
  refine go_loopK (fun kk ks h2 => ∃ (k : Nat) (bs : List (BitVec 8)), kk = 2 - k ∧ k ≤ 2 ∧ ks = [(1, .int .i64 n), (2, .int .i64 w), (7, .slice (some ⟨q, 0, some uu⟩) N gcap), (8, .int .i64 k)] ∧ bs.length = N ∧ Room h2 (.slice (some ⟨q, 0, some uu⟩) N gcap) q (bs.map bv) ((marksL 66).map bv)) (n := 2)
    ⟨0, bs, rfl, by omega, rfl, hN, ⟨uu, eu', by assumption⟩⟩ (by simp) ?_
  rintro I hI kk ks e h2 ⟨k, bs, rfl, hk, rfl, hN, rm⟩
  simp
  by_cases hlt : k < 2
  · have hlt' : (k : Int) < 2 := by omega
    have e4 : IntKind.i64.wrap ((k : Int) + 1) = ((k + 1 : Nat) : Int) := by rw [wrap_i64 (by omega) (by omega)]; omega
    obtain ⟨v3, h3, q3, e3, o3, g3, hq3, _⟩ := clone_app rm.reads (by omega)
    have rm3 := rm.grow g3
    simp [hlt, hlt', e3]
    refine got_call (refF_any o3.bytes (by omega) w n) ?_
    rintro _ h4 ⟨g4, u4, rfl, n4⟩
    simp
    refine got_call (refP_any (o3.reads.grow g4) (by omega) w n) ?_
    rintro _ h5 ⟨g5, u5, rfl, n5⟩
    simp
    refine got_call (F_any (room_bytes2 ((rm3.grow g4).grow g5)) (by omega) w n) ?_
    rintro _ h6 ⟨g6, u6, rfl, n6⟩
    simp
    refine got_call (P_any (room_bytes2 (((rm3.grow g4).grow g5).grow g6)) (by omega) w n) ?_
    rintro _ h7 ⟨g7, u7, rfl, n7⟩
    simp
    refine got_call num_spec ?_
    rintro _ _ ⟨rfl, rfl⟩
    rename_i h7
    simp
    refine got_call num_spec ?_
    rintro _ _ ⟨rfl, rfl⟩
    rename_i h7
    have G := ((g4.trans g5).trans g6).trans g7
    have rm7 := rm3.grow G
    simp
    refine got_call (bytesKept_spec rm7 (o3.reads.grow G) (by omega)) ?_
    rintro _ _ ⟨rfl, rfl⟩
    rename_i h7
    have hq3l := rm3.lt
    have l4 := g4.len
    have l5 := g5.len
    have l6 := g6.len
    have N4 := ((n4.chg g5 (fun _ _ => id)).chg g6 (fun _ _ => id)).chg g7 (fun _ _ => id)
    have N5 := (n5.chg g6 (fun _ _ => id)).chg g7 (fun _ _ => id)
    have N6 := n6.chg g7 (fun _ _ => id)
    simp
    refine go_loopK (fun kk ks h8 => ∃ (j : Nat) (bs : List (BitVec 8)), kk = N - j ∧ j ≤ N ∧ ks = [(1, .int .i64 n), (2, .int .i64 w), (7, .slice (some ⟨q, 0, some uu⟩) N gcap), (8, .int .i64 k), (11, u4), (13, u5), (16, u6), (18, u7), (20, .int .i64 j)] ∧ bs.length = N ∧ Room h8 (.slice (some ⟨q, 0, some uu⟩) N gcap) q (bs.map bv) ((marksL 66).map bv) ∧ Chg (· = q) h7 h8) (n := N)
      ⟨0, bs, rfl, by omega, rfl, hN, rm7, Chg.refl _⟩ (by simp) ?_
    rintro I2 hI2 kk2 ks2 e2 h8 ⟨j, bs2, rfl, hj, rfl, hN2, rm8, c8⟩
    simp
    refine branch_dec (fun hlt2 => ?_) (fun hge2 => ?_)
    · have hjN : j < N := by omega
      have e5 : IntKind.i64.wrap ((j : Int) + 1) = ((j + 1 : Nat) : Int) := by rw [wrap_i64 (by omega) (by omega)]; omega
      have t1 := tmod_nat j 2
      obtain ⟨m, hm⟩ : ∃ m, j % 2 = m := ⟨_, rfl⟩
      rw [hm] at t1
      simp only [Int.cast_ofNat_Int] at t1
      have t2 : IntKind.i64.wrap (1 + (m : Int)) = ((1 + m : Nat) : Int) := by rw [wrap_i64 (by omega) (by omega)]; omega
      obtain ⟨m1, hm1⟩ : ∃ x, 1 + m = x := ⟨_, rfl⟩
      rw [hm1] at t2
      have t3 := wrap8_bi (m1 : Int)
      obtain ⟨y, hy⟩ : ∃ y, BitVec.ofInt 8 (m1 : Int) = y := ⟨_, rfl⟩
      rw [hy] at t3
      obtain ⟨u2, h9, ev2, es, rm9, c9, n9⟩ := rm8.set (i := j) (by simp; omega) (x := .int .u8 (bi (byteA bs2 j ^^^ y))) (by simp)
      have hu : uu = u2 := by simp at ev2; exact ev2.1
      subst hu
      have hld : hload h8 ⟨q, j, some uu⟩ = some (.int .u8 (bi (byteA bs2 j))) := by
        obtain ⟨u3, e3, r3⟩ := rm8
        have : u3 = uu := by simp at e3; exact e3.1.symm
        subst this
        exact r3.get (by rw [List.getElem?_append_left (by simp; omega)]; exact bv_get (by omega))
      simp [hjN, hld, t1, t2, t3, es, e5]
      refine ⟨N - (j + 1), by omega, hI2 _ _ _ _ ⟨j + 1, bs2.set j (byteA bs2 j ^^^ y), rfl, by omega, rfl, by simpa using hN2, ?_, c8.trans c9⟩ (by simp)⟩
      rw [List.map_set]; exact rm9
    · have hjN : j = N := by omega
      subst hjN
      have R4 := (N4.chg c8 (fun b hb => by omega)).reads
      have R5 := (N5.chg c8 (fun b hb => by omega)).reads
      have R6 := (N6.chg c8 (fun b hb => by omega)).reads
      have R7 := (n7.chg c8 (fun b hb => by omega)).reads
      simp [b2s_reads R4, b2s_reads R5, b2s_reads R6, b2s_reads R7, e4]
      exact ⟨2 - (k + 1), by omega, hI _ _ _ _ ⟨k + 1, bs2, rfl, by omega, rfl, hN2, rm8⟩ (by simp)⟩
  · have hk2 : k = 2 := by omega
    subst hk2
    simp
    exact hQ _ _ rfl

end Go.Ax
