/- Seat bits: the law BitsWalks, over the abstract machine. -/
import Derived.Test.YtpemffaclmpnnaaDoorYV
namespace Go.Ax
open Go.Proofs
set_option linter.unusedVariables false
set_option linter.unusedSimpArgs false
set_option maxRecDepth 100000

set_option maxHeartbeats 4000000 in
theorem walks_law (L : Nat → Nat → Option Value) {v0 v1 : Value} {bs : List Bool} {ts : List Int} (r0 : ArgS (heap0 (roBlk tabG L)) v0 (bs.map .bool)) (r1 : ArgS (heap0 (roBlk tabG L)) v1 (ts.map (Value.int .i64))) (hl0 : bs.length ≤ 140737488351232) (hl1 : ts.length * 8 ≤ 140737488351232) :
    Gives P T (.fn F_colonnadelaw01_BitsWalks) [v0, v1] (heap0 (roBlk tabG L)) fun v _ => v = .bool true := by
  obtain ⟨b0, c0, ev0, _⟩ := r0.reads.shape
  obtain ⟨b1, c1, ev1, _⟩ := r1.reads.shape
  simp only [List.length_map] at ev0 ev1
  obtain ⟨n, hn⟩ : ∃ n, bs.length = n := ⟨_, rfl⟩
  obtain ⟨m, hm⟩ : ∃ m, ts.length = m := ⟨_, rfl⟩
  rw [hn] at ev0 hl0
  rw [hm] at ev1 hl1
  subst ev0
  subst ev1
  refine gives_by t_colonnadelaw01_BitsWalks (by simp [c_colonnadelaw01_BitsWalks]) fun Q hQ => ?_
  simp [c_colonnadelaw01_BitsWalks]
  refine got_call (awake3_spec L _ _) ?_
  rintro _ h1 ⟨rfl, ro1, rb0, rb1, rb2⟩
  have R0 : ∀ h, h.ro = roBlk tabG L → Reads h (.slice b0 n c0) (bs.map .bool) := fun h e => (r0.ro (h' := h) e).reads
  have R1 : ∀ h, h.ro = roBlk tabG L → Reads h (.slice b1 m c1) (ts.map (Value.int .i64)) := fun h e => (r1.ro (h' := h) e).reads
  have h0len : (heap0 (roBlk tabG L)).dyn.length = 0 := rfl
  simp [h0len, rb0.get (i := 0) rfl]
  by_cases hbig : 16777216 < n
  · have hbig' : (16777216 : Int) < n := by omega
    refine got_call (Of_big (R0 h1 ro1) (by omega)) ?_
    rintro _ _ ⟨rfl, rfl⟩
    rename_i h1
    obtain ⟨h2, e2, _, c2, _⟩ := (RowAt.new h1 [.pointer none] 0).put (y := .pointer none) (by simp)
    have rb0' := (rb0.grow (Grow.new h1 [.pointer none] 0)).chg c2 (by have := rb2.lt; omega)
    have rb2' := (rb2.grow (Grow.new h1 [.pointer none] 0)).chg c2 (by have := rb2.lt; omega)
    obtain ⟨h3, e3, rb3, _, _⟩ := rb2'.put (y := .bool true) (by simp)
    simp [e2, hload_lt, (RowAt.get (i := 0) ‹RowAt h2 h1.dyn.length 0 0 [.pointer none]› rfl), rb0'.get (i := 0) rfl, hbig', e3]
    exact ⟨_, res_cell (by simp) (rb3.get (i := 0) rfl), hQ _ _ rfl⟩
  refine got_call (Of_spec (R0 h1 ro1) (by omega)) ?_
  rintro _ h2 ⟨p, q, ws, rfl, s2, cn, hb, g2, hp, hq⟩
  rw [hn] at s2 cn
  have l1 := rb2.lt
  have l2 := g2.len
  have pl := s2.pl
  have ql := s2.ql
  obtain ⟨h3, e3, rb5, c3, n3⟩ := (RowAt.new h2 [.pointer none] 0).put (y := .pointer (some ⟨p, 0, some 0⟩)) (by simp)
  have g3 : Grow h2 h3 := (Grow.new h2 [.pointer none] 0).after c3 fun b hb e => by omega
  simp [ptr, e3, rb5.get (i := 0) rfl]
  refine got_call (All_spec (by simp)) ?_
  rintro _ _ ⟨rfl, rfl⟩
  obtain ⟨dc, hdc⟩ : ∃ d, h3.dyn.length = d := ⟨_, rfl⟩
  obtain ⟨h4, hh4⟩ : ∃ x, x = hnew h3 [.pointer (some ⟨p, 0, some 0⟩)] 0 := ⟨_, rfl⟩
  have rbc : RowAt h4 dc 0 0 [ptr p] := by rw [hh4, ← hdc]; exact RowAt.new _ _ _
  have g4 : Grow h3 h4 := by rw [hh4]; exact Grow.new _ _ _
  have n4 : h4.dyn.length = dc + 1 := by rw [hh4, ← hdc]; simp
  rw [← hh4, hdc]
  obtain ⟨h5, e5, rb6, c5, n5⟩ := (RowAt.new h4 [.nilFunc] 0).put (y := allV dc) (by simp [allV])
  have g5 : Grow h4 h5 := (Grow.new h4 [.nilFunc] 0).after c5 fun b hb e => by omega
  simp only [allV] at e5 rb6
  simp [e5, rb6.get (i := 0) rfl]
  obtain ⟨q', s2', hql, hq'⟩ := s2.norm'
  obtain ⟨d5, hd5⟩ : ∃ d, h2.dyn.length = d := ⟨_, rfl⟩
  obtain ⟨d6, hd6⟩ : ∃ d, h4.dyn.length = d := ⟨_, rfl⟩
  obtain ⟨d7, hd7⟩ : ∃ d, h5.dyn.length = d := ⟨_, rfl⟩
  obtain ⟨h7, hh7⟩ : ∃ x, x = hnew (hnew h5 [.slice none 0 0] 0) [.slice none 0 0] 0 := ⟨_, rfl⟩
  have g7 : Grow h5 h7 := by rw [hh7]; exact (Grow.new _ _ _).trans (Grow.new _ _ _)
  have rb7 : RowAt h7 d7 0 0 [nilS] := by rw [hh7, ← hd7]; exact (RowAt.new _ _ _).grow (Grow.new _ _ _)
  have rb8 : RowAt h7 (d7 + 1) 0 0 [nilS] := by
    have := RowAt.new (hnew h5 [.slice none 0 0] 0) [.slice none 0 0] 0
    rw [hh7, ← hd7]; simpa [nilS] using this
  have n3' : h3.dyn.length = d5 + 1 := by rw [n3]; simp [hd5]
  have n5' : h5.dyn.length = d6 + 1 := by rw [n5]; simp [hd6]
  rw [hd5] at rb5 hql
  rw [hd6] at rb6
  have k7 := g7.len
  have W0 : WSt h7 (.slice b0 n c0) (.slice b1 m c1) p q' n d5 dc d6 d7 (d7 + 1) ws nilS nilS 0 0 [] [] :=
    ⟨(((((rb0.grow g2).grow g3).grow g4).grow g5).grow g7), (((((rb1.grow g2).grow g3).grow g4).grow g5).grow g7), (((((rb2.grow g2).grow g3).grow g4).grow g5).grow g7), ((rb5.grow g4).grow g5).grow g7, (rbc.grow g5).grow g7, rb6.grow g7, rb7, rb8,
      (((s2'.grow g3).grow g4).grow g5).grow g7, cn, .inl ⟨rfl, rfl⟩, .inl ⟨rfl, rfl⟩, by omega, by omega, by omega, by omega, by omega, by omega, by omega, by omega, fun h => absurd rfl h, fun h => absurd rfl h, fun h => absurd rfl h⟩
  have ro7 : h7.ro = roBlk tabG L := by rw [g7.ro, g5.ro, g4.ro, g3.ro, g2.ro, ro1]
  have l6 := W0.b6.get (i := 0) rfl
  simp only [allV] at l6
  rw [← hh7]
  simp [hd5, hd6, hd7, l6]
  refine go_walk (L := L) ro7 (p := p) (q := q') (n := n) (ws := ws) (box := ⟨dc, 0, some 0⟩) (by simp) (W0.bc.get (i := 0) rfl) W0.s W0.cn
    (fun w k h' => h'.ro = roBlk tabG L ∧ (ws ≠ [] → w < h'.dyn.length) ∧ d7 + 1 < w ∧ ∃ ws' ul ql x, cnt (bit ws) x = k ∧ WSt h' (.slice b0 n c0) (.slice b1 m c1) p q' n d5 dc d6 d7 (d7 + 1) ws' ul nilS ql 0 (iL (filt (bit ws) x)) [] ∧ (ul ≠ nilS → ql ≠ w))
    (fun e h' => False) (fun w k h' m ⟨j1, j2, j3, ws', ul, ql, x, j4, j5, j6⟩ => ⟨j1, j2, j3, ws', ul, ql, x, j4, j5.growL (growL_lps _ _), j6⟩) (fun e h' m j => j)
    (fun w h' g hw hwl => ⟨g.ro.trans ro7, hwl, by have := W0.lt; omega, ws, nilS, 0, 0, rfl, W0.growL g, fun h => absurd rfl h⟩) (fun x => [(9, x), (30, x)]) (fun x h' => by simp) ?_ ?_ (fun e h' _ st => st.elim)
  · -- a round of the first walk
    rintro w k x h' hw hxn hbx hck ⟨ro', hwl, hw8, ws', ul, ql, y, hy, W, hlw⟩ ro'' lp lpl
    rw [filt_eq (hy.trans hck.symm)] at W
    have hwsne : ws ≠ [] := by
      rintro rfl
      simp [bit, word] at hbx
    have hwl := hwl hwsne
    have hcx := cnt_le (bit ws) x
    have hlen : (filt (bit ws) x).length = k := by rw [filt_len, hck]
    have hn16 := cn.le
    obtain ⟨u, h8, h9, ql2, e8, gu, e9, W9, C9, dl9⟩ := W.pushL (x := .int .i64 (x : Nat)) (by simp) (by rw [iL_len]; omega)
    have lu : ∀ h, lenR h u = some (.int .i64 (k + 1 : Nat), h) := fun h => by
      obtain ⟨b, cc, e, _⟩ := W9.ol.shape
      rw [e]; simp [iL_len, hlen]
    have ro9 : h9.ro = roBlk tabG L := C9.ro.trans ro'
    have f1 : ¬ (n : Int) < (k : Int) + 1 := by omega
    simp [W.b7.get (i := 0) rfl, e8, gu, e9, W9.b7.get (i := 0) rfl, lu, W9.b0.get (i := 0) rfl, W9.b1.get (i := 0) rfl, f1]
    have w9 : h9.dyn[w]? = h'.dyn[w]? := C9.same w hwl (by
      rintro (⟨h3, h4⟩ | h3)
      · exact hlw h4 h3.symm
      · omega)
    have hq2w : u ≠ nilS → ql2 ≠ w := fun _ e => by
      rcases dl9 with ⟨h3, h4⟩ | h3
      · exact hlw h4 (by omega)
      · omega
    have k9 := C9.len
    have w9l : w < h9.dyn.length := by omega
    have hcnt : cnt (bit ws) (x + 1) = k + 1 := by rw [cnt_step, hck, hbx]; rfl
    have hfl : iL (filt (bit ws) x) ++ [Value.int .i64 (x : Nat)] = iL (filt (bit ws) (x + 1)) := by rw [filt_step, hbx, if_pos rfl, iL_app]
    rw [hfl] at W9
    by_cases hkm : k + 1 ≤ m
    · have hkm' : (k : Int) + 1 ≤ m := by omega
      have n0 : 0 < n := by omega
      obtain ⟨bb, cc, ev, hr1⟩ := (R1 h9 ro9).shape
      simp only [List.length_map, hm, Value.slice.injEq] at ev hr1
      obtain ⟨rfl, _, rfl⟩ := ev
      obtain ⟨a1, rfl, hla⟩ := hr1 k (by omega)
      have hld := hla k (.int .i64 (ts.getD k 0)) (by rw [List.getElem?_map, List.getElem?_eq_getElem (by omega), List.getD_eq_getElem?_getD, List.getElem?_eq_getElem (by omega)]; rfl)
      have e6 : IntKind.i64.wrap (k : Int) = k := wrap_i64 (by omega) (by omega)
      have hkm3 : k < m := by omega
      simp [hkm', n0, e6, hkm3, hld, W9.b7.get (i := 0) rfl, lu, W9.b0.get (i := 0) rfl, W9.b1.get (i := 0) rfl]
      refine got_call (pickW_spec (ts.getD k 0) n0 (by omega)) ?_
      rintro _ _ ⟨rfl, rfl⟩
      rename_i h9
      have hpos := Int.emod_nonneg (ts.getD k 0) (show (n : Int) ≠ 0 by omega)
      have hlt := Int.emod_lt_of_pos (ts.getD k 0) (show (0 : Int) < n by omega)
      obtain ⟨at_, hat⟩ : ∃ z, (ts.getD k 0 % (n : Int)).toNat = z := ⟨_, rfl⟩
      have hatn : at_ < n := by omega
      rw [hat]
      have l5 := W9.b5.get (i := 0) rfl
      simp only [ptr] at l5
      simp [l5, pushP_in, hkm', n0, e6, hkm3, hld, W9.b7.get (i := 0) rfl, lu, W9.b0.get (i := 0) rfl, W9.b1.get (i := 0) rfl]
      refine got_call (get_spec W9.s W9.cn _) ?_
      rintro _ _ ⟨rfl, rfl⟩
      rename_i h9
      simp [l5, pushP_in]
      refine got_call (Put_spec W9.s W9.cn hatn _) ?_
      rintro _ h10 ⟨rfl, ws2, S10, C10, hb10, c10⟩
      have W10 := W9.turn S10 C10 c10
      have ro10 : h10.ro = roBlk tabG L := c10.ro.trans ro9
      have hqw : w ≠ q' := by have := W9.o4; have := W9.o5; have := W9.o6; have := W9.o7; omega
      have w10 := c10.same w w9l hqw
      have k10 := c10.len
      have l6 := W10.b6.get (i := 0) rfl
      simp only [allV] at l6
      simp [l6]
      refine nest_walk ro10 (by decide) (by simp) (W10.bc.get (i := 0) rfl) W10.s W10.cn ?_
      rintro h11 e (rfl | rfl) g11 lp11 r11
      all_goals
        simp
        exact ⟨r11.trans ro10 |>.trans ro'.symm, (g11.same w (by simp; omega) id).trans (w10.trans w9), ((LP.of C9).trans (LP.of c10)).trans lp11, r11.trans ro10, by have := g11.len; simp at this; omega, hw8, ws2, u, ql2, x + 1, hcnt, W10.growL g11, hq2w⟩
    · have hkm' : ¬ (k : Int) + 1 ≤ m := by omega
      have l6 := W9.b6.get (i := 0) rfl
      simp only [allV] at l6
      simp [hkm', l6, skipV]
      refine nest_walk ro9 (by decide) (by simp) (W9.bc.get (i := 0) rfl) W9.s W9.cn ?_
      rintro h10 e (rfl | rfl) g10 lp10 r10
      all_goals
        simp
        exact ⟨r10.trans ro9 |>.trans ro'.symm, (g10.same w w9l id).trans w9, (LP.of C9).trans lp10, r10.trans ro9, by have := g10.len; simp at this; omega, hw8, ws', u, ql2, x + 1, hcnt, W9.growL g10, hq2w⟩
  -- what was told
  rintro w h8 ⟨ro8, -, -, ws1, ul, ql, y, hy, W8, -⟩ lp8 _
  have hfy : filt (bit ws) y = filt (bit ws) n := filt_eq hy
  rw [hfy] at W8
  have hn16 := cn.le
  have env8 : ∀ h i, h.ro = roBlk tabG L → i < n → ∃ a, b0 = some a ∧ hload h (aadd a i) = some (.bool (hold bs i)) := fun h i e hi => by
    obtain ⟨bb, cc, ev, hr1⟩ := (R0 h e).shape
    simp only [List.length_map, hn, Value.slice.injEq] at ev hr1
    obtain ⟨a, ha, hla⟩ := hr1 i hi
    exact ⟨a, ev.1.trans ha, hla i _ (hold_get (by omega))⟩
  simp
  refine go_loopK (fun k ks h9 => ∃ (i qw : Nat) (uw : Value), k = n - i ∧ i ≤ n ∧ ks = [(2, .pointer (some ⟨0, 0, some 0⟩)), (4, .pointer (some ⟨2, 0, some 0⟩)), (5, .pointer (some ⟨d5, 0, some 0⟩)), (6, .pointer (some ⟨d6, 0, some 0⟩)), (7, .pointer (some ⟨d7, 0, some 0⟩)), (8, .pointer (some ⟨d7 + 1, 0, some 0⟩)), (11, uw), (12, .int .i64 i)] ∧
      Own h9 uw qw (iL (filt (hold bs) i)) ∧ Grow h8 h9 ∧ h8.dyn.length ≤ qw) (n := n)
    ⟨0, h8.dyn.length, nilS, rfl, by omega, rfl, .inl ⟨rfl, rfl⟩, Chg.refl _, Nat.le_refl _⟩ (by simp [nilS]) ?_
  rintro I hI k ks e h9 ⟨i, qw, uw, rfl, hi, rfl, ow, gg, hqw⟩
  have W9 := W8.growL gg.l
  have ro9 : h9.ro = roBlk tabG L := gg.ro.trans ro8
  simp [W9.b0.get (i := 0) rfl]
  refine branch_dec (fun hlt => ?_) (fun hge => ?_)
  · have hin : i < n := by omega
    have e4 : IntKind.i64.wrap ((i : Int) + 1) = ((i + 1 : Nat) : Int) := by rw [wrap_i64 (by omega) (by omega)]; omega
    obtain ⟨a, rfl, hla⟩ := env8 h9 i ro9 hin
    have hfs := filt_step (hold bs) i
    have hle : (filt (hold bs) i).length ≤ i := by rw [filt_len]; exact cnt_le _ _
    cases hb' : hold bs i with
    | true =>
      rw [hb'] at hla hfs
      obtain ⟨v', h10, q10, e10, o10, c10, l10, d10⟩ := ow.push (bytes := 8) (z := .int .i64 0) (x := .int .i64 (i : Nat)) (by simp) (by rw [iL_len]; omega) (by rw [iL_len]; omega)
      rw [← iL_app] at o10
      rw [if_pos rfl] at hfs
      rw [← hfs] at o10
      simp [W9.b0.get (i := 0) rfl, hin, hla, e10, e4]
      refine ⟨n - (i + 1), by omega, hI _ _ _ _ ⟨i + 1, q10, v', rfl, by omega, rfl, o10, gg.after c10 (fun b hb e => by have := e.1; omega), ?_⟩ (by simp)⟩
      have := gg.len
      rcases d10 with ⟨h3, _⟩ | h3 <;> omega
    | false =>
      rw [hb'] at hla hfs
      simp only [Bool.false_eq_true, if_false] at hfs
      simp [W9.b0.get (i := 0) rfl, hin, hla, e4]
      exact ⟨n - (i + 1), by omega, hI _ _ _ _ ⟨i + 1, qw, uw, rfl, by omega, rfl, by rw [hfs]; exact ow, gg, hqw⟩ (by simp)⟩
  have hin : i = n := by omega
  have hcs : filt (hold bs) i = filt (bit ws) n := by rw [hin]; exact filt_congr n fun j _ => (hb j).symm
  rw [hcs] at ow
  have hle : (filt (bit ws) n).length ≤ n := by rw [filt_len]; exact cnt_le _ _
  simp [W9.b7.get (i := 0) rfl]
  refine got_call (sameInts_spec W9.ol.reads ow.reads (by omega)) ?_
  rintro _ _ ⟨rfl, rfl⟩
  rename_i h9
  have l6 := W9.b6.get (i := 0) rfl
  simp only [allV] at l6
  simp [l6]
  -- the second walk
  refine go_walk (L := L) ro9 (p := p) (q := q') (n := n) (ws := ws1) (box := ⟨dc, 0, some 0⟩) (by simp) (W9.bc.get (i := 0) rfl) W9.s W9.cn
    (fun w k h' => h'.ro = roBlk tabG L ∧ (ws1 ≠ [] → w < h'.dyn.length) ∧ d7 + 1 < w ∧ ∃ um qm x, cnt (bit ws1) x = k ∧ WSt h' (.slice b0 n c0) (.slice b1 m c1) p q' n d5 dc d6 d7 (d7 + 1) ws1 ul um ql qm (iL (filt (bit ws) n)) (iL (filt (bit ws1) x)) ∧ (um ≠ nilS → qm ≠ w))
    (fun e h' => False) (fun w k h' m ⟨j1, j2, j3, um, qm, x, j4, j5, j6⟩ => ⟨j1, j2, j3, um, qm, x, j4, j5.growL (growL_lps _ _), j6⟩) (fun e h' m j => j)
    (fun w h' g hw hwl => ⟨g.ro.trans ro9, hwl, by have := W9.lt; omega, nilS, 0, 0, rfl, W9.growL g, fun h => absurd rfl h⟩) (fun x => [(13, x), (88, x)]) (fun x h' => by simp) ?_ ?_ (fun e h' _ st => st.elim)
  · rintro w k x h' hw hxn hbx hck ⟨ro', hwl, hw8, um, qm, y, hy, W, hlw⟩ ro'' lp lpl
    rw [filt_eq (hy.trans hck.symm)] at W
    have hwsne : ws1 ≠ [] := by
      rintro rfl
      simp [bit, word] at hbx
    have hwl := hwl hwsne
    have hcx := cnt_le (bit ws1) x
    have hlen : (filt (bit ws1) x).length = k := by rw [filt_len, hck]
    obtain ⟨u, h10, h11, qm2, e10, gu, e11, W11, C11, dl11⟩ := W.pushM (x := .int .i64 (x : Nat)) (by simp) (by rw [iL_len]; omega)
    have lu : ∀ h, lenR h u = some (.int .i64 (k + 1 : Nat), h) := fun h => by
      obtain ⟨b, cc, e, _⟩ := W11.om.shape
      rw [e]; simp [iL_len, hlen]
    have ro11 : h11.ro = roBlk tabG L := C11.ro.trans ro'
    have f1 : ¬ (n : Int) < (k : Int) + 1 := by omega
    have w11 : h11.dyn[w]? = h'.dyn[w]? := C11.same w hwl (by
      rintro (⟨h3, h4⟩ | h3)
      · exact hlw h4 h3.symm
      · omega)
    have hq2w : u ≠ nilS → qm2 ≠ w := fun _ e => by
      rcases dl11 with ⟨h3, h4⟩ | h3
      · exact hlw h4 (by omega)
      · omega
    have k11 := C11.len
    have hcnt : cnt (bit ws1) (x + 1) = k + 1 := by rw [cnt_step, hck, hbx]; rfl
    have hfl : iL (filt (bit ws1) x) ++ [Value.int .i64 (x : Nat)] = iL (filt (bit ws1) (x + 1)) := by rw [filt_step, hbx, if_pos rfl, iL_app]
    rw [hfl] at W11
    simp [W.b8.get (i := 0) rfl, e10, gu, e11, W11.b8.get (i := 0) rfl, lu, W11.b0.get (i := 0) rfl, f1]
    exact ⟨ro11.trans ro'.symm, w11, LP.of C11, ro11, by omega, hw8, u, qm2, x + 1, hcnt, W11, hq2w⟩
  rintro w h10 ⟨ro10, -, -, um, qm, y, hy, W10, -⟩ lp10 _
  rw [filt_eq hy] at W10
  simp
  refine go_loopK (fun k ks h11 => ∃ (i qw : Nat) (uw : Value), k = n - i ∧ i ≤ n ∧ ks = [(2, .pointer (some ⟨0, 0, some 0⟩)), (4, .pointer (some ⟨2, 0, some 0⟩)), (5, .pointer (some ⟨d5, 0, some 0⟩)), (8, .pointer (some ⟨d7 + 1, 0, some 0⟩)), (14, uw), (15, .int .i64 i)] ∧
      Own h11 uw qw (iL (filt (bit ws1) i)) ∧ Grow h10 h11 ∧ h10.dyn.length ≤ qw) (n := n)
    ⟨0, h10.dyn.length, nilS, rfl, by omega, rfl, .inl ⟨rfl, rfl⟩, Chg.refl _, Nat.le_refl _⟩ (by simp [nilS]) ?_
  rintro I hI k ks e h11 ⟨j, qw, uw, rfl, hj, rfl, ow2, gg2, hqw2⟩
  have W11 := W10.growL gg2.l
  simp [W11.b0.get (i := 0) rfl]
  refine branch_dec (fun hlt => ?_) (fun hge => ?_)
  · have hjn : j < n := by omega
    have e4 : IntKind.i64.wrap ((j : Int) + 1) = ((j + 1 : Nat) : Int) := by rw [wrap_i64 (by omega) (by omega)]; omega
    have hfs := filt_step (bit ws1) j
    have hle : (filt (bit ws1) j).length ≤ j := by rw [filt_len]; exact cnt_le _ _
    have l5 := W11.b5.get (i := 0) rfl
    simp only [ptr] at l5
    simp [l5]
    refine got_call (get_spec W11.s W11.cn _) ?_
    rintro _ _ ⟨rfl, rfl⟩
    rename_i h11
    cases hb' : bit ws1 j with
    | true =>
      rw [hb', if_pos rfl] at hfs
      obtain ⟨v', h12, q12, e12, o12, c12, l12, d12⟩ := ow2.push (bytes := 8) (z := .int .i64 0) (x := .int .i64 (j : Nat)) (by simp) (by rw [iL_len]; omega) (by rw [iL_len]; omega)
      rw [← iL_app, ← hfs] at o12
      simp [hb', e12, e4]
      refine ⟨n - (j + 1), by omega, hI _ _ _ _ ⟨j + 1, q12, v', rfl, by omega, rfl, o12, gg2.after c12 (fun b hb e => by have := e.1; omega), ?_⟩ (by simp)⟩
      have := gg2.len
      rcases d12 with ⟨h3, _⟩ | h3 <;> omega
    | false =>
      rw [hb'] at hfs
      simp only [Bool.false_eq_true, if_false] at hfs
      simp [hb', e4]
      exact ⟨n - (j + 1), by omega, hI _ _ _ _ ⟨j + 1, qw, uw, rfl, by omega, rfl, by rw [hfs]; exact ow2, gg2, hqw2⟩ (by simp)⟩
  have hjn : j = n := by omega
  rw [hjn] at ow2
  have hle2 : (filt (bit ws1) n).length ≤ n := by rw [filt_len]; exact cnt_le _ _
  simp [W11.b8.get (i := 0) rfl]
  refine got_call (sameInts_spec W11.om.reads ow2.reads (by omega)) ?_
  rintro _ _ ⟨rfl, rfl⟩
  obtain ⟨h12, e12, rb12, _, _⟩ := W11.b2.put (y := .bool true) (by simp)
  simp [e12]
  exact ⟨_, res_cell (by simp) (rb12.get (i := 0) rfl), hQ _ _ rfl⟩

end Go.Ax
