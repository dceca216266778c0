/- Seat pack: new memory (the law PackOwn). -/
import Derived.Test.YtigjihomdnkepaaPJ
namespace Go.Ax
open Go.Proofs
set_option linter.unusedVariables false
set_option linter.unusedSimpArgs false

theorem Unpack_own {h : Heap} {v : Value} {bs : List (BitVec 8)} (r : Bytes h v bs) {w n : Nat} (g : Fine bs w n) :
    Gives P T (.fn F_pack_Unpack_uint64) [v, .int .i64 w, .int .i64 n] h fun r h' => Grow h h' ∧ ((¬ lanesFit bs w n 64 ∧ r = .tuple #[.slice none 0 0, .int .i64 21]) ∨ ∃ u q, lanesFit bs w n 64 ∧ r = .tuple #[u, .int .i64 0] ∧ Own h' u q ((lanesL bs w n).map (kv .u64)) ∧ h.dyn.length ≤ q ∧ u ≠ nilS) := by
  obtain ⟨b, c, ev, hr⟩ := r.reads.shape
  simp only [List.length_map] at hr ev
  have hw := g.wle
  have hn := g.nle
  have hm : 0 ≤ (w : Int) ∧ (w : Int) ≤ 64 := by omega
  refine gives_by t_pack_Unpack_uint64 (by simp [c_pack_Unpack_uint64]) fun Q hQ => ?_
  simp [c_pack_Unpack_uint64]
  refine got_call (may_spec _) ?_
  rintro _ _ ⟨rfl, rfl⟩
  rename_i h
  simp [hm]
  refine got_call (Bytes_spec hn hw) ?_
  rintro _ _ ⟨rfl, rfl⟩
  rename_i h
  obtain ⟨N, hN⟩ : ∃ N, bs.length = N := ⟨_, rfl⟩
  rw [hN] at ev
  have hlen : ∀ h, lenR h v = some (.int .i64 N, h) := fun h => by rw [ev]; simp
  have hb1 : n * w ≤ 16777216 * 64 := Nat.mul_le_mul hn hw
  have hgl := g.len
  obtain ⟨a, ha⟩ : ∃ a, n * w = a := ⟨_, rfl⟩
  obtain ⟨B, hB⟩ : ∃ B, (a + 7) / 8 = B := ⟨_, rfl⟩
  have f0 : (n : Int) * w = (a : Int) := by rw [← ha, Int.natCast_mul]
  rw [ha, hB, hN] at hgl
  subst hgl
  rw [ha, hB]
  have hout := g.out
  rw [ha] at hout
  have f1 : IntKind.i64.wrap (a : Int) = a := wrap_i64 (by omega) (by omega)
  have hwd : wordB bs a = 0#64 := by rw [word_any (by omega), anyFrom_false]; exact hout
  simp [hlen, f0, f1]
  refine got_call (Word_spec r (by omega) (by omega)) ?_
  rintro _ _ ⟨rfl, rfl⟩
  rename_i h
  have hmk : mkSR h 1 8 [.int .u64 0] (.int .i64 0) (.int .i64 n) = some (.slice (some (hnext h)) 0 n, hnew h (List.replicate n (.int .u64 0)) 1) := by
    unfold mkSR
    simp only
    rw [if_pos ⟨by omega, by omega, by omega, by omega, rfl⟩]
    have : ∀ n, (List.replicate n [Value.int .u64 0]).flatten = List.replicate n (.int .u64 0) := by
      intro n
      induction n with
      | zero => rfl
      | succ n ih => rw [List.replicate_succ, List.flatten_cons, ih]; rfl
    simp [this]
  simp [hwd, hmk]
  have own0 : Own (hnew h (List.replicate n (.int .u64 0)) 1) (.slice (some ⟨h.dyn.length, 0, some 0⟩) 0 n) h.dyn.length ((lanesL bs w 0).map (kv .u64)) :=
    .inr (.inr ⟨0, List.replicate n (.int .u64 0), by simp [lanesL], by simp [lanesL]; unfold gcap; omega, by simpa [lanesL] using RowAt.new h (List.replicate n (.int .u64 0)) 1⟩)
  refine go_loopK (fun kk ks h2 => ∃ (i : Nat) (u : Value) (q : Nat), kk = n - i ∧ i ≤ n ∧ ks = [(0, v), (1, .int .i64 w), (10, u), (45, .int .i64 n), (46, .int .i64 i)] ∧ Own h2 u q ((lanesL bs w i).map (kv .u64)) ∧ Grow h h2 ∧ h.dyn.length ≤ q ∧ lanesFit bs w i 64 ∧ u ≠ nilS) (n := n)
    ⟨0, _, h.dyn.length, rfl, by omega, rfl, own0, Grow.new _ _ _, Nat.le_refl _, fun x hx => by omega, by simp [nilS]⟩ (by simp) ?_
  rintro I2 hI2 kk2 ks2 e2 h4 ⟨i, u, q, rfl, hi, rfl, ow, gg, hq, hfit, hune⟩
  simp
  refine branch_dec (fun hlt2 => ?_) (fun hge2 => ?_)
  · have hin : i < n := by omega
    have e4 : IntKind.i64.wrap ((i : Int) + 1) = ((i + 1 : Nat) : Int) := by rw [wrap_i64 (by omega) (by omega)]; omega
    have hiw : i * w ≤ 16777216 * 64 := Nat.mul_le_mul (by omega) hw
    obtain ⟨s, hs⟩ : ∃ s, i * w = s := ⟨_, rfl⟩
    have g0 : (i : Int) * w = (s : Int) := by rw [← hs, Int.natCast_mul]
    have g1 : IntKind.i64.wrap (s : Int) = s := wrap_i64 (by omega) (by omega)
    simp [g0, g1]
    refine got_call (Word_spec (r.grow gg) (by omega) (by omega)) ?_
    rintro _ _ ⟨rfl, rfl⟩
    rename_i h4
    simp
    refine got_call (mask_spec hw) ?_
    rintro _ _ ⟨rfl, rfl⟩
    rename_i h4
    have hlw : wordB bs s &&& maskW w = laneB bs w i := by rw [lane_word hw, laneB, hs]
    have fw := wrapk_u64 (laneB bs w i)
    by_cases hfi : (laneB bs w i).toNat < 2 ^ 64
    · rw [cutB_eq (by omega) hfi] at fw
      obtain ⟨v', h', q', e8, o', c', l', d'⟩ := ow.push (bytes := 8) (z := .int .u64 0) (x := .int .u64 (wi (laneB bs w i))) (by simp) (by simp [lanesL_len]; omega) (by simp [lanesL_len]; omega)
      simp [-wrap_u8_wi, hlw, fw, e8, e4]
      refine ⟨n - (i + 1), by omega, hI2 _ _ _ _ ⟨i + 1, v', q', rfl, by omega, rfl, ?_, gg.after c' (fun n hn hb => by have := hb.1; omega), own_q gg.len hq d', fun x hx => ?_, o'.ne (by simp)⟩ (by simp)⟩
      · rw [lanesL_succ, List.map_append]; exact o'
      · by_cases hxi : x = i
        · rw [hxi]; exact hfi
        · exact hfit x (by omega)
    · have hcut : ¬ cutB 64 (laneB bs w i) = laneB bs w i := fun h => hfi ((cut_iff (by omega)).1 h)
      exact absurd (laneB bs w i).isLt hfi
  · have hin : i = n := by omega
    subst hin
    simp
    exact hQ _ _ ⟨gg, .inr ⟨u, q, hfit, rfl, ow, hq, hune⟩⟩


theorem kv_good (cs : List (BitVec 64)) : (cs.map (kv .u64)).all goodC = true := by rw [List.all_eq_true]; intro x hx; rw [List.mem_map] at hx; obtain ⟨y, _, rfl⟩ := hx; simp [kv]
theorem bv_good (bs : List (BitVec 8)) : (bs.map bv).all goodC = true := by rw [List.all_eq_true]; intro x hx; rw [List.mem_map] at hx; obtain ⟨y, _, rfl⟩ := hx; simp [bv]

theorem allFit_rev {cs : List (BitVec 64)} {w : Nat} (h : allFit cs w) : allFit cs.reverse w := by
  intro i hi
  have hi' : i < cs.length := by simpa using hi
  have := h (cs.length - 1 - i) (by omega)
  unfold numA at this ⊢
  rw [List.getD_eq_getElem?_getD] at this ⊢
  rw [List.getElem?_reverse hi']; exact this

theorem rev_step {α : Type} {l : List α} {i : Nat} (hi : i < l.length) {x : α} (hx : l[l.length - 1 - i]? = some x) : (l.reverse.take i ++ l.drop i).set i x = l.reverse.take (i + 1) ++ l.drop (i + 1) := by
  have hl : (l.reverse.take i).length = i := by simp; omega
  rw [List.set_append_right _ _ (by omega), hl, Nat.sub_self, List.drop_eq_getElem_cons hi, List.set_cons_zero, List.take_add_one, List.getElem?_reverse hi, hx]
  simp

set_option maxHeartbeats 4000000 in
theorem own_law (L : Nat → Nat → Option Value) {vL vO : Value} {cs os : List (BitVec 64)} (rL : ArgS (heap0 (roBlk noG L)) vL (cs.map (kv .u64))) (rO : ArgS (heap0 (roBlk noG L)) vO (os.map (kv .u64))) (hcs : cs.length * 8 ≤ 140737488351232) (hos : os.length * 8 ≤ 140737488351232) (width : Int) :
    Gives P T (.fn F_colonnadelaw02_PackOwn) [vL, vO, .int .i64 width] (heap0 (roBlk noG L)) fun r _ => r = .bool true := by
  refine gives_by t_colonnadelaw02_PackOwn (by simp [c_colonnadelaw02_PackOwn]) fun Q hQ => ?_
  obtain ⟨w, hw⟩ : ∃ w : Nat, width % 65 = w := ⟨(width % 65).toNat, by have := Int.emod_nonneg width (show (65 : Int) ≠ 0 by omega); omega⟩
  have hw65 : w ≤ 64 := by have := Int.emod_lt_of_pos width (show (0 : Int) < 65 by omega); omega
  simp [c_colonnadelaw02_PackOwn]
  refine got_call (awake_spec L) ?_
  rintro _ h1 ⟨rfl, e1⟩
  have e1' : h1.ro = (heap0 (roBlk noG L)).ro := e1
  simp
  refine got_call (fit_spec (rL.ro e1').reads hcs width hw) ?_
  rintro _ h2 ⟨u2, q2, rfl, o2, g2, hq2⟩
  simp
  refine got_call (fit_spec ((rO.ro e1').reads.grow g2) hos width hw) ?_
  rintro _ h3 ⟨u3, q3, rfl, o3, g3, hq3⟩
  have n2 := fitL_len cs w
  have n3 := fitL_len os w
  have f2 : allFit (fitL cs w) w := fit_all hw65
  have f3 : allFit (fitL os w) w := fit_all hw65
  obtain ⟨ds, hds⟩ : ∃ ds, fitL cs w = ds := ⟨_, rfl⟩
  obtain ⟨es, hes⟩ : ∃ es, fitL os w = es := ⟨_, rfl⟩
  rw [hds] at o2 n2 f2
  rw [hes] at o3 n3 f3
  obtain ⟨n, hn⟩ : ∃ n, ds.length = n := ⟨_, rfl⟩
  obtain ⟨m, hm⟩ : ∃ m, es.length = m := ⟨_, rfl⟩
  have frr := allFit_rev f2
  have o2 := o2.grow g3
  have lu2 : ∀ h, lenR h u2 = some (.int .i64 n, h) := fun h => by
    obtain ⟨b, cc, e, _⟩ := o2.shape
    rw [e]; simp [hn]
  have lu3 : ∀ h, lenR h u3 = some (.int .i64 m, h) := fun h => by
    obtain ⟨b, cc, e, _⟩ := o3.shape
    rw [e]; simp [hm]
  obtain ⟨v4, h4, q4, a4, o4, g4, hq4, lt4, ne4⟩ := clone_any (bytes := 8) (z := .int .u64 0) o2.reads (kv_good _) (by simp; omega) (by simp; omega)
  simp [a4]
  have R2 := o2.reads
  have R3 := o3.reads
  -- packed
  refine got_call (Pack_uint64_spec (cs := ds) (w := w) o4.reads (by omega) hw65) ?_
  rintro _ h5 ⟨g5, ⟨hnf, _⟩ | ⟨u5, q5, b5, _, rfl, o5, hq5, p5, ne5⟩⟩
  · exact absurd f2 hnf
  simp
  refine got_call (Pack_uint64_spec (cs := ds) (w := w) (o4.reads.grow g5) (by omega) hw65) ?_
  rintro _ h6 ⟨g6, ⟨hnf, _⟩ | ⟨u6, q6, b6, _, rfl, o6, hq6, p6, ne6⟩⟩
  · exact absurd f2 hnf
  obtain rfl := p6.ext p5
  simp [b2s_reads (o5.grow g6).reads]
  refine got_call (Pack_uint64_spec (cs := es) (w := w) (((o3.reads.grow g4).grow g5).grow g6) (by omega) hw65) ?_
  rintro _ h7 ⟨g7, ⟨hnf, _⟩ | ⟨u7, q7, b7, _, rfl, o7, hq7, p7, ne7⟩⟩
  · exact absurd f3 hnf
  simp
  refine got_call (Pack_uint64_spec (cs := ds) (w := w) (((o4.reads.grow g5).grow g6).grow g7) (by omega) hw65) ?_
  rintro _ h8 ⟨g8, ⟨hnf, _⟩ | ⟨u8, q8, b8, _, rfl, o8, hq8, p8, ne8⟩⟩
  · exact absurd f2 hnf
  obtain rfl := p8.ext p6
  simp
  have g58 := (g6.trans g7).trans g8
  have g48 := g5.trans g58
  have l4 := g4.len
  have l5 := g5.len
  have l6 := g6.len
  have l7 := g7.len
  have l8 := g8.len
  have lt5 := o5.lt' ne5
  have lt6 := o6.lt' ne6
  have lt7 := o7.lt' ne7
  have lt8 := o8.lt' ne8
  have O4 := o4.grow g48
  have O2 := (o2.grow g4).grow g48
  have lv4 : ∀ h, lenR h v4 = some (.int .i64 n, h) := fun h => by
    obtain ⟨b, cc, e, _⟩ := o4.shape
    rw [e]; simp [hn]
  -- turned round
  obtain ⟨ba, ca, ev4, _⟩ := o4.shape
  simp only [List.length_map, hn] at ev4
  have q2lt : u2 = nilS ∨ q2 < h3.dyn.length := by
    by_cases hu : u2 = nilS
    · exact .inl hu
    · exact .inr (o2.lt' hu)
  refine go_loopK (fun k ks hh => ∃ (i : Nat), k = n - i ∧ i ≤ n ∧ ks = [(8, u2), (9, .int .i64 w), (10, u3), (12, v4), (13, u5), (15, u6), (17, .string (bstr b8)), (18, u7), (20, u8), (22, .int .i64 i)] ∧ Own hh v4 q4 ((ds.reverse.take i ++ ds.drop i).map (kv .u64)) ∧ Chg (· = q4) h8 hh) (n := n)
    ⟨0, rfl, by omega, rfl, by simpa using O4, Chg.refl _⟩ (by simp) ?_
  rintro I hI k ks e h9 ⟨i, rfl, hi, rfl, o9, c9⟩
  have O2' : Own h9 u2 q2 (ds.map (kv .u64)) := O2.chgN c9 fun hu e => by
    rcases q2lt with h | h
    · exact hu h
    · omega
  simp [lv4]
  refine branch_dec (fun hlt => ?_) (fun hge => ?_)
  · have hin : i < n := by omega
    have e4 : IntKind.i64.wrap ((i : Int) + 1) = ((i + 1 : Nat) : Int) := by rw [wrap_i64 (by omega) (by omega)]; omega
    have e5 : IntKind.i64.wrap ((n : Int) - 1) = ((n - 1 : Nat) : Int) := by rw [wrap_i64 (by omega) (by omega)]; omega
    obtain ⟨n1, hn1⟩ : ∃ x, n - 1 = x := ⟨_, rfl⟩
    rw [hn1] at e5
    have e6 : IntKind.i64.wrap ((n1 : Int) - i) = ((n1 - i : Nat) : Int) := by rw [wrap_i64 (by omega) (by omega)]; omega
    obtain ⟨ni, hni⟩ : ∃ x, n1 - i = x := ⟨_, rfl⟩
    rw [hni] at e6
    have hnin : ni < n := by omega
    obtain ⟨a, cc, eu, _, hld⟩ := O2'.get (i := ni) (kv_get (by omega))
    simp only [List.length_map, hn] at eu
    have hl9 : ((ds.reverse.take i ++ ds.drop i).map (kv .u64)).length = n := by simp; omega
    obtain ⟨u, cc2, h10, eu2, est, o10, c10, _⟩ := o9.set (i := i) (by omega) (x := .int .u64 (wi (numA ds ni))) (by simp)
    rw [hl9] at eu2
    subst eu
    subst eu2
    simp [lu2, e5, e6, hnin, hin, hld, est, e4]
    refine ⟨n - (i + 1), by omega, hI _ _ _ _ ⟨i + 1, rfl, by omega, rfl, ?_, c9.trans c10⟩ (by simp)⟩
    rw [← rev_step (l := ds) (x := numA ds ni) (by omega) (by rw [show ds.length - 1 - i = ni by omega]; unfold numA; rw [List.getD_eq_getElem?_getD, List.getElem?_eq_getElem (by omega)]; rfl), List.map_set]
    exact o10
  have hin : i = n := by omega
  subst hin
  have hrev : ds.reverse.take i ++ ds.drop i = ds.reverse := by
    rw [List.drop_eq_nil_of_le (by omega), List.take_of_length_le (by simp; omega), List.append_nil]
  rw [hrev] at o9
  have hrl : ds.reverse.length = i := by simpa using hn
  have k9 := c9.len
  have S5 : ¬ q5 = q4 := by omega
  have o5' := (o5.grow g58).chg c9 S5
  have o6' := ((o6.grow g7).grow g8).chg c9 (show ¬ q6 = q4 by omega)
  have o7' := (o7.grow g8).chg c9 (show ¬ q7 = q4 by omega)
  have o8' := o8.chg c9 (show ¬ q8 = q4 by omega)
  simp
  refine got_call (Pack_uint64_spec (cs := ds.reverse) (w := w) o9.reads (by omega) hw65) ?_
  rintro _ h10 ⟨g10, ⟨hnf, _⟩ | ⟨u10, q10, b10, _, rfl, o10, hq10, p10, ne10⟩⟩
  · exact absurd frr hnf
  obtain ⟨v11, h11, q11, a11, o11, g11, hq11, lt11, ne11⟩ := clone_any (bytes := 8) (z := .int .u64 0) (o9.grow g10).reads (kv_good _) (by simp; omega) (by simp; omega)
  simp [a11]
  refine got_call (Pack_uint64_spec (cs := ds.reverse) (w := w) o11.reads (by omega) hw65) ?_
  rintro _ h12 ⟨g12, ⟨hnf, _⟩ | ⟨u12, q12, b12, _, rfl, o12, hq12, p12, ne12⟩⟩
  · exact absurd frr hnf
  obtain rfl := p12.ext p10
  have lt10 := o10.lt' ne10
  have lt12 := o12.lt' ne12
  have l10 := g10.len
  have l11 := g11.len
  have l12 := g12.len
  have g1012 := g11.trans g12
  have g912 := g10.trans g1012
  have D5 := o5'.grow g912
  have D6 := o6'.grow g912
  have D7 := o7'.grow g912
  have D8 := o8'.grow g912
  have D9 := o9.grow g912
  have D10 := o10.grow g1012
  have D2 := O2'.grow g912
  simp [b2s_reads D5.reads, b2s_reads D6.reads, b2s_reads D8.reads, b2s_reads D10.reads, b2s_reads o12.reads, skipV]
  -- opened
  have hb8 : b8.length ≤ 16777216 * 8 := by have := p8.len; have := Nat.mul_le_mul n2 hw65; omega
  have hb12 : b12.length = b8.length := by rw [p12.len, p8.len, hrl, hn]
  have F8 := packs_fine p8 (by omega) hw65
  have F7 := packs_fine p7 (by omega) hw65
  have F12 := packs_fine p12 (by omega) hw65
  have L8 := packs_lanes p8 hw65 f2
  have L12 := packs_lanes p12 hw65 frr
  rw [hn] at F8 L8
  rw [hm] at F7
  rw [hrl] at F12 L12
  obtain ⟨v13, h13, q13, a13, o13, g13, hq13, lt13, ne13⟩ := clone_any (bytes := 1) (z := .int .u8 0) D5.reads (bv_good _) (by simp; omega) (by simp; omega)
  simp [a13, lu2]
  have l13 := g13.len
  refine got_call (Unpack_own o13.bytes F8) ?_
  rintro _ h14 ⟨g14, ⟨hnf, _⟩ | ⟨u14, q14, _, rfl, o14, hq14, ne14⟩⟩
  · exact absurd (fun x _ => BitVec.isLt _) hnf
  rw [L8] at o14
  have l14 := g14.len
  have lt14 := o14.lt' ne14
  simp [lu2]
  refine got_call (Unpack_own (o13.grow g14).bytes F8) ?_
  rintro _ h15 ⟨g15, ⟨hnf, _⟩ | ⟨u15, q15, _, rfl, o15, hq15, ne15⟩⟩
  · exact absurd (fun x _ => BitVec.isLt _) hnf
  rw [L8] at o15
  have l15 := g15.len
  have lt15 := o15.lt' ne15
  simp [lu3]
  refine got_call (Unpack_own (((D7.grow g13).grow g14).grow g15).bytes F7) ?_
  rintro _ h16 ⟨g16, hr16⟩
  have l16 := g16.len
  simp [lu2]
  refine got_call (Unpack_own ((o13.grow g14).grow (g15.trans g16)).bytes F8) ?_
  rintro _ h17 ⟨g17, ⟨hnf, _⟩ | ⟨u17, q17, _, rfl, o17, hq17, ne17⟩⟩
  · exact absurd (fun x _ => BitVec.isLt _) hnf
  rw [L8] at o17
  have l17 := g17.len
  have lt17 := o17.lt' ne17
  have g1517 := g16.trans g17
  have g1417 := g15.trans g1517
  have g1317 := g14.trans g1417
  have g1217 := g13.trans g1317
  obtain ⟨h18, a18, o18, c18, n18⟩ := (o13.grow g1317).copy ((D10.grow g1217).reads) (by simpa using hb12) (bv_good _)
  simp [a18, lu2]
  refine got_call (Unpack_own o18.bytes F12) ?_
  rintro _ h19 ⟨g19, ⟨hnf, _⟩ | ⟨u19, q19, _, rfl, o19, hq19, ne19⟩⟩
  · exact absurd (fun x _ => BitVec.isLt _) hnf
  rw [L12] at o19
  have l19 := g19.len
  have lt19 := o19.lt' ne19
  have E2 : Own h19 u2 q2 (ds.map (kv .u64)) := ((D2.grow g1217).chgN c18 fun hu e => by
    rcases q2lt with h | h
    · exact hu h
    · omega).grow g19
  have E5 := ((D5.grow g1217).chg c18 (show ¬ q5 = q13 by omega)).grow g19
  have E6 := ((D6.grow g1217).chg c18 (show ¬ q6 = q13 by omega)).grow g19
  have E7 := ((D7.grow g1217).chg c18 (show ¬ q7 = q13 by omega)).grow g19
  have E8 := ((D8.grow g1217).chg c18 (show ¬ q8 = q13 by omega)).grow g19
  have E9 := ((D9.grow g1217).chg c18 (show ¬ q4 = q13 by omega)).grow g19
  have E10 := ((D10.grow g1217).chg c18 (show ¬ q10 = q13 by omega)).grow g19
  have E12 := ((o12.grow g1217).chg c18 (show ¬ q12 = q13 by omega)).grow g19
  have E14 := ((o14.grow g1417).chg c18 (show ¬ q14 = q13 by omega)).grow g19
  have E15 := ((o15.grow g1517).chg c18 (show ¬ q15 = q13 by omega)).grow g19
  have E17 := (o17.chg c18 (show ¬ q17 = q13 by omega)).grow g19
  simp
  refine got_call (Same_spec E14.reads E2.reads (by omega)) ?_
  rintro _ _ ⟨rfl, rfl⟩
  rename_i h19
  simp
  refine got_call (Same_spec E15.reads E2.reads (by omega)) ?_
  rintro _ _ ⟨rfl, rfl⟩
  rename_i h19
  simp
  refine got_call (Same_spec E17.reads E2.reads (by omega)) ?_
  rintro _ _ ⟨rfl, rfl⟩
  rename_i h19
  simp
  refine got_call (Same_spec o19.reads E9.reads (by omega)) ?_
  rintro _ _ ⟨rfl, rfl⟩
  rename_i h19
  -- apart: bytes
  obtain ⟨G1, hG1⟩ : ∃ hh, hh = hnew h19 [u5, u6, u7, u8, u10, u12] 1 := ⟨_, rfl⟩
  have gA : Grow h19 G1 := by rw [hG1]; exact Grow.new _ _ _
  have rA : RowAt G1 h19.dyn.length 0 1 [u5, u6, u7, u8, u10, u12] := by rw [hG1]; exact RowAt.new _ _ _
  have nA : G1.dyn.length = h19.dyn.length + 1 := by rw [hG1]; simp
  have hl7 : b7.length ≤ 16777216 * 8 := by have := p7.len; have := Nat.mul_le_mul n3 hw65; omega
  have Ls := lists_of (h := G1) (qv := h19.dyn.length) (l := [(u5, q5, b8.map bv), (u6, q6, b8.map bv), (u7, q7, b7.map bv), (u8, q8, b8.map bv), (u10, q10, b12.map bv), (u12, q12, b12.map bv)])
    (by
      simp only [List.mem_cons, List.not_mem_nil, or_false]
      rintro t (rfl | rfl | rfl | rfl | rfl | rfl)
      · exact ⟨E5.grow gA, by simp only; omega, by simp only; omega, by simp; omega⟩
      · exact ⟨E6.grow gA, by simp only; omega, by simp only; omega, by simp; omega⟩
      · exact ⟨E7.grow gA, by simp only; omega, by simp only; omega, by simp; omega⟩
      · exact ⟨E8.grow gA, by simp only; omega, by simp only; omega, by simp; omega⟩
      · exact ⟨E10.grow gA, by simp only; omega, by simp only; omega, by simp; omega⟩
      · exact ⟨E12.grow gA, by simp only; omega, by simp only; omega, by simp; omega⟩)
    (by simp; omega)
  have hap := colonnadelaw02_apart_byte_spec Ls (by rw [range_map_getD]; exact rA) (by simp) (by simp)
  simp only [List.length_cons, List.length_nil, Nat.zero_add, Nat.reduceAdd] at hap
  simp [E5.good, E6.good, E7.good, E8.good, E10.good, E12.good, ← hG1]
  refine got_call hap ?_
  rintro _ h20 ⟨rfl, c20⟩
  have K20 : Chg (fun b => (b = q5 ∨ b = q6 ∨ b = q7 ∨ b = q8 ∨ b = q10 ∨ b = q12) ∨ G1.dyn.length ≤ b) G1 h20 := c20.mono fun b _ e => by
    rcases e with ⟨j, hj, rfl⟩ | e
    · left
      have : j = 0 ∨ j = 1 ∨ j = 2 ∨ j = 3 ∨ j = 4 ∨ j = 5 := by omega
      rcases this with rfl | rfl | rfl | rfl | rfl | rfl <;> simp
    · exact .inr e
  have k20 := K20.len
  have M14 := (E14.grow gA).chg K20 (show ¬ ((q14 = q5 ∨ q14 = q6 ∨ q14 = q7 ∨ q14 = q8 ∨ q14 = q10 ∨ q14 = q12) ∨ G1.dyn.length ≤ q14) by omega)
  have M15 := (E15.grow gA).chg K20 (show ¬ ((q15 = q5 ∨ q15 = q6 ∨ q15 = q7 ∨ q15 = q8 ∨ q15 = q10 ∨ q15 = q12) ∨ G1.dyn.length ≤ q15) by omega)
  have M17 := (E17.grow gA).chg K20 (show ¬ ((q17 = q5 ∨ q17 = q6 ∨ q17 = q7 ∨ q17 = q8 ∨ q17 = q10 ∨ q17 = q12) ∨ G1.dyn.length ≤ q17) by omega)
  have M19 := (o19.grow gA).chg K20 (show ¬ ((q19 = q5 ∨ q19 = q6 ∨ q19 = q7 ∨ q19 = q8 ∨ q19 = q10 ∨ q19 = q12) ∨ G1.dyn.length ≤ q19) by omega)
  have M2 : Own h20 u2 q2 (ds.map (kv .u64)) := (E2.grow gA).chgN K20 fun hu e => by
    rcases q2lt with h | h
    · exact hu h
    · omega
  -- apart: numbers
  obtain ⟨G2, hG2⟩ : ∃ hh, hh = hnew h20 [u14, u15, u17, u19] 1 := ⟨_, rfl⟩
  have gB : Grow h20 G2 := by rw [hG2]; exact Grow.new _ _ _
  have rB : RowAt G2 h20.dyn.length 0 1 [u14, u15, u17, u19] := by rw [hG2]; exact RowAt.new _ _ _
  have nB : G2.dyn.length = h20.dyn.length + 1 := by rw [hG2]; simp
  have Lt := lists_of (h := G2) (qv := h20.dyn.length) (l := [(u14, q14, ds.map (kv .u64)), (u15, q15, ds.map (kv .u64)), (u17, q17, ds.map (kv .u64)), (u19, q19, ds.reverse.map (kv .u64))])
    (by
      simp only [List.mem_cons, List.not_mem_nil, or_false]
      rintro t (rfl | rfl | rfl | rfl)
      · exact ⟨M14.grow gB, by simp only; omega, by simp only; omega, by simp; omega⟩
      · exact ⟨M15.grow gB, by simp only; omega, by simp only; omega, by simp; omega⟩
      · exact ⟨M17.grow gB, by simp only; omega, by simp only; omega, by simp; omega⟩
      · exact ⟨M19.grow gB, by simp only; omega, by simp only; omega, by simp; omega⟩)
    (by simp; omega)
  have hap2 := colonnadelaw02_apart_uint64_spec Lt (by rw [range_map_getD]; exact rB) (by simp) (by simp)
  simp only [List.length_cons, List.length_nil, Nat.zero_add, Nat.reduceAdd] at hap2
  simp [M14.good, M15.good, M17.good, M19.good, ← hG2]
  refine got_call hap2 ?_
  rintro _ h21 ⟨rfl, c21⟩
  have K21 : Chg (fun b => (b = q14 ∨ b = q15 ∨ b = q17 ∨ b = q19) ∨ G2.dyn.length ≤ b) G2 h21 := c21.mono fun b _ e => by
    rcases e with ⟨j, hj, rfl⟩ | e
    · left
      have : j = 0 ∨ j = 1 ∨ j = 2 ∨ j = 3 := by omega
      rcases this with rfl | rfl | rfl | rfl <;> simp
    · exact .inr e
  have N2 : Own h21 u2 q2 (ds.map (kv .u64)) := (M2.grow gB).chgN K21 fun hu e => by
    rcases q2lt with h | h
    · exact hu h
    · omega
  simp
  -- asked again
  refine got_call (Pack_uint64_spec (cs := ds) (w := w) N2.reads (by omega) hw65) ?_
  rintro _ h22 ⟨g22, ⟨hnf, _⟩ | ⟨u22, q22, b22, _, rfl, o22, hq22, p22, ne22⟩⟩
  · exact absurd f2 hnf
  obtain rfl := p22.ext p8
  simp [lu2]
  refine got_call (Unpack_own o22.bytes F8) ?_
  rintro _ h23 ⟨g23, ⟨hnf, _⟩ | ⟨u23, q23, _, rfl, o23, hq23, ne23⟩⟩
  · exact absurd (fun x _ => BitVec.isLt _) hnf
  rw [L8] at o23
  simp [b2s_reads (o22.grow g23).reads]
  refine got_call (Same_spec o23.reads ((N2.grow g22).grow g23).reads (by omega)) ?_
  rintro _ _ ⟨rfl, rfl⟩
  simp
  exact hQ _ _ rfl

end Go.Ax
