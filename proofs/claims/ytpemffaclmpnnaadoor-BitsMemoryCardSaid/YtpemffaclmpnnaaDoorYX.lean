/- Seat bits: words told, lists made of them; the law's other half (again). -/
import Derived.Test.YtpemffaclmpnnaaDoorYV
import Derived.Test.YtpemffaclmpnnaaDoorYP
import Derived.Test.YtpemffaclmpnnaaDoorYS
namespace Go.Ax
open Go.Proofs
set_option linter.unusedVariables false
set_option linter.unusedSimpArgs false
set_option maxRecDepth 1000000

theorem awakeN_run (L : Nat → Nat → Option Value) : (acallN P T 60 (.fn F_colonnadelaw01_awake) [] (heap0 (roBlk tabG L))).map (fun r => (r.1, r.2.ro, decide (8 ≤ r.2.dyn.length))) = some (.bool true, roBlk tabG L, true) := by kernel_rfl

theorem awakeN_spec (L : Nat → Nat → Option Value) : Gives P T (.fn F_colonnadelaw01_awake) [] (heap0 (roBlk tabG L)) fun v h' => v = .bool true ∧ h'.ro = roBlk tabG L ∧ 8 ≤ h'.dyn.length := by
  have h := awakeN_run L
  rw [Option.map_eq_some_iff] at h
  obtain ⟨r, h1, h2⟩ := h
  simp only [Prod.mk.injEq, decide_eq_true_eq] at h2
  exact gives_closed h1 h2

/-- A list grown out of nothing. -/
theorem app_nil {h : Heap} {l : List Value} {x : Value} {bytes : Nat} {z : Value} (r : Reads h x l) (hg : l.all goodC = true) (hb : l.length * bytes ≤ 140737488355328) (hb' : l.length ≤ 140737488355328) :
    ∃ v1 h1 q1, aappend h 1 bytes [z] (.slice none 0 0) x = some (v1, h1) ∧ Own h1 v1 q1 l ∧ Grow h h1 ∧ h.dyn.length ≤ q1 ∧ TopS v1 := by
  obtain ⟨f1, f2⟩ := r.first
  have tn : TopS (.slice none 0 0) := fun b n c e => by cases e; exact .inl rfl
  by_cases h0 : l = []
  · subst h0
    exact ⟨_, _, h.dyn.length, (Own.nil h h.dyn.length).app0 (by simp) f1 f2, Own.nil _ _, Chg.refl _, Nat.le_refl _, tn⟩
  · obtain ⟨v', h', q', e, o, c, _, d⟩ := (Own.nil h h.dyn.length).app (bytes := bytes) (z := z) h0 f1 f2 hg (by simpa using hb) (by simpa using hb')
    obtain ⟨b, m, ht⟩ := aappend_top e f1 (by simpa using h0) tn
    refine ⟨v', h', q', e, by simpa using o, c.mono fun n hn hb => by have := hb.1; omega, ?_, ht ▸ TopS.full⟩
    rcases d with ⟨h1, _⟩ | h1 <;> omega

theorem wv_good (ws : List (BitVec 64)) : (ws.map wv).all goodC = true := by rw [List.all_eq_true]; intro x hx; rw [List.mem_map] at hx; obtain ⟨y, _, rfl⟩ := hx; simp [wv]

theorem cloneW_own {h : Heap} {b : Option Addr} {c q : Nat} {ws : List (BitVec 64)} (w : Words h b c q ws) (hl : ws.length ≤ 16777216) :
    Gives P T (.fn F_slices_Clone_uint64_uint64) [.slice b ws.length c] h fun v h' => ∃ q', Own h' v q' (ws.map wv) ∧ Grow h h' ∧ h.dyn.length ≤ q' ∧ (v ≠ nilS → q' < h'.dyn.length) := by
  refine gives_by t_slices_Clone_uint64_uint64 (by simp [c_slices_Clone_uint64_uint64]) fun Q hQ => ?_
  rcases w with ⟨rfl, rfl, rfl⟩ | ⟨v, rfl, r, h1, h2⟩
  · simp [c_slices_Clone_uint64_uint64]
    exact hQ _ _ ⟨h.dyn.length, .inl ⟨rfl, rfl⟩, Chg.refl _, Nat.le_refl _, fun h => absurd rfl h⟩
  · have rd : Reads h (.slice (some ⟨q, 0, some v⟩) ws.length c) (ws.map wv) := .inr ⟨⟨q, 0, some v⟩, c, by simp, fun i x hx => by simpa using r.get hx⟩
    obtain ⟨v1, h3, q1, e1, o1, g1, hq1, hl1, _⟩ := clone_any (bytes := 8) (z := .int .u64 0) rd (wv_good ws) (by simp; omega) (by simp; omega)
    simp [c_slices_Clone_uint64_uint64, e1]
    exact hQ _ _ ⟨q1, o1, g1, hq1, fun _ => hl1⟩

theorem Words_own {h : Heap} {p q n : Nat} {ws : List (BitVec 64)} (s : SetAt h p q n ws) (hl : ws.length ≤ 16777216) :
    Gives P T (.fn F_bits_Set_Words) [ptr p] h fun v h' => ∃ q', Own h' v q' (ws.map wv) ∧ Grow h h' ∧ h.dyn.length ≤ q' ∧ (v ≠ nilS → q' < h'.dyn.length) := by
  obtain ⟨b, c, h1, h2⟩ := s.ex
  refine gives_by t_bits_Set_Words (by simp [c_bits_Set_Words]) fun Q hQ => ?_
  simp [c_bits_Set_Words, ptr, h1.get (i := 1) rfl]
  refine got_call (cloneW_own h2 hl) ?_
  rintro v h' ⟨q', o, g, hq, hv⟩
  simp
  exact hQ _ _ ⟨q', o, g, hq, hv⟩

/-- A list of words, as Load takes it. -/
theorem own_words {h : Heap} {v : Value} {q : Nat} {ws : List (BitVec 64)} (o : Own h v q (ws.map wv)) (ht : TopS v) (hl : ws.length ≤ 16777216) : ∃ b c, v = .slice b ws.length c ∧ Words h b c q ws := by
  rcases o with ⟨rfl, e⟩ | ⟨u, rfl, r⟩ | ⟨u, rest, rfl, hc, r⟩
  · have : ws = [] := by simpa using e
    subst this
    exact ⟨none, 0, rfl, .inl ⟨rfl, rfl, rfl⟩⟩
  · exact ⟨_, _, by simp, .inr ⟨u, rfl, r, by unfold gcap; omega, Nat.le_refl _⟩⟩
  · have := ht _ _ _ rfl
    rcases this with h | h | h
    · cases h
    · omega
    · have hr : rest = [] := List.eq_nil_of_length_eq_zero (by omega)
      subst hr
      exact ⟨some ⟨q, 0, some u⟩, ws.length, by simp, .inr ⟨u, rfl, by simpa using r, Nat.le_refl _, by unfold gcap; omega⟩⟩

theorem Own.at {h : Heap} {v : Value} {q : Nat} {l : List Value} (o : Own h v q l) (k : Nat) : ∃ q', Own h v q' l ∧ (v ≠ nilS ∧ q' = q ∨ v = nilS ∧ q' = k) := by
  by_cases hv : v = nilS
  · rcases o with ⟨_, e⟩ | ⟨u, e, _⟩ | ⟨u, rest, e, _⟩
    · exact ⟨k, .inl ⟨hv, e⟩, .inr ⟨hv, rfl⟩⟩
    · rw [hv] at e; simp [nilS] at e
    · rw [hv] at e; simp [nilS] at e
  · exact ⟨q, o, .inl ⟨hv, rfl⟩⟩

theorem one_bool' (bs : List Bool) : (bs.map Value.bool).all goodC = true := by rw [List.all_eq_true]; intro x hx; rw [List.mem_map] at hx; obtain ⟨y, _, rfl⟩ := hx; simp

theorem canon_len {n : Nat} {ws : List (BitVec 64)} (c : Canon n ws) : ws.length ≤ 16777216 := by have := c.len; have := c.le; omega

theorem iad0 {h : Heap} {es len c : Nat} {a : Addr} {kd : IntKind} (hj : 0 < len) : iadR h es (.slice (some a) len c) (.int kd 0) = some (.pointer (some (aadd a (0 * es))), h) := iad_nat (j := 0) hj
theorem iad1 {h : Heap} {es len c : Nat} {a : Addr} {kd : IntKind} (hj : 1 < len) : iadR h es (.slice (some a) len c) (.int kd 1) = some (.pointer (some (aadd a (1 * es))), h) := iad_nat (j := 1) hj
theorem iad2 {h : Heap} {es len c : Nat} {a : Addr} {kd : IntKind} (hj : 2 < len) : iadR h es (.slice (some a) len c) (.int kd 2) = some (.pointer (some (aadd a (2 * es))), h) := iad_nat (j := 2) hj

/-- Two sets, joined in either order: what stands in the halves. -/
theorem again_spec {h : Heap} {va vb : Value} {xs ys : List Bool} {n p q p' q' : Nat} {ws ws' : List (BitVec 64)} (hx : xs.length = n) (hy : ys.length = n) (hn : n ≤ 300)
    (ra : Reads h va (xs.map .bool)) (rb : Reads h vb (ys.map .bool)) (hro : ∀ h', h'.ro = h.ro → Reads h' va (xs.map .bool) ∧ Reads h' vb (ys.map .bool))
    (s : SetAt h p q n ws) (cs : Canon n ws) (hs : ∀ i, bit ws i = hold xs i) (s' : SetAt h p' q' n ws') (cs' : Canon n ws') (hs' : ∀ i, bit ws' i = hold ys i) :
    Gives P T (.fn F_colonnadelaw01_again) [va, vb, ptr p, ptr p'] h fun v _ => v = .bool true := by
  refine gives_by t_colonnadelaw01_again (by simp [c_colonnadelaw01_again]) fun Q hQ => ?_
  obtain ⟨ba, ca, eva, _⟩ := ra.shape
  simp only [List.length_map, hx] at eva
  have lw := canon_len cs
  have lw' := canon_len cs'
  obtain ⟨v1, h1, q1, a1, o1, g1, hq1, _⟩ := app_nil (bytes := 1) (z := .bool false) ra (one_bool' xs) (by simp; omega) (by simp; omega)
  simp [c_colonnadelaw01_again, a1]
  refine got_call (Of_spec o1.reads (by omega)) ?_
  rintro _ h2 ⟨p2, q2, w2, rfl, s2, c2, hb2, g2, hp2, hq2⟩
  rw [hx] at s2 c2
  have r1 := g1.ro
  have r2 := g2.ro
  obtain ⟨h3, a3, o3, c3, n3⟩ := (o1.grow g2).copy (hro h2 (by rw [r2, r1])).2 (by simp [hx, hy]) (one_bool' ys)
  simp [a3]
  refine got_call (Of_spec o3.reads (by omega)) ?_
  rintro _ h4 ⟨p4, q4, w4, rfl, s4, c4, hb4, g4, hp4, hq4⟩
  rw [hy] at s4 c4
  have l1 := g1.len
  have l2 := g2.len
  have l4 := g4.len
  have pl := s.pl
  have pl' := s'.pl
  obtain ⟨qn, sn, qnl, _⟩ := s.norm'
  obtain ⟨qn', sn', qnl', _⟩ := s'.norm'
  obtain ⟨q2n, s2n, q2nl, hq2n⟩ := s2.norm'
  have p2l := s2.pl
  have q1l : v1 = nilS ∨ q1 < h1.dyn.length := by
    by_cases hv : v1 = nilS
    · exact .inl hv
    · exact .inr (o1.lt' hv)
  have q1' : ∀ b, h.dyn.length ≤ b → True := fun _ _ => trivial
  -- behind the second Of
  have S : SetAt h4 p qn n ws := (((sn.grow g1).grow g2).chg c3 (by omega) (by omega)).grow g4
  have S' : SetAt h4 p' qn' n ws' := (((sn'.grow g1).grow g2).chg c3 (by omega) (by omega)).grow g4
  have S2 : SetAt h4 p2 q2n n w2 := by
    rcases q1l with hv | hv
    · -- nothing was copied
      have hc : Chg (fun _ => False) h2 h3 := by
        subst hv
        rcases o1 with ⟨_, e⟩ | ⟨u, e, _⟩ | ⟨u, rest, e, _⟩
        · have hx0 : xs = [] := by simpa using e
          have hn0 : n = 0 := by rw [← hx, hx0]; rfl
          have hy0 : ys = [] := List.eq_nil_of_length_eq_zero (by omega)
          subst hy0
          obtain ⟨f1, f2⟩ := (hro h2 (by rw [r2, r1])).2.first
          simp only [nilS, acopy, f1] at a3
          simp at a3
          split at a3
          · cases a3
          · simp at a3
            obtain ⟨_, rfl⟩ := a3
            exact Chg.refl _
        · simp [nilS] at e
        · simp [nilS] at e
      exact (s2n.grow hc).grow g4
    · exact (s2n.chg c3 (by omega) (by omega)).grow g4
  have lj : (n + 63) / 64 ≤ 16777216 := by omega
  -- the list of two
  obtain ⟨H, hH⟩ : ∃ H, H = hnew h4 [ptr p, ptr p'] 1 := ⟨_, rfl⟩
  have gH : Grow h4 H := by rw [hH]; exact Grow.new _ _ _
  have rH : RowAt H h4.dyn.length 0 1 [ptr p, ptr p'] := by rw [hH]; exact RowAt.new _ _ _
  have lH : H.dyn.length = h4.dyn.length + 1 := by rw [hH]; simp
  have rd : Reads H (.slice (some ⟨h4.dyn.length, 0, some 0⟩) 2 2) (([⟨p, qn, n, ws⟩, ⟨p', qn', n, ws'⟩] : List SetD).map fun s => ptr s.p) := .inr ⟨⟨h4.dyn.length, 0, some 0⟩, 2, by simp, fun i x hx => by simpa using rH.get hx⟩
  simp only [ptr] at hH
  simp [ptr, ← hH]
  refine got_call (join_spec rd (by
    simp only [List.mem_cons, List.not_mem_nil, or_false]
    rintro e (rfl | rfl)
    · exact ⟨S.grow gH, cs⟩
    · exact ⟨S'.grow gH, cs'⟩) (by simp [sumN]; omega) (by simp)) ?_
  rintro _ h5 ⟨p5, q5, w5, rfl, s5, c5, hb5, g5, hp5, hq5⟩
  have hsum : sumN ([⟨p, qn, n, ws⟩, ⟨p', qn', n, ws'⟩] : List SetD) = 2 * n := by simp [sumN]; omega
  rw [hsum] at s5 c5
  have rH5 := rH.grow g5
  obtain ⟨h6, a6, rH6, c6, n6⟩ := rH5.store (i := 0) (x := .pointer (some ⟨p', 0, some 0⟩)) (by simp) (by simp)
  obtain ⟨h7, a7, rH7, c7, n7⟩ := rH6.store (i := 1) (x := .pointer (some ⟨p, 0, some 0⟩)) (by simp) (by simp)
  simp [iad0, iad1, a6, a7]
  have l5 := g5.len
  have p5l := s5.pl
  obtain ⟨q5n, s5n, q5nl, hq5n⟩ := s5.norm'
  have p4l := s4.pl
  have c67 : Chg (· = h4.dyn.length) h5 h7 := c6.trans c7
  have K := (gH.trans g5)
  have S7 := (S.grow K).chg c67 (by omega) (by omega)
  have S7' := (S'.grow K).chg c67 (by omega) (by omega)
  have s5' := s5n.chg c67 (by omega) (by omega)
  have rd7 : Reads h7 (.slice (some ⟨h4.dyn.length, 0, some 0⟩) 2 2) (([⟨p', qn', n, ws'⟩, ⟨p, qn, n, ws⟩] : List SetD).map fun s => ptr s.p) := .inr ⟨⟨h4.dyn.length, 0, some 0⟩, 2, by simp, fun i x hx => by simpa [ptr] using rH7.get (by simpa [ptr] using hx)⟩
  refine got_call (join_spec rd7 (by
    simp only [List.mem_cons, List.not_mem_nil, or_false]
    rintro e (rfl | rfl)
    · exact ⟨S7', cs'⟩
    · exact ⟨S7, cs⟩) (by simp [sumN]; omega) (by simp)) ?_
  rintro _ h8 ⟨p8, q8, w8, rfl, s8, c8, hb8, g8, hp8, hq8⟩
  have hsum' : sumN ([⟨p', qn', n, ws'⟩, ⟨p, qn, n, ws⟩] : List SetD) = 2 * n := by simp [sumN]; omega
  rw [hsum'] at s8 c8
  have T2 := ((S2.grow K).chg c67 (by have := s2n.pl; omega) (by omega)).grow g8
  obtain ⟨q4n, s4n, q4nl, hq4n⟩ := s4.norm'
  have T4 := ((s4n.grow K).chg c67 (by omega) (by omega)).grow g8
  have TS := S7.grow g8
  have TS' := S7'.grow g8
  have T5 := s5'.grow g8
  have e2 : w2 = ws := c2.ext cs fun i _ => by rw [hb2, hs]
  have e4 : w4 = ws' := c4.ext cs' fun i _ => by rw [hb4, hs']
  subst e2
  subst e4
  have w2n : IntKind.i64.wrap (2 * (n : Int)) = ((2 * n : Nat) : Int) := by rw [wrap_i64 (by omega) (by omega)]; omega
  simp [ptr, eva, skipV]
  refine got_call (alike_spec T2 TS lw lw) ?_
  rintro _ h9 ⟨rfl, g9⟩
  simp
  refine got_call (alike_spec (T4.grow g9) (TS'.grow g9) lw' lw') ?_
  rintro _ h10 ⟨rfl, g10⟩
  have G10 := g9.trans g10
  simp
  refine got_call (slice_spec (T5.grow G10) c5 0 n (f := 0) (t := n) (by omega) (by omega)) ?_
  rintro _ h11 ⟨p11, q11, w11, rfl, s11, c11, hb11, g11, _, _⟩
  have G11 := G10.trans g11
  rw [Nat.sub_zero] at s11 c11
  have e11 : w11 = w2 := c11.ext cs fun i hi => by
    rw [hb11, hb5]; simp [joinB, hi]
  subst e11
  simp
  refine got_call (alike_spec s11 (TS.grow G11) lw lw) ?_
  rintro _ h12 ⟨rfl, g12⟩
  have G12 := G11.trans g12
  simp [w2n]
  refine got_call (slice_spec (T5.grow G12) c5 n ((2 * n : Nat) : Int) (f := n) (t := 2 * n) (by omega) (by omega)) ?_
  rintro _ h13 ⟨p13, q13, w13, rfl, s13, c13, hb13, g13, _, _⟩
  have G13 := G12.trans g13
  have hnn : 2 * n - n = n := by omega
  rw [hnn] at s13 c13 hb13
  have e13 : w13 = w4 := c13.ext cs' fun i hi => by
    have h1 : ¬ n + i < n := by omega
    rw [hb13, hb5]; simp [joinB, hi, h1]
  subst e13
  simp
  refine got_call (alike_spec s13 (TS'.grow G13) lw' lw') ?_
  rintro _ h14 ⟨rfl, g14⟩
  have G14 := G13.trans g14
  simp
  refine got_call (slice_spec (s8.grow G14) c8 0 n (f := 0) (t := n) (by omega) (by omega)) ?_
  rintro _ h15 ⟨p15, q15, w15, rfl, s15, c15, hb15, g15, _, _⟩
  have G15 := G14.trans g15
  rw [Nat.sub_zero] at s15 c15
  have e15 : w15 = w13 := c15.ext cs' fun i hi => by
    rw [hb15, hb8]; simp [joinB, hi]
  subst e15
  simp
  refine got_call (alike_spec s15 (TS'.grow G15) lw' lw') ?_
  rintro _ h16 ⟨rfl, g16⟩
  have G16 := G15.trans g16
  simp [w2n]
  refine got_call (slice_spec (s8.grow G16) c8 n ((2 * n : Nat) : Int) (f := n) (t := 2 * n) (by omega) (by omega)) ?_
  rintro _ h17 ⟨p17, q17, w17, rfl, s17, c17, hb17, g17, _, _⟩
  have G17 := G16.trans g17
  rw [hnn] at s17 c17 hb17
  have e17 : w17 = w11 := c17.ext cs fun i hi => by
    have h1 : ¬ n + i < n := by omega
    rw [hb17, hb8]; simp [joinB, hi, h1]
  subst e17
  simp
  refine got_call (alike_spec s17 (TS.grow G17) lw lw) ?_
  rintro _ h18 ⟨rfl, g18⟩
  simp
  exact hQ _ _ rfl

end Go.Ax
