/- Seat bits: the law BitsMemory, over the abstract machine. -/
import Derived.Test.YtpemffaclmpnnaaDoorYY
namespace Go.Ax
open Go.Proofs
set_option linter.unusedVariables false
set_option linter.unusedSimpArgs false
set_option maxRecDepth 1000000

theorem hold_flip {ws ws' : List (BitVec 64)} {i : Nat} (h : ∀ j, bit ws' j = if j = i then !bit ws i else bit ws j) : ws' ≠ ws := by
  rintro rfl
  have := h i
  simp at this

theorem one_set {h : Heap} {p q n : Nat} {ws : List (BitVec 64)} (s : SetAt h p q n ws) (c : Canon n ws) :
    Gives P T (.fn F_bits_Join) [.slice (some ⟨h.dyn.length, 0, some 0⟩) 1 1] (hnew h [ptr p] 1) fun v h' => ∃ p2 q2 ws2, v = .tuple #[ptr p2, .int .i64 0] ∧ SetAt h' p2 q2 n ws2 ∧ Canon n ws2 ∧ Grow h h' ∧ h.dyn.length ≤ p2 ∧ h.dyn.length ≤ q2 := by
  have rd : Reads (hnew h [ptr p] 1) (.slice (some ⟨h.dyn.length, 0, some 0⟩) 1 1) (([⟨p, q, n, ws⟩] : List SetD).map fun s => ptr s.p) := .inr ⟨⟨h.dyn.length, 0, some 0⟩, 1, by simp, fun i x hx => by simpa using (RowAt.new h [ptr p] 1).get (by simpa using hx)⟩
  have hle := c.le
  refine (join_spec rd (by
    simp only [List.mem_cons, List.not_mem_nil, or_false]
    rintro e rfl
    exact ⟨s.grow (Grow.new _ _ _), c⟩) (by simp [sumN]; omega) (by simp)).mono ?_
  rintro v h' ⟨p2, q2, w2, rfl, s2, c2, _, g2, hp, hq⟩
  have e : sumN ([⟨p, q, n, ws⟩] : List SetD) = n := by simp [sumN]
  rw [e] at s2 c2
  simp at hp hq
  exact ⟨p2, q2, w2, rfl, s2, c2, (Grow.new _ _ _).trans g2, by omega, by omega⟩

theorem fill_step {a b : List (BitVec 64)} {i : Nat} {x : BitVec 64} (hx : a[i]? = some x) (hl : a.length = b.length) : (a.take i ++ b.drop i).set i x = a.take (i + 1) ++ b.drop (i + 1) := by
  have hi : i < a.length := by
    by_cases h : i < a.length
    · exact h
    · rw [List.getElem?_eq_none (by omega)] at hx; cases hx
  apply List.ext_getElem?
  intro j
  rw [List.getElem?_set, List.getElem?_append, List.getElem?_append]
  simp only [List.length_append, List.length_take, List.length_drop, List.getElem?_take, List.getElem?_drop]
  by_cases h1 : i = j
  · subst h1
    rw [if_pos rfl, if_pos (by omega), if_pos (by omega), if_pos (by omega), hx]
  · rw [if_neg h1]
    by_cases h2 : j < i
    · rw [if_pos (by omega), if_pos h2, if_pos (by omega), if_pos (by omega)]
    · rw [if_neg (by omega), if_neg (by omega)]
      congr 1; omega

theorem wv_set' (ws : List (BitVec 64)) (i : Nat) (x : BitVec 64) : (ws.map wv).set i (wv x) = (ws.set i x).map wv := wv_set ws i x

set_option maxHeartbeats 4000000 in
theorem memory_law (L : Nat → Nat → Option Value) {v0 v1 : Value} {ss bs : List Bool} (at_ : Int) (r0 : ArgS (heap0 (roBlk tabG L)) v0 (ss.map .bool)) (r1 : ArgS (heap0 (roBlk tabG L)) v1 (bs.map .bool)) :
    Gives P T (.fn F_colonnadelaw01_BitsMemory) [v0, v1, .int .i64 at_] (heap0 (roBlk tabG L)) fun v _ => v = .bool true := by
  refine gives_by t_colonnadelaw01_BitsMemory (by simp [c_colonnadelaw01_BitsMemory]) fun Q hQ => ?_
  obtain ⟨b0, c0, e0, _⟩ := r0.reads.shape
  obtain ⟨b1, c1, e1, _⟩ := r1.reads.shape
  simp only [List.length_map] at e0 e1
  obtain ⟨n, hm0⟩ : ∃ n, min (min ss.length bs.length) 300 = n := ⟨_, rfl⟩
  have hm : min (min (ss.length : Int) bs.length) 300 = n := by omega
  have hn : n ≤ 300 := by omega
  obtain ⟨x0, k0, z0⟩ := r0.cut (n := n) (by rw [List.length_map]; omega)
  obtain ⟨x1, k1, z1⟩ := r1.cut (n := n) (by rw [List.length_map]; omega)
  obtain ⟨xs, hxs⟩ : ∃ xs, ss.take n = xs := ⟨_, rfl⟩
  obtain ⟨ys, hys⟩ : ∃ ys, bs.take n = ys := ⟨_, rfl⟩
  have nx : xs.length = n := by rw [← hxs, List.length_take]; omega
  have ny : ys.length = n := by rw [← hys, List.length_take]; omega
  rw [← List.map_take, hxs] at x0
  rw [← List.map_take, hys] at x1
  obtain ⟨A, hA⟩ : ∃ A, cutA v0 n = A := ⟨_, rfl⟩
  obtain ⟨B, hB⟩ : ∃ B, cutA v1 n = B := ⟨_, rfl⟩
  rw [hA] at x0 k0 z0
  rw [hB] at x1 k1 z1
  have l0 : ∀ h, lenR h v0 = some (.int .i64 ss.length, h) := fun h => by rw [e0]; rfl
  have l1 : ∀ h, lenR h v1 = some (.int .i64 bs.length, h) := fun h => by rw [e1]; rfl
  simp [c_colonnadelaw01_BitsMemory]
  refine got_call (awakeN_spec L) ?_
  rintro _ h0 ⟨rfl, ro0, len0⟩
  simp [l0, l1, mm_min3, hm, k0]
  refine got_call (Of_spec (x0.ro ro0).reads (by omega)) ?_
  rintro _ h1 ⟨p, qs, ws, rfl, s1, cs, hs, g1, hp, hqs⟩
  rw [nx] at s1 cs
  have ro1 := g1.ro.trans ro0
  simp [k1]
  refine got_call (Of_spec (x1.ro ro1).reads (by omega)) ?_
  rintro _ h2 ⟨p', qs', ws', rfl, t2, ct, ht, g2, hp', hqs'⟩
  rw [ny] at t2 ct
  have ro2 := g2.ro.trans ro1
  have pl1 := s1.pl
  have pl2 := t2.pl
  obtain ⟨q, s0, ql, hq⟩ := s1.norm'
  have s := s0.grow g2
  obtain ⟨q', t, ql', hq'⟩ := t2.norm'
  have lw := canon_len cs
  have lw' := canon_len ct
  have lws := cs.len
  have lwt := ct.len
  have len1 := g1.len
  have len2 := g2.len
  clear s1 t2 s0
  simp [ptr]

  refine got_call (Words_own s lw) ?_
  rintro v3 h3 ⟨r3, u3, g3, hr3, hv3⟩
  obtain ⟨q3, o3, d3⟩ := u3.at 0
  have len3 := g3.len
  have f3 : (h2.dyn.length ≤ q3 ∧ q3 < h3.dyn.length) ∨ q3 = 0 := by
    rcases d3 with ⟨e1, e2⟩ | ⟨_, e2⟩
    · have := hv3 e1
      exact .inl (by omega)
    · exact .inr e2
  clear d3 hr3 hv3 u3
  simp [ptr]
  refine got_call (Words_own (s.grow g3) lw) ?_
  rintro v4 h4 ⟨r4, u4, g4, hr4, hv4⟩
  obtain ⟨q4, o4, d4⟩ := u4.at 1
  have len4 := g4.len
  have f4 : (h3.dyn.length ≤ q4 ∧ q4 < h4.dyn.length) ∨ q4 = 1 := by
    rcases d4 with ⟨e1, e2⟩ | ⟨_, e2⟩
    · have := hv4 e1
      exact .inl (by omega)
    · exact .inr e2
  clear d4 hr4 hv4 u4
  simp [ptr]
  refine got_call (Words_own ((t.grow g3).grow g4) lw') ?_
  rintro v5 h5 ⟨r5, u5, g5, hr5, hv5⟩
  obtain ⟨q5, o5, d5⟩ := u5.at 2
  have len5 := g5.len
  have f5 : (h4.dyn.length ≤ q5 ∧ q5 < h5.dyn.length) ∨ q5 = 2 := by
    rcases d5 with ⟨e1, e2⟩ | ⟨_, e2⟩
    · have := hv5 e1
      exact .inl (by omega)
    · exact .inr e2
  clear d5 hr5 hv5 u5
  simp [ptr]
  refine got_call (Clone_spec (((s.grow g3).grow g4).grow g5) lw) ?_
  rintro _ h6 ⟨p6, q6, rfl, s6, g6, hp6, hq6⟩
  have len6 := g6.len
  simp [ptr]
  refine got_call (Words_own s6 lw) ?_
  rintro v7 h7 ⟨r7, u7, g7, hr7, hv7⟩
  obtain ⟨q7, o7, d7⟩ := u7.at 3
  have len7 := g7.len
  have f7 : (h6.dyn.length ≤ q7 ∧ q7 < h7.dyn.length) ∨ q7 = 3 := by
    rcases d7 with ⟨e1, e2⟩ | ⟨_, e2⟩
    · have := hv7 e1
      exact .inl (by omega)
    · exact .inr e2
  clear d7 hr7 hv7 u7
  simp [ptr]
  have G27 := (((g3.trans g4).trans g5).trans g6).trans g7
  have G37 := ((g4.trans g5).trans g6).trans g7
  have G47 := (g5.trans g6).trans g7
  have G57 := g6.trans g7
  obtain ⟨h8, hh8⟩ : ∃ H, H = hnew h7 [v3, v4, v5, v7] 1 := ⟨_, rfl⟩
  have g8 : Grow h7 h8 := by rw [hh8]; exact Grow.new _ _ _
  have row8 : RowAt h8 h7.dyn.length 0 1 [v3, v4, v5, v7] := by rw [hh8]; exact RowAt.new _ _ _
  have len8 : h8.dyn.length = h7.dyn.length + 1 := by rw [hh8]; simp
  obtain ⟨v9, h9, q9, e9, o9, g9, hq9, t9⟩ := app_nil (bytes := 8) (z := .int .u64 0) ((o3.grow G37).grow g8).reads (wv_good ws) (by simp; omega) (by simp; omega)
  have len9 := g9.len
  have fq9 : v9 ≠ nilS → q9 < h9.dyn.length := fun hv => o9.lt' hv
  obtain ⟨v10, h10, q10, e10, o10, g10, hq10, t10⟩ := app_nil (bytes := 8) (z := .int .u64 0) (((o5.grow G57).grow g8).grow g9).reads (wv_good ws') (by simp; omega) (by simp; omega)
  have len10 := g10.len
  have fq10 : v10 ≠ nilS → q10 < h10.dyn.length := fun hv => o10.lt' hv
  have row10 := (row8.grow g9).grow g10
  have G810 := (g8.trans g9).trans g10
  have Ls := lists_of (h := h10) (qv := h7.dyn.length) (l := [(v3, q3, ws.map wv), (v4, q4, ws.map wv), (v5, q5, ws'.map wv), (v7, q7, ws.map wv)])
    (by
      simp only [List.mem_cons, List.not_mem_nil, or_false]
      rintro t (rfl | rfl | rfl | rfl)
      · exact ⟨(o3.grow G37).grow G810, by simp only; omega, by simp only; omega, by simp; omega⟩
      · exact ⟨(o4.grow G47).grow G810, by simp only; omega, by simp only; omega, by simp; omega⟩
      · exact ⟨(o5.grow G57).grow G810, by simp only; omega, by simp only; omega, by simp; omega⟩
      · exact ⟨o7.grow G810, by simp only; omega, by simp only; omega, by simp; omega⟩)
    (by simp; omega)
  have hap := colonnadelaw01_apart_spec Ls (by rw [range_map_getD]; exact row10) (by simp) (by simp)
  simp only [List.length_cons, List.length_nil, Nat.zero_add, Nat.reduceAdd] at hap
  simp [o3.good, o4.good, o5.good, o7.good, ← hh8, row8.get (i := 0) rfl, e9, (row8.grow g9).get (i := 2) rfl, e10, iad0, iad2]
  refine got_call hap ?_
  rintro _ h11 ⟨rfl, c11⟩
  have K11 : Chg (fun b => (b = q3 ∨ b = q4 ∨ b = q5 ∨ b = q7) ∨ h10.dyn.length ≤ b) h10 h11 := c11.mono fun b _ e => by
    rcases e with ⟨j, hj, rfl⟩ | e
    · left
      have : j = 0 ∨ j = 1 ∨ j = 2 ∨ j = 3 := by omega
      rcases this with rfl | rfl | rfl | rfl <;> simp
    · exact .inr e
  have len11 := K11.len
  have ro11 : h11.ro = roBlk tabG L := by rw [K11.ro, g10.ro, g9.ro, g8.ro, G27.ro, ro2]
  clear c11 hap Ls
  have s11 := ((s.grow G27).grow G810).chg K11 (by omega) (by omega)
  have t11 := ((t.grow G27).grow G810).chg K11 (by omega) (by omega)
  have was := (o9.grow g10).chgN K11 (fun hv => by have := fq9 hv; omega)
  have oth := o10.chgN K11 (fun hv => by have := fq10 hv; omega)
  have fq9 : v9 ≠ nilS → q9 < h11.dyn.length := fun hv => was.lt' hv
  have fq10 : v10 ≠ nilS → q10 < h11.dyn.length := fun hv => oth.lt' hv
  obtain ⟨lo, hlo⟩ : ∃ lo, lo = h11.dyn.length := ⟨_, rfl⟩
  have slo : p < lo ∧ q < lo ∧ p' < lo ∧ q' < lo := by omega
  have lo8 : 8 ≤ lo := by omega
  have wlo : v9 ≠ nilS → q9 < lo := fun hv => by have := fq9 hv; omega
  have olo : v10 ≠ nilS → q10 < lo := fun hv => by have := fq10 hv; omega
  have q9p : 8 ≤ q9 := by omega
  have q10p : 8 ≤ q10 := by omega
  have pp8 : 8 ≤ p ∧ 8 ≤ q ∧ 8 ≤ p' ∧ 8 ≤ q' := by omega
  clear G37 G47 G57 G27 G810 g10 g9 g8 row8 row10 o9 o10 o3 o4 o5 o7 s6 s t g3 g4 g5 g6 g7 K11 len3 len4 len5 len6 len7 len8 len9 len10 len11 f3 f4 f5 f7 hq9 hq10 fq9 fq10 hp6 hq6 g1 g2 e9 e10
  simp [ptr]
  refine got_call (Words_own s11 lw) ?_
  rintro v12 h12 ⟨q12, o12, g12, -, -⟩
  simp
  refine got_call (sameWords_spec o12.reads (was.grow g12).reads (by omega)) ?_
  rintro _ _ ⟨rfl, rfl⟩
  rename_i h12
  simp
  refine got_call (Words_own (t11.grow g12) lw') ?_
  rintro v13 h13 ⟨q13, o13, g13, -, -⟩
  simp
  refine got_call (sameWords_spec o13.reads ((oth.grow g12).grow g13).reads (by omega)) ?_
  rintro _ _ ⟨rfl, rfl⟩
  rename_i h13
  have G13 := g12.trans g13
  have s13 := s11.grow G13
  have t13 := t11.grow G13
  have was13 := was.grow G13
  have oth13 := oth.grow G13
  have len13 := G13.len
  have ro13 := G13.ro.trans ro11
  have F13 := Fam.zero h13 n lo 0
  clear g12 g13 G13 s11 t11 was oth o12 o13 ro11
  simp [ptr]
  have lo13 : lo ≤ h13.dyn.length := by omega
  refine got_call (And_spec s13 t13 cs ct) ?_
  rintro _ h14 ⟨p14, z14, w14, rfl, m14, cm14, -, g14, pp14, pq14⟩
  obtain ⟨y14, F14⟩ := F13.add g14 m14 cm14 pp14 pq14 lo13 (by omega)
  have s14 := s13.grow g14
  have t14 := t13.grow g14
  have was14 := was13.grow g14
  have oth14 := oth13.grow g14
  have len14 := g14.len
  have lo14 : lo ≤ h14.dyn.length := by omega
  have ro14 := g14.ro.trans ro13
  clear g14 m14 cm14 pp14 pq14 F13 s13 t13 was13 oth13 ro13
  simp [ptr]
  refine got_call (Or_spec s14 t14 cs ct) ?_
  rintro _ h15 ⟨p15, z15, w15, rfl, m15, cm15, -, g15, pp15, pq15⟩
  obtain ⟨y15, F15⟩ := F14.add g15 m15 cm15 pp15 pq15 lo14 (by omega)
  have s15 := s14.grow g15
  have t15 := t14.grow g15
  have was15 := was14.grow g15
  have oth15 := oth14.grow g15
  have len15 := g15.len
  have lo15 : lo ≤ h15.dyn.length := by omega
  have ro15 := g15.ro.trans ro14
  clear g15 m15 cm15 pp15 pq15 F14 s14 t14 was14 oth14 ro14
  simp [ptr]
  refine got_call (Xor_spec s15 t15 cs ct) ?_
  rintro _ h16 ⟨p16, z16, w16, rfl, m16, cm16, -, g16, pp16, pq16⟩
  obtain ⟨y16, F16⟩ := F15.add g16 m16 cm16 pp16 pq16 lo15 (by omega)
  have s16 := s15.grow g16
  have t16 := t15.grow g16
  have was16 := was15.grow g16
  have oth16 := oth15.grow g16
  have len16 := g16.len
  have lo16 : lo ≤ h16.dyn.length := by omega
  have ro16 := g16.ro.trans ro15
  clear g16 m16 cm16 pp16 pq16 F15 s15 t15 was15 oth15 ro15
  simp [ptr]
  refine got_call (Less_spec s16 t16 cs ct) ?_
  rintro _ h17 ⟨p17, z17, w17, rfl, m17, cm17, -, g17, pp17, pq17⟩
  obtain ⟨y17, F17⟩ := F16.add g17 m17 cm17 pp17 pq17 lo16 (by omega)
  have s17 := s16.grow g17
  have t17 := t16.grow g17
  have was17 := was16.grow g17
  have oth17 := oth16.grow g17
  have len17 := g17.len
  have lo17 : lo ≤ h17.dyn.length := by omega
  have ro17 := g17.ro.trans ro16
  clear g17 m17 cm17 pp17 pq17 F16 s16 t16 was16 oth16 ro16
  simp [ptr]
  have j18 := one_set s17 cs
  simp only [ptr] at j18
  refine got_call j18 ?_
  rintro _ h18 ⟨p18, z18, w18, rfl, m18, cm18, g18, pp18, pq18⟩
  clear j18
  obtain ⟨y18, F18⟩ := F17.add g18 m18 cm18 pp18 pq18 lo17 (by omega)
  have s18 := s17.grow g18
  have t18 := t17.grow g18
  have was18 := was17.grow g18
  have oth18 := oth17.grow g18
  have len18 := g18.len
  have lo18 : lo ≤ h18.dyn.length := by omega
  have ro18 := g18.ro.trans ro17
  clear g18 m18 cm18 pp18 pq18 F17 s17 t17 was17 oth17 ro17
  simp [ptr]
  have j19 := one_set s18 cs
  simp only [ptr] at j19
  refine got_call j19 ?_
  rintro _ h19 ⟨p19, z19, w19, rfl, m19, cm19, g19, pp19, pq19⟩
  clear j19
  obtain ⟨y19, F19⟩ := F18.add g19 m19 cm19 pp19 pq19 lo18 (by omega)
  have s19 := s18.grow g19
  have t19 := t18.grow g19
  have was19 := was18.grow g19
  have oth19 := oth18.grow g19
  have len19 := g19.len
  have lo19 : lo ≤ h19.dyn.length := by omega
  have ro19 := g19.ro.trans ro18
  clear g19 m19 cm19 pp19 pq19 F18 s18 t18 was18 oth18 ro18
  obtain ⟨vW, h20, qW0, eW, oW0, g20, hqW, tW⟩ := app_nil (bytes := 8) (z := .int .u64 0) was19.reads (wv_good ws) (by simp; omega) (by simp; omega)
  obtain ⟨qW, wo20, dW⟩ := oW0.at 0
  have fW : qW < h20.dyn.length ∧ (h19.dyn.length ≤ qW ∨ qW = 0) := by
    have := g20.len
    rcases dW with ⟨e1, e2⟩ | ⟨_, e2⟩
    · have := oW0.lt' e1
      omega
    · omega
  have F20 := (F19.mark (x' := qW) (by omega)).grow g20
  have s20 := s19.grow g20
  have t20 := t19.grow g20
  have was20 := was19.grow g20
  have oth20 := oth19.grow g20
  have len20 := g20.len
  have lo20 : lo ≤ h20.dyn.length := by omega
  have ro20 := g20.ro.trans ro19
  have fW1 := fW.1
  have fW2 : vW ≠ nilS → h19.dyn.length ≤ qW := fun hv => by
    rcases dW with ⟨e1, e2⟩ | ⟨e1, _⟩
    · omega
    · exact absurd e1 hv
  have fW3 : lo ≤ qW ∨ qW = 0 := by omega
  clear g20 F19 s19 t19 was19 oth19 ro19 oW0 dW hqW fW fW2
  obtain ⟨bW, cW, rfl, wW⟩ := own_words wo20 tW lw
  simp [eW]
  obtain ⟨bW', cW', eW21, wW21⟩ := own_words wo20 tW lw
  simp only [Value.slice.injEq] at eW21
  obtain ⟨rfl, -, rfl⟩ := eW21
  refine got_call (load_spec wW21 cs) ?_
  rintro _ h21 ⟨p21, z21, rfl, m21, g21, pp21, pq21⟩
  have cm21 := cs
  have w21 := ws
  obtain ⟨y21, F21⟩ := F20.add g21 m21 cs pp21 pq21 lo20 (by omega)
  have s21 := s20.grow g21
  have t21 := t20.grow g21
  have was21 := was20.grow g21
  have oth21 := oth20.grow g21
  have len21 := g21.len
  have lo21 : lo ≤ h21.dyn.length := by omega
  have ro21 := g21.ro.trans ro20
  have wo21 := wo20.grow g21
  clear g21 m21 pp21 pq21 F20 s20 t20 was20 oth20 ro20 wo20 wW21
  simp [ptr]
  obtain ⟨bW', cW', eW22, wW22⟩ := own_words wo21 tW lw
  simp only [Value.slice.injEq] at eW22
  obtain ⟨rfl, -, rfl⟩ := eW22
  refine got_call (load_spec wW22 cs) ?_
  rintro _ h22 ⟨p22, z22, rfl, m22, g22, pp22, pq22⟩
  have cm22 := cs
  have w22 := ws
  obtain ⟨y22, F22⟩ := F21.add g22 m22 cs pp22 pq22 lo21 (by omega)
  have s22 := s21.grow g22
  have t22 := t21.grow g22
  have was22 := was21.grow g22
  have oth22 := oth21.grow g22
  have len22 := g22.len
  have lo22 : lo ≤ h22.dyn.length := by omega
  have ro22 := g22.ro.trans ro21
  have wo22 := wo21.grow g22
  clear g22 m22 pp22 pq22 F21 s21 t21 was21 oth21 ro21 wo21 wW22
  simp [ptr]
  refine got_call (Clone_spec s22 lw) ?_
  rintro _ h23 ⟨p23, z23, rfl, m23, g23, pp23, pq23⟩
  have cm23 := cs
  obtain ⟨y23, F23⟩ := F22.add g23 m23 cm23 pp23 pq23 lo22 (by omega)
  have s23 := s22.grow g23
  have t23 := t22.grow g23
  have was23 := was22.grow g23
  have oth23 := oth22.grow g23
  have len23 := g23.len
  have lo23 : lo ≤ h23.dyn.length := by omega
  have ro23 := g23.ro.trans ro22
  have wo23 := wo22.grow g23
  clear g23 m23 cm23 pp23 pq23 F22 s22 t22 was22 oth22 ro22 wo22
  simp [ptr, k0, z0]
  refine got_call (Clone_spec s23 lw) ?_
  rintro _ h24 ⟨p24, z24, rfl, m24, g24, pp24, pq24⟩
  have cm24 := cs
  obtain ⟨y24, F24⟩ := F23.add g24 m24 cm24 pp24 pq24 lo23 (by omega)
  have s24 := s23.grow g24
  have t24 := t23.grow g24
  have was24 := was23.grow g24
  have oth24 := oth23.grow g24
  have len24 := g24.len
  have lo24 : lo ≤ h24.dyn.length := by omega
  have ro24 := g24.ro.trans ro23
  have wo24 := wo23.grow g24
  clear g24 m24 cm24 pp24 pq24 F23 s23 t23 was23 oth23 ro23 wo23
  simp [ptr, k0, z0]
  refine got_call (Not_spec s24 cs) ?_
  rintro _ h25 ⟨p25, z25, w25, rfl, m25, cm25, -, g25, pp25, pq25⟩
  obtain ⟨y25, F25⟩ := F24.add g25 m25 cm25 pp25 pq25 lo24 (by omega)
  have s25 := s24.grow g25
  have t25 := t24.grow g25
  have was25 := was24.grow g25
  have oth25 := oth24.grow g25
  have len25 := g25.len
  have lo25 : lo ≤ h25.dyn.length := by omega
  have ro25 := g25.ro.trans ro24
  have wo25 := wo24.grow g25
  clear g25 m25 cm25 pp25 pq25 F24 s24 t24 was24 oth24 ro24 wo24
  simp [ptr, k0, z0]
  refine got_call (Not_spec s25 cs) ?_
  rintro _ h26 ⟨p26, z26, w26, rfl, m26, cm26, -, g26, pp26, pq26⟩
  obtain ⟨y26, F26⟩ := F25.add g26 m26 cm26 pp26 pq26 lo25 (by omega)
  have s26 := s25.grow g26
  have t26 := t25.grow g26
  have was26 := was25.grow g26
  have oth26 := oth25.grow g26
  have len26 := g26.len
  have lo26 : lo ≤ h26.dyn.length := by omega
  have ro26 := g26.ro.trans ro25
  have wo26 := wo25.grow g26
  clear g26 m26 cm26 pp26 pq26 F25 s25 t25 was25 oth25 ro25 wo25
  simp [ptr, k0, z0]
  refine got_call (slice_spec s26 cs 0 n (f := 0) (t := n) (by omega) (by omega)) ?_
  rintro _ h27 ⟨p27, z27, w27, rfl, m27, cm27, -, g27, pp27, pq27⟩
  rw [Nat.sub_zero] at m27 cm27
  obtain ⟨y27, F27⟩ := F26.add g27 m27 cm27 pp27 pq27 lo26 (by omega)
  have s27 := s26.grow g27
  have t27 := t26.grow g27
  have was27 := was26.grow g27
  have oth27 := oth26.grow g27
  have len27 := g27.len
  have lo27 : lo ≤ h27.dyn.length := by omega
  have ro27 := g27.ro.trans ro26
  have wo27 := wo26.grow g27
  clear g27 m27 cm27 pp27 pq27 F26 s26 t26 was26 oth26 ro26 wo26
  simp [ptr, k0, z0]
  refine got_call (slice_spec s27 cs 0 n (f := 0) (t := n) (by omega) (by omega)) ?_
  rintro _ h28 ⟨p28, z28, w28, rfl, m28, cm28, -, g28, pp28, pq28⟩
  rw [Nat.sub_zero] at m28 cm28
  obtain ⟨y28, F28⟩ := F27.add g28 m28 cm28 pp28 pq28 lo27 (by omega)
  have s28 := s27.grow g28
  have t28 := t27.grow g28
  have was28 := was27.grow g28
  have oth28 := oth27.grow g28
  have len28 := g28.len
  have lo28 : lo ≤ h28.dyn.length := by omega
  have ro28 := g28.ro.trans ro27
  have wo28 := wo27.grow g28
  clear g28 m28 cm28 pp28 pq28 F27 s27 t27 was27 oth27 ro27 wo27
  simp [ptr, k0, z0]
  refine got_call (Of_spec (x0.ro ro28).reads (by omega)) ?_
  rintro _ h29 ⟨p29, z29, w29, rfl, m29, cm29, -, g29, pp29, pq29⟩
  rw [nx] at m29 cm29
  obtain ⟨y29, F29⟩ := F28.add g29 m29 cm29 pp29 pq29 lo28 (by omega)
  have s29 := s28.grow g29
  have t29 := t28.grow g29
  have was29 := was28.grow g29
  have oth29 := oth28.grow g29
  have len29 := g29.len
  have lo29 : lo ≤ h29.dyn.length := by omega
  have ro29 := g29.ro.trans ro28
  have wo29 := wo28.grow g29
  clear g29 m29 cm29 pp29 pq29 F28 s28 t28 was28 oth28 ro28 wo28
  simp [ptr, k0, z0]
  refine got_call (new_spec (n := n) (by omega)) ?_
  rintro _ h30 ⟨p30, z30, rfl, m30, g30, pp30, pq30⟩
  have cm30 := (canon_zero (n := n) (by omega)).1
  obtain ⟨y30, F30⟩ := F29.add g30 m30 cm30 pp30 pq30 lo29 (by omega)
  have s30 := s29.grow g30
  have t30 := t29.grow g30
  have was30 := was29.grow g30
  have oth30 := oth29.grow g30
  have len30 := g30.len
  have lo30 : lo ≤ h30.dyn.length := by omega
  have ro30 := g30.ro.trans ro29
  have wo30 := wo29.grow g30
  clear g30 m30 cm30 pp30 pq30 F29 s29 t29 was29 oth29 ro29 wo29
  simp [ptr, k0, z0]
  refine got_call (new_spec (n := n) (by omega)) ?_
  rintro _ h31 ⟨p31, z31, rfl, m31, g31, pp31, pq31⟩
  have cm31 := (canon_zero (n := n) (by omega)).1
  obtain ⟨y31, F31⟩ := F30.add g31 m31 cm31 pp31 pq31 lo30 (by omega)
  have s31 := s30.grow g31
  have t31 := t30.grow g31
  have was31 := was30.grow g31
  have oth31 := oth30.grow g31
  have len31 := g31.len
  have lo31 : lo ≤ h31.dyn.length := by omega
  have ro31 := g31.ro.trans ro30
  have wo31 := wo30.grow g31
  clear g31 m31 cm31 pp31 pq31 F30 s30 t30 was30 oth30 ro30 wo30
  simp [ptr, k0, z0]
  obtain ⟨D, hD⟩ : ∃ D : List SetD, D = [⟨p23, y23, n, ws⟩, ⟨p24, y24, n, ws⟩, ⟨p25, y25, n, w25⟩, ⟨p26, y26, n, w26⟩, ⟨p27, y27, n, w27⟩, ⟨p28, y28, n, w28⟩, ⟨p18, y18, n, w18⟩, ⟨p19, y19, n, w19⟩, ⟨p21, y21, n, ws⟩, ⟨p22, y22, n, ws⟩, ⟨p14, y14, n, w14⟩, ⟨p15, y15, n, w15⟩, ⟨p16, y16, n, w16⟩, ⟨p17, y17, n, w17⟩, ⟨p29, y29, n, w29⟩, ⟨p30, y30, n, (List.replicate ((n + 63) / 64) 0)⟩, ⟨p31, y31, n, (List.replicate ((n + 63) / 64) 0)⟩] := ⟨_, rfl⟩
  have FL := F31
  simp only [List.nil_append, List.cons_append, List.append_assoc] at FL
  have FD : Fam h31 n lo qW D := FL.perm (by
    rw [hD]
    show ([⟨p14, y14, n, w14⟩, ⟨p15, y15, n, w15⟩, ⟨p16, y16, n, w16⟩, ⟨p17, y17, n, w17⟩] ++ [⟨p18, y18, n, w18⟩, ⟨p19, y19, n, w19⟩, ⟨p21, y21, n, ws⟩, ⟨p22, y22, n, ws⟩] ++ [⟨p23, y23, n, ws⟩, ⟨p24, y24, n, ws⟩, ⟨p25, y25, n, w25⟩, ⟨p26, y26, n, w26⟩, ⟨p27, y27, n, w27⟩, ⟨p28, y28, n, w28⟩] ++ [⟨p29, y29, n, w29⟩, ⟨p30, y30, n, (List.replicate ((n + 63) / 64) 0)⟩, ⟨p31, y31, n, (List.replicate ((n + 63) / 64) 0)⟩] : List SetD).Perm ([⟨p23, y23, n, ws⟩, ⟨p24, y24, n, ws⟩, ⟨p25, y25, n, w25⟩, ⟨p26, y26, n, w26⟩, ⟨p27, y27, n, w27⟩, ⟨p28, y28, n, w28⟩] ++ [⟨p18, y18, n, w18⟩, ⟨p19, y19, n, w19⟩, ⟨p21, y21, n, ws⟩, ⟨p22, y22, n, ws⟩] ++ [⟨p14, y14, n, w14⟩, ⟨p15, y15, n, w15⟩, ⟨p16, y16, n, w16⟩, ⟨p17, y17, n, w17⟩] ++ [⟨p29, y29, n, w29⟩, ⟨p30, y30, n, (List.replicate ((n + 63) / 64) 0)⟩, ⟨p31, y31, n, (List.replicate ((n + 63) / 64) 0)⟩])
    refine List.Perm.append_right _ ?_
    refine (List.perm_append_comm).trans ?_
    rw [List.append_assoc]
    exact List.Perm.append_left _ List.perm_append_comm)
  have Dlen : D.length = 17 := by rw [hD]; rfl
  obtain ⟨P_, Q_, W0, hrow, FW0, hQ_⟩ := FD.byPlace
  rw [Dlen] at hrow FW0 hQ_
  have hDp : ([.pointer (some ⟨p23, 0, some 0⟩), .pointer (some ⟨p24, 0, some 0⟩), .pointer (some ⟨p25, 0, some 0⟩), .pointer (some ⟨p26, 0, some 0⟩), .pointer (some ⟨p27, 0, some 0⟩), .pointer (some ⟨p28, 0, some 0⟩), .pointer (some ⟨p18, 0, some 0⟩), .pointer (some ⟨p19, 0, some 0⟩), .pointer (some ⟨p21, 0, some 0⟩), .pointer (some ⟨p22, 0, some 0⟩), .pointer (some ⟨p14, 0, some 0⟩), .pointer (some ⟨p15, 0, some 0⟩), .pointer (some ⟨p16, 0, some 0⟩), .pointer (some ⟨p17, 0, some 0⟩), .pointer (some ⟨p29, 0, some 0⟩), .pointer (some ⟨p30, 0, some 0⟩), .pointer (some ⟨p31, 0, some 0⟩)] : List Value) = (List.range 17).map (fun j => ptr (P_ j)) := by rw [← hrow, hD]; rfl
  clear F31 FL hD hrow FD
  obtain ⟨R, hR⟩ : ∃ R, R = h31.dyn.length := ⟨_, rfl⟩
  simp only [hDp, ← hR]

  obtain ⟨H, hH⟩ : ∃ H, H = hnew h31 ((List.range 17).map fun j => ptr (P_ j)) 1 := ⟨_, rfl⟩
  have gH : Grow h31 H := by rw [hH]; exact Grow.new _ _ _
  have rowH : RowAt H R 0 1 ((List.range 17).map fun j => ptr (P_ j)) := by rw [hH, hR]; exact RowAt.new _ _ _
  have lenH : H.dyn.length = R + 1 := by rw [hH, hR]; simp
  have FH := FW0.grow gH
  have wH := wo31.grow gH
  have sH := s31.grow gH
  have tH := t31.grow gH
  have wasH := was31.grow gH
  have othH := oth31.grow gH
  have roH := gH.ro.trans ro31
  have hQR : ∀ b, (∃ j, j < 17 ∧ b = Q_ j) → lo ≤ b ∧ b < R ∧ b ≠ qW := fun b ⟨j, hj, e⟩ => by have := hQ_ j hj; omega
  rw [← hH]
  refine go_loopK (fun kk ks hh => ∃ (i qu : Nat) (u : Value) (kv : Nat → Value), kk = 17 - i ∧ i ≤ 17 ∧ ks = [(0, v0), (1, v1), (2, .int .i64 at_), (7, .int .i64 n), (8, ptr p), (9, ptr p'), (11, v9), (12, v10), (25, .slice bW ws.length cW), (30, .slice (some ⟨R, 0, some 0⟩) 17 17), (31, u), (32, .int .i64 i)] ∧ Kept hh i (R + 1) W0 u qu kv ∧ Grow H hh) (n := 17) ⟨0, 0, nilS, fun _ => nilS, rfl, by omega, rfl, Kept.zero _ _ _ _, Chg.refl _⟩ (by simp [nilS, ptr]) ?_
  rintro I hI kk ks e hh ⟨i, qu, u, kv, rfl, hi, rfl, K, gg⟩
  simp
  refine branch_dec (fun hlt => ?_) (fun hge => ?_)
  · have hi17 : i < 17 := by omega
    have e4 : IntKind.i64.wrap ((i : Int) + 1) = ((i + 1 : Nat) : Int) := by rw [wrap_i64 (by omega) (by omega)]; omega
    have ld := (rowH.grow gg).get (i := i) (range_get hi17)
    obtain ⟨si, ci⟩ := (FH.grow gg).s i hi17
    have hgl := gg.len
    simp only [ptr] at ld
    simp [hi17, ld]
    refine got_call (len_spec si) ?_
    rintro _ _ ⟨rfl, rfl⟩
    rename_i hh
    simp [ld, hi17]
    refine got_call (Words_own si (canon_len ci)) ?_
    rintro v h1 ⟨q1, o1, g1, hq1, hv1⟩
    obtain ⟨u', h2, qu', kv', ea, K', c'⟩ := K.step g1 o1 hq1 hv1 (by omega) (by omega)
    simp [o1.good, ea, e4]
    exact ⟨17 - (i + 1), by omega, hI _ _ _ _ ⟨i + 1, qu', u', kv', rfl, by omega, rfl, K', (gg.trans g1).after c' (fun b hb e => by have := K.ql e.2; have := e.1; omega)⟩ (by simp [ptr])⟩
  have hi17 : i = 17 := by omega
  subst hi17
  clear hge hI
  have Fh := FH.grow gg
  have wh := wH.grow gg
  have sh := sH.grow gg
  have th := tH.grow gg
  have wash := wasH.grow gg
  have othh := othH.grow gg
  have roh := gg.ro.trans roH
  have rowh := rowH.grow gg
  clear FH wH sH tH wasH othH roH rowH gg
  obtain ⟨bu, cu, eu, _⟩ := K.own.shape
  simp only [List.length_map, List.length_range] at eu
  subst eu
  simp
  refine go_loopK (fun kk ks hx => ∃ (i : Nat) (W : Nat → List (BitVec 64)), kk = 17 - i ∧ i ≤ 17 ∧ ks = [(0, v0), (1, v1), (2, .int .i64 at_), (7, .int .i64 n), (8, ptr p), (9, ptr p'), (11, v9), (12, v10), (25, .slice bW ws.length cW), (30, .slice (some ⟨R, 0, some 0⟩) 17 17), (31, .slice bu 17 cu), (33, .int .i64 i)] ∧ FamW hx 17 n P_ Q_ W ∧ (∀ j, j < i → W j ≠ W0 j) ∧ (∀ j, j < 17 → i ≤ j → W j = W0 j) ∧
    Chg (fun b => ∃ j, j < 17 ∧ b = Q_ j) hh hx) (n := 17) ⟨0, W0, rfl, by omega, rfl, Fh, fun j hj => absurd hj (Nat.not_lt_zero _), fun j hj h => rfl, Chg.refl _⟩ (by simp [ptr]) ?_
  rintro I hI kk ks e hx ⟨i, W, rfl, hi, rfl, FW, hne, heq, c⟩
  simp
  by_cases hgo : i < 17 ∧ 0 < n
  · obtain ⟨hi17, hn0⟩ := hgo
    have e4 : IntKind.i64.wrap ((i : Int) + 1) = ((i + 1 : Nat) : Int) := by rw [wrap_i64 (by omega) (by omega)]; omega
    have hi17' : (i : Int) < 17 := by omega
    have ld := (rowh.chg c (fun e => by have := hQR _ e; omega)).get (i := i) (range_get hi17)
    simp only [ptr] at ld
    obtain ⟨si, ci⟩ := FW.s i hi17
    obtain ⟨k, hk, hkn⟩ : ∃ k : Nat, at_ % n = k ∧ k < n := ⟨(at_ % n).toNat, by have := Int.emod_nonneg at_ (show (n : Int) ≠ 0 by omega); omega, by have := Int.emod_lt_of_pos at_ (show (0 : Int) < n by omega); omega⟩
    simp [hi17, hi17', hn0, skipV]
    refine got_call (pick_spec at_ hn0 (by omega)) ?_
    rintro _ _ ⟨rfl, rfl⟩
    rename_i hx
    simp [hk, hi17, ld, pushP_in]
    refine got_call (get_spec si ci _) ?_
    rintro _ _ ⟨rfl, rfl⟩
    rename_i hx
    simp [hk, hi17, ld, pushP_in]
    refine got_call (Put_spec si ci hkn _) ?_
    rintro _ h1 ⟨rfl, ws2, s2, c2, hb2, ch2⟩
    have F1 := FW.put hi17 s2 c2 ch2
    have hflip : ws2 ≠ W i := hold_flip (by simpa using hb2)
    have K1 := (K.chg c (fun b e => by have := hQR b e; omega)).chg ch2 (fun b e => by have := hQR b ⟨i, hi17, e⟩; omega)
    have row1 := (rowh.chg c (fun e => by have := hQR _ e; omega)).chg ch2 (fun e => by have := hQR _ ⟨i, hi17, e⟩; omega)
    have c1 := c.trans (ch2.mono fun b hb e => ⟨i, hi17, e⟩)
    simp
    refine go_loopK (fun kk ks hy => ∃ (j : Nat), kk = 17 - j ∧ j ≤ 17 ∧ ks = [(0, v0), (1, v1), (2, .int .i64 at_), (7, .int .i64 n), (8, ptr p), (9, ptr p'), (11, v9), (12, v10), (25, .slice bW ws.length cW), (30, .slice (some ⟨R, 0, some 0⟩) 17 17), (31, .slice bu 17 cu), (33, .int .i64 i), (35, .int .i64 j)] ∧ Grow h1 hy) (n := 17) ⟨0, rfl, by omega, rfl, Chg.refl _⟩ (by simp [ptr]) ?_
    rintro I2 hI2 kk2 ks2 e2 hy ⟨j, rfl, hj, rfl, gy⟩
    simp
    refine branch_dec (fun hlt => ?_) (fun hge => ?_)
    · have hj17 : j < 17 := by omega
      have e5 : IntKind.i64.wrap ((j : Int) + 1) = ((j + 1 : Nat) : Int) := by rw [wrap_i64 (by omega) (by omega)]; omega
      have ldj := (row1.grow gy).get (i := j) (range_get hj17)
      simp only [ptr] at ldj
      have Ky := K1.chg gy (fun b e => e.elim)
      obtain ⟨ak, ck, eq, _, ldk⟩ := Ky.own.get (range_get hj17)
      simp only [Value.slice.injEq, List.length_map, List.length_range] at eq
      obtain ⟨rfl, -, rfl⟩ := eq
      obtain ⟨sj, cj⟩ := (F1.grow gy).s j hj17
      have rdk := Ky.reads hj17
      have vk : vsame (kv j) (some (kv j)) = true := by
        obtain ⟨bk, ck, ek, _⟩ := rdk.shape
        rw [ek]; simp
      by_cases hij : i < j
      · have hij1 : (i : Int) < j := by omega
        have hij2 : ¬ (j : Int) ≤ i := by omega
        have hij3 : ¬ j ≤ i := by omega
        have hji : j ≠ i := by omega
        have hw : (if j = i then ws2 else W j) = W0 j := by rw [if_neg hji]; exact heq j hj17 (by omega)
        rw [hw] at sj cj
        simp [hij, hij1, hj17, ldj]
        refine got_call (Words_own sj (canon_len cj)) ?_
        rintro v h3 ⟨q3, o3, g3, -, -⟩
        simp [hj17, ldk, hload_grow g3 ldk, vk]
        refine got_call (sameWords_spec o3.reads (rdk.grow g3) (by have := canon_len cj; omega)) ?_
        rintro _ _ ⟨rfl, rfl⟩
        simp [hij2, hij3, e5, skipV]
        exact ⟨17 - (j + 1), by omega, hI2 _ _ _ _ ⟨j + 1, rfl, by omega, rfl, gy.trans g3⟩ (by simp [ptr])⟩
      · have hij1 : ¬ (i : Int) < j := by omega
        have hij2 : (j : Int) ≤ i := by omega
        have hij3 : j ≤ i := by omega
        have hw : (if j = i then ws2 else W j) ≠ W0 j := by
          by_cases hji : j = i
          · subst hji
            rw [if_pos rfl, ← heq j hj17 (Nat.le_refl _)]
            exact hflip
          · rw [if_neg hji]; exact hne j (by omega)
        obtain ⟨wj, hwj⟩ : ∃ z, (if j = i then ws2 else W j) = z := ⟨_, rfl⟩
        rw [hwj] at sj cj hw
        simp [hij, hij1, hij2, hij3, hj17, ldj, skipV]
        refine got_call (Words_own sj (canon_len cj)) ?_
        rintro v h3 ⟨q3, o3, g3, -, -⟩
        simp [hj17, ldk, hload_grow g3 ldk, vk]
        refine got_call (sameWords_spec o3.reads (rdk.grow g3) (by have := canon_len cj; omega)) ?_
        rintro _ _ ⟨rfl, rfl⟩
        simp [hw, e5, skipV]
        exact ⟨17 - (j + 1), by omega, hI2 _ _ _ _ ⟨j + 1, rfl, by omega, rfl, gy.trans g3⟩ (by simp [ptr])⟩
    have hj17 : j = 17 := by omega
    subst hj17
    simp [e4]
    refine ⟨17 - (i + 1), by omega, hI _ _ _ _ ⟨i + 1, _, rfl, by omega, rfl, F1.grow gy, fun j hj => ?_, fun j hj hj2 => ?_, c1.trans gy.chg⟩ (by simp [ptr])⟩
    · by_cases hji : j = i
      · subst hji
        simp only [if_true]
        rw [← heq j hi17 (Nat.le_refl _)]
        exact hflip
      · simp only [if_neg hji]; exact hne j (by omega)
    · have hji : j ≠ i := by omega
      simp only [if_neg hji]
      exact heq j hj (by omega)
  -- the words written over
  have ww : bW = none → qW = 0 → True := fun _ _ => trivial
  have wx := wh.chg c (fun e => by have := hQR _ e; omega)
  have sx := sh.chg c (fun e => by have := hQR _ e; omega) (fun e => by have := hQR _ e; omega)
  have tx := th.chg c (fun e => by have := hQR _ e; omega) (fun e => by have := hQR _ e; omega)
  have wasx := wash.chgN c (fun hv e => by have := hQR _ e; have := wlo hv; omega)
  have othx := othh.chgN c (fun hv e => by have := hQR _ e; have := olo hv; omega)
  have rox := c.ro.trans roh
  clear wh sh th wash othh roh rowh K Fh FW hne heq c hI
  have hgo' : i < 17 → ¬ 0 < n := fun h1 h2 => hgo ⟨h1, h2⟩
  have hx0 : ((i : Int) < 17 ∧ ¬ 0 < n) ∨ ¬ ((i : Int) < 17) := by omega
  obtain ⟨b10, c10, e10, _⟩ := othx.shape
  simp only [List.length_map] at e10
  subst e10
  obtain ⟨N, hN⟩ : ∃ N, (n + 63) / 64 = N := ⟨_, rfl⟩
  rw [hN] at lws lwt
  rw [lwt] at othx t10 olo
  rw [lws] at wx tW
  rcases hx0 with ⟨hx1, hx2⟩ | hx1

  · simp [hx1, hx2, lws, lwt]
    refine go_loopK (fun kk ks hz => ∃ (i : Nat), kk = N - i ∧ i ≤ N ∧ ks = [(0, v0), (1, v1), (7, .int .i64 n), (8, ptr p), (9, ptr p'), (11, v9), (12, .slice b10 N c10), (25, .slice bW N cW), (36, .int .i64 i)] ∧ Own hz (.slice bW N cW) qW ((ws'.take i ++ ws.drop i).map wv) ∧ Chg (fun b => b = qW ∧ bW ≠ none) hx hz) (n := N) ⟨0, rfl, by omega, rfl, by simpa using wx, Chg.refl _⟩ (by simp [ptr]) ?_
    rintro I hI kk ks e hz ⟨i, rfl, hi, rfl, wz, cz⟩
    have othz := othx.chgN cz (fun hv e => by have := olo hv; have := e.1; omega)
    simp
    refine branch_dec (fun hlt => ?_) (fun hge => ?_)
    · have hiN : i < N := by omega
      have e4 : IntKind.i64.wrap ((i : Int) + 1) = ((i + 1 : Nat) : Int) := by rw [wrap_i64 (by omega) (by omega)]; omega
      obtain ⟨x, hx⟩ : ∃ x, ws'[i]? = some x := ⟨_, List.getElem?_eq_getElem (by omega)⟩
      obtain ⟨ao, co, eo, _, ldo⟩ := othz.get (i := i) (x := wv x) (by rw [List.getElem?_map, hx]; rfl)
      simp only [Value.slice.injEq] at eo
      obtain ⟨rfl, -, rfl⟩ := eo
      obtain ⟨u, c, h4, e5, e6, w4, c4, n4⟩ := wz.set (i := i) (by simp; omega) (x := wv x) (by simp [wv])
      simp only [Value.slice.injEq] at e5
      obtain ⟨rfl, -, rfl⟩ := e5
      have hll : (ws'.take i ++ ws.drop i).length = N := by simp; omega
      rw [wv_set', fill_step hx (by omega)] at w4
      simp only [wv] at e6 ldo
      have hiw : i < ws.length := by omega
      have hio : i < ws'.length := by omega
      simp [hiN, ldo, e6, e4]
      exact ⟨N - (i + 1), by omega, hI _ _ _ _ ⟨i + 1, rfl, by omega, rfl, w4, cz.trans (c4.mono fun b hb e => ⟨e, by simp⟩)⟩ (by simp [ptr])⟩
    have hiN : i = N := by omega
    subst hiN
    have roz := cz.ro.trans rox
    have sz := sx.chg cz (fun e => by have := e.1; omega) (fun e => by have := e.1; omega)
    have tz := tx.chg cz (fun e => by have := e.1; omega) (fun e => by have := e.1; omega)
    have wasz := wasx.chgN cz (fun hv e => by have := wlo hv; have := e.1; omega)
    have wl : ws'.take i ++ ws.drop i = ws' := by rw [List.take_of_length_le (by omega), List.drop_of_length_le (by omega), List.append_nil]
    rw [wl] at wz
    obtain ⟨b', c', e', w'⟩ := own_words wz tW lw'
    have ld := load_spec w' ct
    rw [← e'] at ld
    simp
    refine got_call ld ?_
    rintro _ hA ⟨pA, qA, rfl, sA, gA, -, -⟩
    simp [ptr]
    refine got_call (alike_spec sA (tz.grow gA) lw' lw') ?_
    rintro _ hB ⟨rfl, gB⟩
    have G1 := gA.trans gB
    simp [ptr]
    refine got_call (Words_own (sz.grow G1) lw) ?_
    rintro vC hC ⟨qC, oC, gC, -, -⟩
    have G2 := G1.trans gC
    simp
    refine got_call (sameWords_spec oC.reads (wasz.grow G2).reads (by omega)) ?_
    rintro _ _ ⟨rfl, rfl⟩
    rename_i hC
    simp [ptr]
    refine got_call (Words_own (tz.grow G2) lw') ?_
    rintro vD hD ⟨qD, oD, gD, -, -⟩
    have G3 := G2.trans gD
    simp
    refine got_call (sameWords_spec oD.reads (othz.grow G3).reads (by omega)) ?_
    rintro _ _ ⟨rfl, rfl⟩
    rename_i hD
    have roD := G3.ro.trans roz
    simp [k0, z0, k1, z1, ptr]
    refine got_call (again_spec nx ny hn (x0.ro roD).reads (x1.ro roD).reads (fun h' e => ⟨(x0.ro (e.trans roD)).reads, (x1.ro (e.trans roD)).reads⟩) (sz.grow G3) cs hs (tz.grow G3) ct ht) ?_
    rintro _ _ rfl
    simp
    exact hQ _ _ rfl

  · simp [hx1, lws, lwt]
    refine go_loopK (fun kk ks hz => ∃ (i : Nat), kk = N - i ∧ i ≤ N ∧ ks = [(0, v0), (1, v1), (7, .int .i64 n), (8, ptr p), (9, ptr p'), (11, v9), (12, .slice b10 N c10), (25, .slice bW N cW), (36, .int .i64 i)] ∧ Own hz (.slice bW N cW) qW ((ws'.take i ++ ws.drop i).map wv) ∧ Chg (fun b => b = qW ∧ bW ≠ none) hx hz) (n := N) ⟨0, rfl, by omega, rfl, by simpa using wx, Chg.refl _⟩ (by simp [ptr]) ?_
    rintro I hI kk ks e hz ⟨i, rfl, hi, rfl, wz, cz⟩
    have othz := othx.chgN cz (fun hv e => by have := olo hv; have := e.1; omega)
    simp
    refine branch_dec (fun hlt => ?_) (fun hge => ?_)
    · have hiN : i < N := by omega
      have e4 : IntKind.i64.wrap ((i : Int) + 1) = ((i + 1 : Nat) : Int) := by rw [wrap_i64 (by omega) (by omega)]; omega
      obtain ⟨x, hx⟩ : ∃ x, ws'[i]? = some x := ⟨_, List.getElem?_eq_getElem (by omega)⟩
      obtain ⟨ao, co, eo, _, ldo⟩ := othz.get (i := i) (x := wv x) (by rw [List.getElem?_map, hx]; rfl)
      simp only [Value.slice.injEq] at eo
      obtain ⟨rfl, -, rfl⟩ := eo
      obtain ⟨u, c, h4, e5, e6, w4, c4, n4⟩ := wz.set (i := i) (by simp; omega) (x := wv x) (by simp [wv])
      simp only [Value.slice.injEq] at e5
      obtain ⟨rfl, -, rfl⟩ := e5
      have hll : (ws'.take i ++ ws.drop i).length = N := by simp; omega
      rw [wv_set', fill_step hx (by omega)] at w4
      simp only [wv] at e6 ldo
      have hiw : i < ws.length := by omega
      have hio : i < ws'.length := by omega
      simp [hiN, ldo, e6, e4]
      exact ⟨N - (i + 1), by omega, hI _ _ _ _ ⟨i + 1, rfl, by omega, rfl, w4, cz.trans (c4.mono fun b hb e => ⟨e, by simp⟩)⟩ (by simp [ptr])⟩
    have hiN : i = N := by omega
    subst hiN
    have roz := cz.ro.trans rox
    have sz := sx.chg cz (fun e => by have := e.1; omega) (fun e => by have := e.1; omega)
    have tz := tx.chg cz (fun e => by have := e.1; omega) (fun e => by have := e.1; omega)
    have wasz := wasx.chgN cz (fun hv e => by have := wlo hv; have := e.1; omega)
    have wl : ws'.take i ++ ws.drop i = ws' := by rw [List.take_of_length_le (by omega), List.drop_of_length_le (by omega), List.append_nil]
    rw [wl] at wz
    obtain ⟨b', c', e', w'⟩ := own_words wz tW lw'
    have ld := load_spec w' ct
    rw [← e'] at ld
    simp
    refine got_call ld ?_
    rintro _ hA ⟨pA, qA, rfl, sA, gA, -, -⟩
    simp [ptr]
    refine got_call (alike_spec sA (tz.grow gA) lw' lw') ?_
    rintro _ hB ⟨rfl, gB⟩
    have G1 := gA.trans gB
    simp [ptr]
    refine got_call (Words_own (sz.grow G1) lw) ?_
    rintro vC hC ⟨qC, oC, gC, -, -⟩
    have G2 := G1.trans gC
    simp
    refine got_call (sameWords_spec oC.reads (wasz.grow G2).reads (by omega)) ?_
    rintro _ _ ⟨rfl, rfl⟩
    rename_i hC
    simp [ptr]
    refine got_call (Words_own (tz.grow G2) lw') ?_
    rintro vD hD ⟨qD, oD, gD, -, -⟩
    have G3 := G2.trans gD
    simp
    refine got_call (sameWords_spec oD.reads (othz.grow G3).reads (by omega)) ?_
    rintro _ _ ⟨rfl, rfl⟩
    rename_i hD
    have roD := G3.ro.trans roz
    simp [k0, z0, k1, z1, ptr]
    refine got_call (again_spec nx ny hn (x0.ro roD).reads (x1.ro roD).reads (fun h' e => ⟨(x0.ro (e.trans roD)).reads, (x1.ro (e.trans roD)).reads⟩) (sz.grow G3) cs hs (tz.grow G3) ct ht) ?_
    rintro _ _ rfl
    simp
    exact hQ _ _ rfl

end Go.Ax
