/- Seat frame: new memory (the law FrameOwn; written by FO.gen.py). -/
import Derived.Test.YthfgelbbcdgopaaFJ
import Derived.Test.YthfgelbbcdgopaaMX
namespace Go.Ax
open Go.Proofs
set_option linter.unusedVariables false
set_option linter.unusedSimpArgs false

theorem all64 (cs : List (BitVec 64)) : allFit cs 64 := fun i _ => BitVec.isLt _
theorem iv_good (cs : List Int) : (cs.map iv).all goodC = true := by rw [List.all_eq_true]; intro x hx; rw [List.mem_map] at hx; obtain ⟨y, _, rfl⟩ := hx; simp [iv]
theorem bv_good (bs : List (BitVec 8)) : (bs.map bv).all goodC = true := by rw [List.all_eq_true]; intro x hx; rw [List.mem_map] at hx; obtain ⟨y, _, rfl⟩ := hx; simp [bv]

/-- A number's half, its third, its lowest 62 bits. -/
def halfI (x : Int) : Int := IntKind.i64.wrap (x.tdiv 2)
def thirdI (x : Int) : Int := IntKind.i64.wrap (x.tdiv 3)
def low62 (x : Int) : Int := IntKind.i64.wrap ((BitVec.ofInt 64 x &&& BitVec.ofInt 64 4611686018427387903).toNat : Int)
theorem low62_and (x : Int) : abin .and .i64 x 4611686018427387903 = some (.int .i64 (low62 x)) := rfl

theorem wrap_range (x : Int) : -9223372036854775808 ≤ IntKind.i64.wrap x ∧ IntKind.i64.wrap x < 9223372036854775808 := by
  simp [IntKind.wrap, IntKind.bits, IntKind.signed]; omega

theorem numI_map {f : Int → Int} {cs : List Int} {i : Nat} (hi : i < cs.length) : numI (cs.map f) i = f (numI cs i) := by
  unfold numI
  rw [List.getD_eq_getElem?_getD, List.getElem?_map, List.getElem?_eq_getElem hi, List.getD_eq_getElem?_getD, List.getElem?_eq_getElem hi]; rfl

theorem range_map {f : Int → Int} (hf : ∀ x, -9223372036854775808 ≤ f x ∧ f x < 9223372036854775808) (cs : List Int) : rangeI (cs.map f) := by
  intro i hi
  rw [numI_map (by simpa using hi)]; exact hf _

theorem low62_range (x : Int) : 0 ≤ low62 x ∧ low62 x < 9223372036854775808 := by
  have h : (BitVec.ofInt 64 x &&& BitVec.ofInt 64 4611686018427387903).toNat ≤ 4611686018427387903 := by
    rw [BitVec.toNat_and]; exact Nat.and_le_right
  unfold low62
  rw [wrap_i64 (by omega) (by omega)]
  omega

theorem third_nonneg {x : Int} (h : 0 ≤ x) (h' : x < 9223372036854775808) : 0 ≤ thirdI x := by
  unfold thirdI
  rw [Int.tdiv_eq_ediv_of_nonneg h, wrap_i64 (by omega) (by omega)]
  omega

theorem base_nonneg {cs : List Int} (h : ∀ i, i < cs.length → 0 ≤ numI cs i) : ¬ baseL cs < 0 := by
  unfold baseL
  split
  · omega
  · obtain ⟨i, h1, h2⟩ := minI_mem cs cs.length (by omega)
    rw [h2]; have := h i h1; omega

theorem mix_step {cs ds : List Int} {i : Nat} {x : Int} (hi : i < ds.length) (hl : cs.length = ds.length) (hx : cs[i]? = some x) : (cs.take i ++ ds.drop i).set i x = cs.take (i + 1) ++ ds.drop (i + 1) := by
  have hl2 : (cs.take i).length = i := by simp; omega
  rw [List.set_append_right _ _ (by omega), hl2, Nat.sub_self, List.drop_eq_getElem_cons hi, List.set_cons_zero, List.take_add_one, hx]
  simp

theorem numI_at {cs : List Int} {i : Nat} (hi : i < cs.length) : cs[i]? = some (numI cs i) := by
  unfold numI
  rw [List.getElem?_eq_getElem hi, List.getD_eq_getElem?_getD, List.getElem?_eq_getElem hi]; rfl

theorem numI_rev {cs : List Int} {f : Int → Int} {n i : Nat} (hn : cs.length = n) (hi : i < n) : (cs.reverse.map f)[i]? = some (f (numI cs (n - 1 - i))) := by
  rw [List.getElem?_map, List.getElem?_reverse (by omega), hn, numI_at (by omega)]; rfl

theorem numI_mapget {cs : List Int} {f : Int → Int} {i : Nat} (hi : i < cs.length) : (cs.map f)[i]? = some (f (numI cs i)) := by
  rw [List.getElem?_map, numI_at hi]; rfl

theorem mix_get {cs ds : List Int} {i : Nat} (hi : i < ds.length) (hl : cs.length = ds.length) : (cs.take i ++ ds.drop i)[i]? = some (numI ds i) := by
  have hl2 : (cs.take i).length = i := by simp; omega
  rw [List.getElem?_append_right (by omega), hl2, Nat.sub_self, List.getElem?_drop, Nat.add_zero]
  exact numI_at hi

theorem iv_get {cs : List Int} {i : Nat} (hi : i < cs.length) : (cs.map iv)[i]? = some (.int .i64 (numI cs i)) := by
  unfold iv numI
  rw [List.getElem?_map, List.getElem?_eq_getElem hi, List.getD_eq_getElem?_getD, List.getElem?_eq_getElem hi]; rfl

theorem code0 {cs : List Int} {w : Nat} {bs : List (BitVec 8)} (p : Packs (cs.map (codeI 0)) w bs) (hr : rangeI cs) (hn : ∀ i, i < cs.length → 0 ≤ numI cs i) (hw : w ≤ 64) (hf : allFit (cs.map (codeI 0)) w) : within bs w cs.length 0 :=
  (vals_put hr (by omega) hn p hw hf).2

set_option maxRecDepth 100000 in
set_option maxHeartbeats 16000000 in
theorem own_law (L : Nat → Nat → Option Value) {vL vM : Value} {cs0 ms0 : List Int} (r0 : ArgS (heap0 (roBlk noG L)) vL (cs0.map iv)) (rM0 : ArgS (heap0 (roBlk noG L)) vM (ms0.map iv)) (hr0 : ∀ x ∈ cs0, (Lit.int .i64 x).wf = true) :
    Gives P T (.fn F_colonnadelaw11_FrameOwn) [vL, vM] (heap0 (roBlk noG L)) fun r _ => r = .bool true := by
  refine gives_by t_colonnadelaw11_FrameOwn (by simp [c_colonnadelaw11_FrameOwn]) fun Q hQ => ?_
  simp [c_colonnadelaw11_FrameOwn]
  refine got_call (awake_spec L) ?_
  rintro _ h1 ⟨rfl, e1⟩
  have ra := r0.ro (h' := h1) e1
  have rma := rM0.ro (h' := h1) e1
  simp
  refine got_call (few_spec ra) ?_
  rintro vl _ ⟨r, rfl⟩
  rename_i h1
  simp
  refine got_call (few_spec rma) ?_
  rintro vm _ ⟨rm, rfl⟩
  rename_i h1
  obtain ⟨cs, hcs⟩ : ∃ cs, cs0.take 1048576 = cs := ⟨_, rfl⟩
  obtain ⟨ms, hms⟩ : ∃ ms, ms0.take 1048576 = ms := ⟨_, rfl⟩
  rw [hcs] at r
  rw [hms] at rm
  have hn : cs.length ≤ 1048576 := by rw [← hcs]; simp; omega
  have hmn : ms.length ≤ 1048576 := by rw [← hms]; simp; omega
  have hr : rangeI cs := by
    intro i hi
    have hmem : numI cs i ∈ cs0 := by
      have : numI cs i ∈ cs := by
        unfold numI
        rw [List.getD_eq_getElem?_getD, List.getElem?_eq_getElem hi]
        exact List.getElem_mem hi
      exact List.mem_of_mem_take (by rw [hcs]; exact this)
    have := hr0 _ hmem
    simp [Lit.wf, IntKind.min, IntKind.max, IntKind.bits, IntKind.signed] at this
    omega
  obtain ⟨n, hnn⟩ : ∃ n, cs.length = n := ⟨_, rfl⟩
  obtain ⟨bl, cl, evl, _⟩ := r.reads.shape
  simp only [List.length_map, hnn] at evl
  subst evl
  have rl : ∀ h, h.ro = h1.ro → ∀ i, i < n → ∃ a, bl = some a ∧ hload h (aadd a i) = some (.int .i64 (numI cs i)) := fun h e i hi => by
    obtain ⟨b, cc, ev, hh⟩ := (r.ro (h' := h) e).reads.shape
    simp only [List.length_map, hnn, Value.slice.injEq] at ev
    obtain ⟨a, ha, hl⟩ := hh i (by simp; omega)
    exact ⟨a, ev.1.trans ha, hl i _ (iv_get (by omega))⟩
  have rd : ∀ h, h.ro = h1.ro → Reads h (.slice bl n cl) (cs.map iv) := fun h e => (r.ro e).reads
  have rdm : ∀ h, h.ro = h1.ro → Reads h vm (ms.map iv) := fun h e => (rm.ro e).reads
  -- the lists
  obtain ⟨ds, hds⟩ : ∃ ds, cs.reverse.map halfI = ds := ⟨_, rfl⟩
  obtain ⟨ps, hps⟩ : ∃ ps, cs.map low62 = ps := ⟨_, rfl⟩
  obtain ⟨ts, hts⟩ : ∃ ts, ps.map thirdI = ts := ⟨_, rfl⟩
  have nds : ds.length = n := by rw [← hds]; simp [hnn]
  have nps : ps.length = n := by rw [← hps]; simp [hnn]
  have nts : ts.length = n := by rw [← hts]; simp [nps]
  have rds : rangeI ds := by rw [← hds]; exact range_map (fun x => wrap_range _) _
  have pps : ∀ i, i < ps.length → 0 ≤ numI ps i ∧ numI ps i < 9223372036854775808 := fun i hi => by rw [← hps, numI_map (by simpa [hnn, nps] using hi)]; exact low62_range _
  have rps : rangeI ps := fun i hi => by have := pps i hi; omega
  have pts : ∀ i, i < ts.length → 0 ≤ numI ts i := fun i hi => by rw [← hts, numI_map (by omega)]; have := pps i (by omega); exact third_nonneg this.1 this.2
  have rts : rangeI ts := by rw [← hts]; exact range_map (fun x => wrap_range _) _
  have bps : ¬ baseL ps < 0 := base_nonneg fun i hi => (pps i hi).1
  have bts : ¬ baseL ts < 0 := base_nonneg pts
  obtain ⟨X, hX⟩ : ∃ X, BitVec.ofInt 64 (baseL cs) = X := ⟨_, rfl⟩
  obtain ⟨Y, hY⟩ : ∃ Y, BitVec.ofInt 64 (baseL ds) = Y := ⟨_, rfl⟩
  obtain ⟨v2, h2, q2, a2, o2, g2, hq2, lt2, ne2⟩ := clone_any (bytes := 8) (z := .int .i64 0) (rd h1 rfl) (iv_good _) (by simp; omega) (by simp; omega)
  have ln1 := g2.len
  have ro2 : h2.ro = h1.ro := g2.ro.trans rfl
  have lv2 : ∀ h, lenR h v2 = some (.int .i64 n, h) := fun h => by
    obtain ⟨b, cc, e, _⟩ := o2.shape
    rw [e]; simp [hnn]
  obtain ⟨ba, ca, ev2, _⟩ := o2.shape
  simp only [List.length_map, hnn] at ev2
  simp [a2]
  refine got_call (PutFrame_spec (cs := cs) (w := 64) o2.reads (by omega) (by omega)) ?_
  rintro _ h3 ⟨g3, ⟨hbad, _⟩ | ⟨u3, q3, b3, _, rfl, o3, hq3, p3⟩⟩
  · exact absurd (all64 _) hbad
  have ne3 : u3 ≠ nilS := o3.ne (by intro he; have := congrArg List.length he; simp [head8_len] at this)
  rw [hX] at o3
  have ln2 := g3.len
  have ro3 : h3.ro = h1.ro := g3.ro.trans ro2
  have lt3 := o3.lt' ne3
  have o2_2 := (o2).grow g3
  simp
  refine got_call (PutFrame_spec (cs := cs) (w := 64) o2_2.reads (by omega) (by omega)) ?_
  rintro _ h4 ⟨g4, ⟨hbad, _⟩ | ⟨u4, q4, b4, _, rfl, o4, hq4, p4⟩⟩
  · exact absurd (all64 _) hbad
  have ne4 : u4 ≠ nilS := o4.ne (by intro he; have := congrArg List.length he; simp [head8_len] at this)
  rw [hX] at o4
  have ln3 := g4.len
  have ro4 : h4.ro = h1.ro := g4.ro.trans ro3
  have lt4 := o4.lt' ne4
  obtain rfl := p3.ext p4
  have hb3 : b3.length = (n * 64 + 7) / 8 := by have := p3.len; simpa [hnn] using this
  have o3_3 := (o3).grow g4
  simp [b2s_reads (o3_3).reads]
  skip
  refine got_call (PutFrame_spec (cs := ms) (w := 64) (rdm _ ro4) (by omega) (by omega)) ?_
  rintro _ h5 ⟨g5, hr5⟩
  have ln4 := g5.len
  have ro5 : h5.ro = h1.ro := g5.ro.trans ro4
  have o2_4 := ((o2_2).grow g4).grow g5
  simp
  refine got_call (PutFrame_spec (cs := cs) (w := 64) o2_4.reads (by omega) (by omega)) ?_
  rintro _ h6 ⟨g6, ⟨hbad, _⟩ | ⟨u6, q6, b6, _, rfl, o6, hq6, p6⟩⟩
  · exact absurd (all64 _) hbad
  have ne6 : u6 ≠ nilS := o6.ne (by intro he; have := congrArg List.length he; simp [head8_len] at this)
  rw [hX] at o6
  have ln5 := g6.len
  have ro6 : h6.ro = h1.ro := g6.ro.trans ro5
  have lt6 := o6.lt' ne6
  obtain rfl := p3.ext p6
  have o2_5 := (o2_4).grow g6
  simp
  refine go_loopK (fun k ks hh => ∃ (i : Nat), k = n - i ∧ i ≤ n ∧ ks = [(0, .slice bl n cl), (6, v2), (7, u3), (9, u4), (11, .string (bstr (head8 X 8 ++ b3))), (12, u6), (14, .int .i64 i)] ∧ Own hh v2 q2 ((ds.take i ++ cs.drop i).map iv) ∧ Chg (· = q2) h6 hh) (n := n)
    ⟨0, rfl, by omega, rfl, by simpa using o2_5, Chg.refl _⟩ (by simp) ?_
  rintro I7 hI7 k7 ks7 e7 h7 ⟨i, rfl, hi, rfl, ow7, c7⟩
  have ro7 : h7.ro = h1.ro := c7.ro.trans ro6
  simp [lv2]
  refine branch_dec (fun hlt => ?_) (fun hge => ?_)
  · have hin : i < n := by omega
    have e4 : IntKind.i64.wrap ((i : Int) + 1) = ((i + 1 : Nat) : Int) := by rw [wrap_i64 (by omega) (by omega)]; omega
    have e5 : IntKind.i64.wrap ((n : Int) - 1) = ((n - 1 : Nat) : Int) := by rw [wrap_i64 (by omega) (by omega)]; omega
    obtain ⟨n1, hn1⟩ : ∃ x, n - 1 = x := ⟨_, rfl⟩
    rw [hn1] at e5
    have e6 : IntKind.i64.wrap ((n1 : Int) - i) = ((n1 - i : Nat) : Int) := by rw [wrap_i64 (by omega) (by omega)]; omega
    obtain ⟨ni, hni⟩ : ∃ x, n1 - i = x := ⟨_, rfl⟩
    rw [hni] at e6
    have hnin : ni < n := by omega
    obtain ⟨al, rfl, hld⟩ := rl h7 ro7 ni hnin
    have hl9 : ((ds.take i ++ cs.drop i).map iv).length = n := by simp; omega
    obtain ⟨u, cc2, h10, eu2, est, o10, c10, _⟩ := ow7.set (i := i) (by omega) (x := .int .i64 (halfI (numI cs ni))) (by simp)
    rw [hl9] at eu2
    subst eu2
    unfold halfI at est
    simp [hin, e4, est, e5, e6, hnin, hld]
    refine ⟨n - (i + 1), by omega, hI7 _ _ _ _ ⟨i + 1, rfl, by omega, rfl, ?_, c7.trans c10⟩ (by simp)⟩
    rw [← mix_step (cs := ds) (ds := cs) (x := halfI (numI cs ni)) (by omega) (by omega) (by rw [← hds, numI_rev hnn hin, show n - 1 - i = ni by omega]), List.map_set]
    exact o10
  have hin : i = n := by omega
  subst hin
  have hmix7 : ds.take i ++ cs.drop i = ds := by
    rw [List.drop_eq_nil_of_le (by omega), List.take_of_length_le (by omega), List.append_nil]
  rw [hmix7] at ow7
  obtain ⟨n, hin⟩ : ∃ n, n = i := ⟨_, rfl⟩
  subst hin
  simp
  have ln6 := c7.len
  skip
  refine got_call (PutFrame_spec (cs := ds) (w := 64) ow7.reads (by omega) (by omega)) ?_
  rintro _ h8 ⟨g8, ⟨hbad, _⟩ | ⟨u8, q8, b8, _, rfl, o8, hq8, p8⟩⟩
  · exact absurd (all64 _) hbad
  have ne8 : u8 ≠ nilS := o8.ne (by intro he; have := congrArg List.length he; simp [head8_len] at this)
  rw [hY] at o8
  have ln7 := g8.len
  have ro8 : h8.ro = h1.ro := g8.ro.trans ro7
  have lt8 := o8.lt' ne8
  have o2_7 := (ow7).grow g8
  obtain ⟨u9, h9, q9, a9, o9, g9, hq9, lt9, ne9⟩ := clone_any (bytes := 8) (z := .int .i64 0) o2_7.reads (iv_good _) (by simp; omega) (by simp; omega)
  have ln8 := g9.len
  have ro9 : h9.ro = h1.ro := g9.ro.trans ro8
  simp [a9]
  refine got_call (PutFrame_spec (cs := ds) (w := 64) o9.reads (by omega) (by omega)) ?_
  rintro _ h10 ⟨g10, ⟨hbad, _⟩ | ⟨u10, q10, b10, _, rfl, o10, hq10, p10⟩⟩
  · exact absurd (all64 _) hbad
  have ne10 : u10 ≠ nilS := o10.ne (by intro he; have := congrArg List.length he; simp [head8_len] at this)
  rw [hY] at o10
  have ln9 := g10.len
  have ro10 : h10.ro = h1.ro := g10.ro.trans ro9
  have lt10 := o10.lt' ne10
  obtain rfl := p8.ext p10
  have o2_9 := ((o2_7).grow g9).grow g10
  simp
  refine go_loopK (fun k ks hh => ∃ (i : Nat), k = n - i ∧ i ≤ n ∧ ks = [(0, .slice bl n cl), (6, v2), (7, u3), (9, u4), (11, .string (bstr (head8 X 8 ++ b3))), (12, u6), (15, u8), (17, u10), (19, .int .i64 i)] ∧ Own hh v2 q2 ((ps.take i ++ ds.drop i).map iv) ∧ Chg (· = q2) h10 hh) (n := n)
    ⟨0, rfl, by omega, rfl, by simpa using o2_9, Chg.refl _⟩ (by simp) ?_
  rintro I11 hI11 k11 ks11 e11 h11 ⟨i, rfl, hi, rfl, ow11, c11⟩
  have ro11 : h11.ro = h1.ro := c11.ro.trans ro10
  simp [lv2]
  refine branch_dec (fun hlt => ?_) (fun hge => ?_)
  · have hin : i < n := by omega
    have e4 : IntKind.i64.wrap ((i : Int) + 1) = ((i + 1 : Nat) : Int) := by rw [wrap_i64 (by omega) (by omega)]; omega
    obtain ⟨al, rfl, hld⟩ := rl h11 ro11 i hin
    have hl9 : ((ps.take i ++ ds.drop i).map iv).length = n := by simp; omega
    obtain ⟨u, cc2, h10, eu2, est, o10, c10, _⟩ := ow11.set (i := i) (by omega) (x := .int .i64 (low62 (numI cs i))) (by simp)
    rw [hl9] at eu2
    subst eu2
    simp [hin, e4, est, hld, low62_and]
    refine ⟨n - (i + 1), by omega, hI11 _ _ _ _ ⟨i + 1, rfl, by omega, rfl, ?_, c11.trans c10⟩ (by simp)⟩
    rw [← mix_step (cs := ps) (ds := ds) (x := low62 (numI cs i)) (by omega) (by omega) (by rw [← hps]; exact numI_mapget (by omega)), List.map_set]
    exact o10
  have hin : i = n := by omega
  subst hin
  have hmix11 : ps.take i ++ ds.drop i = ps := by
    rw [List.drop_eq_nil_of_le (by omega), List.take_of_length_le (by omega), List.append_nil]
  rw [hmix11] at ow11
  obtain ⟨n, hin⟩ : ∃ n, n = i := ⟨_, rfl⟩
  subst hin
  simp
  have ln10 := c11.len
  obtain ⟨u12, h12, q12, a12, o12, g12, hq12, lt12, ne12⟩ := clone_any (bytes := 8) (z := .int .i64 0) ow11.reads (iv_good _) (by simp; omega) (by simp; omega)
  have ln11 := g12.len
  have ro12 : h12.ro = h1.ro := g12.ro.trans ro11
  simp [a12]
  have o2_11 := (ow11).grow g12
  skip
  refine got_call (PutPacked_spec (cs := ps) (w := 64) o2_11.reads (by omega) (by omega)) ?_
  rintro _ h13 ⟨g13, ⟨hbad, _⟩ | ⟨u13, q13, b13, _, _, rfl, o13, hq13, p13, ne13⟩⟩
  · exact absurd hbad (by rintro (hb | hb); exact bps hb; exact hb (all64 _))
  have ln12 := g13.len
  have ro13 : h13.ro = h1.ro := g13.ro.trans ro12
  have lt13 := o13.lt' ne13
  have o2_12 := (o2_11).grow g13
  simp
  refine got_call (PutPacked_spec (cs := ps) (w := 64) o2_12.reads (by omega) (by omega)) ?_
  rintro _ h14 ⟨g14, ⟨hbad, _⟩ | ⟨u14, q14, b14, _, _, rfl, o14, hq14, p14, ne14⟩⟩
  · exact absurd hbad (by rintro (hb | hb); exact bps hb; exact hb (all64 _))
  have ln13 := g14.len
  have ro14 : h14.ro = h1.ro := g14.ro.trans ro13
  have lt14 := o14.lt' ne14
  obtain rfl := p13.ext p14
  have hb13 : b13.length = (n * 64 + 7) / 8 := by have := p13.len; simpa [nps] using this
  have o13_13 := (o13).grow g14
  simp [b2s_reads (o13_13).reads]
  skip
  refine got_call (PutPacked_spec (cs := []) (w := 64) (.inl ⟨rfl, rfl⟩) (by simp) (by omega)) ?_
  rintro _ h15 ⟨g15, hr15⟩
  have ln14 := g15.len
  have ro15 : h15.ro = h1.ro := g15.ro.trans ro14
  have o2_14 := ((o2_12).grow g14).grow g15
  simp
  refine got_call (PutPacked_spec (cs := ps) (w := 64) o2_14.reads (by omega) (by omega)) ?_
  rintro _ h16 ⟨g16, ⟨hbad, _⟩ | ⟨u16, q16, b16, _, _, rfl, o16, hq16, p16, ne16⟩⟩
  · exact absurd hbad (by rintro (hb | hb); exact bps hb; exact hb (all64 _))
  have ln15 := g16.len
  have ro16 : h16.ro = h1.ro := g16.ro.trans ro15
  have lt16 := o16.lt' ne16
  obtain rfl := p13.ext p16
  have o2_15 := (o2_14).grow g16
  simp
  refine go_loopK (fun k ks hh => ∃ (i : Nat), k = n - i ∧ i ≤ n ∧ ks = [(0, .slice bl n cl), (6, v2), (7, u3), (9, u4), (11, .string (bstr (head8 X 8 ++ b3))), (12, u6), (15, u8), (17, u10), (20, u12), (21, u13), (23, u14), (25, .string (bstr b13)), (26, u16), (28, .int .i64 i)] ∧ Own hh v2 q2 ((ts.take i ++ ps.drop i).map iv) ∧ Chg (· = q2) h16 hh) (n := n)
    ⟨0, rfl, by omega, rfl, by simpa using o2_15, Chg.refl _⟩ (by simp) ?_
  rintro I17 hI17 k17 ks17 e17 h17 ⟨i, rfl, hi, rfl, ow17, c17⟩
  have ro17 : h17.ro = h1.ro := c17.ro.trans ro16
  simp [lv2]
  refine branch_dec (fun hlt => ?_) (fun hge => ?_)
  · have hin : i < n := by omega
    have e4 : IntKind.i64.wrap ((i : Int) + 1) = ((i + 1 : Nat) : Int) := by rw [wrap_i64 (by omega) (by omega)]; omega
    obtain ⟨ao, co, eu, _, hld⟩ := ow17.get (i := i) (x := .int .i64 (numI ps i)) (by rw [List.getElem?_map, mix_get (by omega) (by omega)]; rfl)
    have hl9 : ((ts.take i ++ ps.drop i).map iv).length = n := by simp; omega
    obtain ⟨u, cc2, h10, eu2, est, o10, c10, _⟩ := ow17.set (i := i) (by omega) (x := .int .i64 (thirdI (numI ps i))) (by simp)
    rw [hl9] at eu2
    subst eu2
    simp only [Value.slice.injEq, Option.some.injEq] at eu
    obtain ⟨rfl, _, _⟩ := eu
    simp only [aadd_mk, Nat.zero_add] at hld
    unfold thirdI at est
    simp [hin, e4, est, hld]
    refine ⟨n - (i + 1), by omega, hI17 _ _ _ _ ⟨i + 1, rfl, by omega, rfl, ?_, c17.trans c10⟩ (by simp)⟩
    rw [← mix_step (cs := ts) (ds := ps) (x := thirdI (numI ps i)) (by omega) (by omega) (by rw [← hts]; exact numI_mapget (by omega)), List.map_set]
    exact o10
  have hin : i = n := by omega
  subst hin
  have hmix17 : ts.take i ++ ps.drop i = ts := by
    rw [List.drop_eq_nil_of_le (by omega), List.take_of_length_le (by omega), List.append_nil]
  rw [hmix17] at ow17
  obtain ⟨n, hin⟩ : ∃ n, n = i := ⟨_, rfl⟩
  subst hin
  simp
  have ln16 := c17.len
  skip
  refine got_call (PutPacked_spec (cs := ts) (w := 64) ow17.reads (by omega) (by omega)) ?_
  rintro _ h18 ⟨g18, ⟨hbad, _⟩ | ⟨u18, q18, b18, _, _, rfl, o18, hq18, p18, ne18⟩⟩
  · exact absurd hbad (by rintro (hb | hb); exact bts hb; exact hb (all64 _))
  have ln17 := g18.len
  have ro18 : h18.ro = h1.ro := g18.ro.trans ro17
  have lt18 := o18.lt' ne18
  have hb18 : b18.length = (n * 64 + 7) / 8 := by have := p18.len; simpa [nts] using this
  have o2_17 := (ow17).grow g18
  obtain ⟨u19, h19, q19, a19, o19, g19, hq19, lt19, ne19⟩ := clone_any (bytes := 8) (z := .int .i64 0) o2_17.reads (iv_good _) (by simp; omega) (by simp; omega)
  have ln18 := g19.len
  have ro19 : h19.ro = h1.ro := g19.ro.trans ro18
  simp [a19]
  refine got_call (PutPacked_spec (cs := ts) (w := 64) o19.reads (by omega) (by omega)) ?_
  rintro _ h20 ⟨g20, ⟨hbad, _⟩ | ⟨u20, q20, b20, _, _, rfl, o20, hq20, p20, ne20⟩⟩
  · exact absurd hbad (by rintro (hb | hb); exact bts hb; exact hb (all64 _))
  have ln19 := g20.len
  have ro20 : h20.ro = h1.ro := g20.ro.trans ro19
  have lt20 := o20.lt' ne20
  obtain rfl := p18.ext p20
  have o4_19 := ((((((((((((((((o4).grow g5).grow g6).chg c7 (show ¬ (q4 = q2) by omega)).grow g8).grow g9).grow g10).chg c11 (show ¬ (q4 = q2) by omega)).grow g12).grow g13).grow g14).grow g15).grow g16).chg c17 (show ¬ (q4 = q2) by omega)).grow g18).grow g19).grow g20
  have o6_19 := ((((((((((((((o6).chg c7 (show ¬ (q6 = q2) by omega)).grow g8).grow g9).grow g10).chg c11 (show ¬ (q6 = q2) by omega)).grow g12).grow g13).grow g14).grow g15).grow g16).chg c17 (show ¬ (q6 = q2) by omega)).grow g18).grow g19).grow g20
  have o8_19 := ((((((((((((o8).grow g9).grow g10).chg c11 (show ¬ (q8 = q2) by omega)).grow g12).grow g13).grow g14).grow g15).grow g16).chg c17 (show ¬ (q8 = q2) by omega)).grow g18).grow g19).grow g20
  have o10_19 := ((((((((((o10).chg c11 (show ¬ (q10 = q2) by omega)).grow g12).grow g13).grow g14).grow g15).grow g16).chg c17 (show ¬ (q10 = q2) by omega)).grow g18).grow g19).grow g20
  have o14_19 := ((((((o14).grow g15).grow g16).chg c17 (show ¬ (q14 = q2) by omega)).grow g18).grow g19).grow g20
  have o16_19 := ((((o16).chg c17 (show ¬ (q16 = q2) by omega)).grow g18).grow g19).grow g20
  have o18_19 := ((o18).grow g19).grow g20
  have hb8 : b8.length = (n * 64 + 7) / 8 := by have := p8.len; simpa [nds] using this
  have nb64 : (n * 64 + 7) / 8 ≤ 16777216 := by omega
  have F3 : Fine b3 64 n := by have := packs_fine p3 (by simp; omega) (by omega); simpa [hnn] using this
  obtain ⟨v3a, v3b⟩ := vals_put hr (base_range hr) (fun i hi => base_le hi) p3 (by omega) (all64 _)
  have z3 := zero_put hr p3 (by omega) (all64 _)
  rw [hnn] at v3a v3b z3
  have hbF3 := baseF_put hr b3
  have hdr3 := drop_put X b3
  rw [hX] at hbF3
  have gd3 : goodF (head8 X 8 ++ b3) 64 n := by unfold goodF; rw [hdr3, hbF3]; exact ⟨v3b, z3⟩
  have hl3 : (head8 X 8 ++ b3).length = 8 + (n * 64 + 7) / 8 := by rw [List.length_append, head8_len, hb3]
  have F8 : Fine b8 64 n := by have := packs_fine p8 (by simp; omega) (by omega); simpa [nds] using this
  obtain ⟨v8a, v8b⟩ := vals_put rds (base_range rds) (fun i hi => base_le hi) p8 (by omega) (all64 _)
  have z8 := zero_put rds p8 (by omega) (all64 _)
  rw [nds] at v8a v8b z8
  have hbF8 := baseF_put rds b8
  have hdr8 := drop_put Y b8
  rw [hY] at hbF8
  have gd8 : goodF (head8 Y 8 ++ b8) 64 n := by unfold goodF; rw [hdr8, hbF8]; exact ⟨v8b, z8⟩
  have hl8 : (head8 Y 8 ++ b8).length = 8 + (n * 64 + 7) / 8 := by rw [List.length_append, head8_len, hb8]
  have F13 : Fine b13 64 n := by have := packs_fine p13 (by simp; omega) (by omega); simpa [nps] using this
  have w13 : within b13 64 n 0 := by have := code0 p13 rps (fun i hi => (pps i hi).1) (by omega) (all64 _); rwa [nps] at this
  have F18 : Fine b18 64 n := by have := packs_fine p18 (by simp; omega) (by omega); simpa [nts] using this
  have w18 : within b18 64 n 0 := by have := code0 p18 rts pts (by omega) (all64 _); rwa [nts] at this
  simp [b2s_reads (o4_19).reads, b2s_reads (o6_19).reads, b2s_reads (o8_19).reads, b2s_reads (o10_19).reads, b2s_reads (o14_19).reads, b2s_reads (o16_19).reads, b2s_reads (o18_19).reads, b2s_reads (o20).reads, skipV]
  obtain ⟨u21, h21, a21, o21, g21, n21, ne21⟩ := s2b_bstr (h := h20) (bs := head8 X 8 ++ b3)
  obtain ⟨q21, hq21⟩ : ∃ q, h20.dyn.length = q := ⟨_, rfl⟩
  rw [hq21] at o21 n21
  have ln20 := g21.len
  have ro21 : h21.ro = h1.ro := g21.ro.trans ro20
  simp [a21]
  skip
  refine got_call (OpenFrame_spec o21.bytes (by omega) (by omega) (w := 64) (n := n) (by rw [hdr3]; exact F3)) ?_
  rintro _ h22 ⟨g22, ⟨hbad, _⟩ | ⟨u22, q22, _, rfl, o22, hq22, lt22⟩⟩
  · exact absurd gd3 hbad
  rw [hdr3] at o22
  rw [hbF3]
  have ln21 := g22.len
  have ro22 : h22.ro = h1.ro := g22.ro.trans ro21
  have o21_21 := (o21).grow g22
  simp
  refine got_call (OpenFrame_spec o21_21.bytes (by omega) (by omega) (w := 64) (n := n) (by rw [hdr3]; exact F3)) ?_
  rintro _ h23 ⟨g23, ⟨hbad, _⟩ | ⟨u23, q23, _, rfl, o23, hq23, lt23⟩⟩
  · exact absurd gd3 hbad
  rw [hdr3] at o23
  rw [hbF3]
  have ln22 := g23.len
  have ro23 : h23.ro = h1.ro := g23.ro.trans ro22
  have mk8 : ∀ h : Heap, mkSR h 1 1 [.int .u8 0] (.int .i64 8) (.int .i64 8) = some (.slice (some ⟨h.dyn.length, 0, some 0⟩) 8 8, hnew h [.int .u8 0, .int .u8 0, .int .u8 0, .int .u8 0, .int .u8 0, .int .u8 0, .int .u8 0, .int .u8 0] 1) := fun h => mkS_nat (n := 8) (by omega) (by omega)
  obtain ⟨h24, hh24⟩ : ∃ x, x = hnew h23 [.int .u8 0, .int .u8 0, .int .u8 0, .int .u8 0, .int .u8 0, .int .u8 0, .int .u8 0, .int .u8 0] 1 := ⟨_, rfl⟩
  have g24 : Grow h23 h24 := by rw [hh24]; exact Grow.new _ _ _
  have oz : Own h24 (.slice (some ⟨h23.dyn.length, 0, some 0⟩) 8 8) h23.dyn.length ((List.replicate 8 (0#8)).map bv) := .inr (.inr ⟨0, [], rfl, by decide, by rw [hh24]; exact RowAt.new _ _ _⟩)
  have ln23 := g24.len
  have ro24 : h24.ro = h1.ro := g24.ro.trans ro23
  simp [mk8, ← hh24]
  have Fz : Fine ((List.replicate 8 (0#8)).drop 8) 3 0 := ⟨by omega, by omega, by simp, fun i _ => by simp [bbit, byteA]⟩
  skip
  refine got_call (OpenFrame_spec oz.bytes (by simp) (by simp) (w := 3) (n := 0) Fz) ?_
  rintro _ h25 ⟨g25, hr25⟩
  have ln24 := g25.len
  have ro25 : h25.ro = h1.ro := g25.ro.trans ro24
  have o21_24 := (((o21_21).grow g23).grow g24).grow g25
  simp
  refine got_call (OpenFrame_spec o21_24.bytes (by omega) (by omega) (w := 64) (n := n) (by rw [hdr3]; exact F3)) ?_
  rintro _ h26 ⟨g26, ⟨hbad, _⟩ | ⟨u26, q26, _, rfl, o26, hq26, lt26⟩⟩
  · exact absurd gd3 hbad
  rw [hdr3] at o26
  rw [hbF3]
  have ln25 := g26.len
  have ro26 : h26.ro = h1.ro := g26.ro.trans ro25
  have o21_25 := (o21_24).grow g26
  have o8_25 := ((((((o8_19).grow g21).grow g22).grow g23).grow g24).grow g25).grow g26
  obtain ⟨h27, a27, o27, c27, n27⟩ := (o21_25).copy (o8_25).reads (by rw [List.length_map, List.length_map, hl8, hl3]) (bv_good _)
  simp [a27]
  have ln26 := c27.len
  have ro27 : h27.ro = h1.ro := c27.ro.trans ro26
  skip
  refine got_call (OpenFrame_spec o27.bytes (by omega) (by omega) (w := 64) (n := n) (by rw [hdr8]; exact F8)) ?_
  rintro _ h28 ⟨g28, ⟨hbad, _⟩ | ⟨u28, q28, _, rfl, o28, hq28, lt28⟩⟩
  · exact absurd gd8 hbad
  rw [hdr8] at o28
  rw [hbF8]
  have ln27 := g28.len
  have ro28 : h28.ro = h1.ro := g28.ro.trans ro27
  simp
  obtain ⟨u29, h29, a29, o29, g29, n29, ne29⟩ := s2b_bstr (h := h28) (bs := b13)
  obtain ⟨q29, hq29⟩ : ∃ q, h28.dyn.length = q := ⟨_, rfl⟩
  rw [hq29] at o29 n29
  have ln28 := g29.len
  have ro29 : h29.ro = h1.ro := g29.ro.trans ro28
  simp [a29]
  skip
  refine got_call (OpenPacked_spec o29.bytes (by omega) (w := 64) (n := n) F13) ?_
  rintro _ h30 ⟨g30, ⟨hbad, _⟩ | ⟨u30, q30, _, rfl, o30, hq30, lt30⟩⟩
  · exact absurd w13 hbad
  have ln29 := g30.len
  have ro30 : h30.ro = h1.ro := g30.ro.trans ro29
  have o29_29 := (o29).grow g30
  simp
  refine got_call (OpenPacked_spec o29_29.bytes (by omega) (w := 64) (n := n) F13) ?_
  rintro _ h31 ⟨g31, ⟨hbad, _⟩ | ⟨u31, q31, _, rfl, o31, hq31, lt31⟩⟩
  · exact absurd w13 hbad
  have ln30 := g31.len
  have ro31 : h31.ro = h1.ro := g31.ro.trans ro30
  have Fn : Fine [] 3 0 := ⟨by omega, by omega, by simp, fun i _ => by simp [bbit, byteA]⟩
  simp
  refine got_call (OpenPacked_spec (bs := []) (ArgS.bytes (.inl ⟨rfl, rfl⟩)) (by simp) (w := 3) (n := 0) Fn) ?_
  rintro _ h32 ⟨g32, hr32⟩
  have ln31 := g32.len
  have ro32 : h32.ro = h1.ro := g32.ro.trans ro31
  have o29_31 := ((o29_29).grow g31).grow g32
  simp
  refine got_call (OpenPacked_spec o29_31.bytes (by omega) (w := 64) (n := n) F13) ?_
  rintro _ h33 ⟨g33, ⟨hbad, _⟩ | ⟨u33, q33, _, rfl, o33, hq33, lt33⟩⟩
  · exact absurd w13 hbad
  have ln32 := g33.len
  have ro33 : h33.ro = h1.ro := g33.ro.trans ro32
  simp
  have o29_32 := (o29_31).grow g33
  have o18_32 := (((((((((((((o18_19).grow g21).grow g22).grow g23).grow g24).grow g25).grow g26).chg c27 (show ¬ (q18 = q21) by omega)).grow g28).grow g29).grow g30).grow g31).grow g32).grow g33
  obtain ⟨h34, a34, o34, c34, n34⟩ := (o29_32).copy (o18_32).reads (by rw [List.length_map, List.length_map, hb18, hb13]) (bv_good _)
  simp [a34]
  have ln33 := c34.len
  have ro34 : h34.ro = h1.ro := c34.ro.trans ro33
  skip
  refine got_call (OpenPacked_spec o34.bytes (by omega) (w := 64) (n := n) F18) ?_
  rintro _ h35 ⟨g35, ⟨hbad, _⟩ | ⟨u35, q35, _, rfl, o35, hq35, lt35⟩⟩
  · exact absurd w18 hbad
  have ln34 := g35.len
  have ro35 : h35.ro = h1.ro := g35.ro.trans ro34
  have o8_34 := (((((((((o8_25).chg c27 (show ¬ (q8 = q21) by omega)).grow g28).grow g29).grow g30).grow g31).grow g32).grow g33).chg c34 (show ¬ (q8 = q29) by omega)).grow g35
  obtain ⟨⟨v8c, ecut, bcut⟩, _⟩ := (o8_34).bytes.cut8 (by omega)
  rw [hdr8] at bcut
  have cutw : ∀ h : Heap, cutSR h (some (.int .i64 8)) none (.string (bstr (head8 X 8 ++ b3))) = some (.string (bstr b3), h) := fun h => by
    have := cut_bstr (h := h) (bs := head8 X 8 ++ b3) (k := 8) (by omega)
    rw [hdr3] at this
    exact this
  have o22_34 := (((((((((((((o22).grow g23).grow g24).grow g25).grow g26).chg c27 (show ¬ (q22 = q21) by omega)).grow g28).grow g29).grow g30).grow g31).grow g32).grow g33).chg c34 (show ¬ (q22 = q29) by omega)).grow g35
  have o23_34 := ((((((((((((o23).grow g24).grow g25).grow g26).chg c27 (show ¬ (q23 = q21) by omega)).grow g28).grow g29).grow g30).grow g31).grow g32).grow g33).chg c34 (show ¬ (q23 = q29) by omega)).grow g35
  have o26_34 := (((((((((o26).chg c27 (show ¬ (q26 = q21) by omega)).grow g28).grow g29).grow g30).grow g31).grow g32).grow g33).chg c34 (show ¬ (q26 = q29) by omega)).grow g35
  have o28_34 := (((((((o28).grow g29).grow g30).grow g31).grow g32).grow g33).chg c34 (show ¬ (q28 = q29) by omega)).grow g35
  have o30_34 := (((((o30).grow g31).grow g32).grow g33).chg c34 (show ¬ (q30 = q29) by omega)).grow g35
  have o31_34 := ((((o31).grow g32).grow g33).chg c34 (show ¬ (q31 = q29) by omega)).grow g35
  have o33_34 := ((o33).chg c34 (show ¬ (q33 = q29) by omega)).grow g35
  have o18_34 := ((o18_32).chg c34 (show ¬ (q18 = q29) by omega)).grow g35
  simp [b2s_reads (o22_34).reads, b2s_reads (o23_34).reads, b2s_reads (o26_34).reads, b2s_reads (o28_34).reads, b2s_reads (o30_34).reads, b2s_reads (o31_34).reads, b2s_reads (o33_34).reads, b2s_reads (o35).reads, b2s_reads (o18_34).reads, cutw, ecut, b2s_reads bcut.reads, skipV]
  obtain ⟨u36, h36, q36, a36, o36, g36, hq36, lt36, ne36⟩ := clone_any (bytes := 1) (z := .int .u8 0) o26_34.reads (bv_good _) (by simp; omega) (by simp; omega)
  have ln35 := g36.len
  have ro36 : h36.ro = h1.ro := g36.ro.trans ro35
  simp [a36]
  skip
  refine got_call (Values_spec o36.bytes (base := baseL cs) (w := 64) (n := n) F3) ?_
  rintro _ h37 ⟨g37, ⟨hbad, _⟩ | ⟨u37, q37, _, rfl, o37, hq37, lt37⟩⟩
  · exact absurd v3b hbad
  rw [v3a] at o37
  have ln36 := g37.len
  have ro37 : h37.ro = h1.ro := g37.ro.trans ro36
  have o36_36 := (o36).grow g37
  simp
  refine got_call (Values_spec o36_36.bytes (base := baseL cs) (w := 64) (n := n) F3) ?_
  rintro _ h38 ⟨g38, ⟨hbad, _⟩ | ⟨u38, q38, _, rfl, o38, hq38, lt38⟩⟩
  · exact absurd v3b hbad
  rw [v3a] at o38
  have ln37 := g38.len
  have ro38 : h38.ro = h1.ro := g38.ro.trans ro37
  have F0 : Fine [] 0 0 := ⟨by omega, by omega, by simp, fun i _ => by simp [bbit, byteA]⟩
  simp
  refine got_call (Values_spec (bs := []) (ArgS.bytes (.inl ⟨rfl, rfl⟩)) (base := 0) (w := 0) (n := 0) F0) ?_
  rintro _ h39 ⟨g39, hr39⟩
  have ln38 := g39.len
  have ro39 : h39.ro = h1.ro := g39.ro.trans ro38
  have o36_38 := ((o36_36).grow g38).grow g39
  simp
  refine got_call (Values_spec o36_38.bytes (base := baseL cs) (w := 64) (n := n) F3) ?_
  rintro _ h40 ⟨g40, ⟨hbad, _⟩ | ⟨u40, q40, _, rfl, o40, hq40, lt40⟩⟩
  · exact absurd v3b hbad
  rw [v3a] at o40
  have ln39 := g40.len
  have ro40 : h40.ro = h1.ro := g40.ro.trans ro39
  simp
  have o36_39 := (o36_38).grow g40
  have o28_39 := (((((o28_34).grow g36).grow g37).grow g38).grow g39).grow g40
  obtain ⟨h41, a41, o41, c41, n41⟩ := (o36_39).copy (o28_39).reads (by rw [List.length_map, List.length_map, hb8, hb3]) (bv_good _)
  simp [a41]
  have ln40 := c41.len
  have ro41 : h41.ro = h1.ro := c41.ro.trans ro40
  skip
  refine got_call (Values_spec o41.bytes (base := baseL ds) (w := 64) (n := n) F8) ?_
  rintro _ h42 ⟨g42, ⟨hbad, _⟩ | ⟨u42, q42, _, rfl, o42, hq42, lt42⟩⟩
  · exact absurd v8b hbad
  rw [v8a] at o42
  have ln41 := g42.len
  have ro42 : h42.ro = h1.ro := g42.ro.trans ro41
  simp
  have o36_41 := (o41).grow g42
  obtain ⟨u43, h43, q43, a43, o43, g43, hq43, lt43, ne43⟩ := clone_any (bytes := 1) (z := .int .u8 0) o36_41.reads (bv_good _) (by simp; omega) (by simp; omega)
  have ln42 := g43.len
  have ro43 : h43.ro = h1.ro := g43.ro.trans ro42
  simp [a43]
  skip
  refine got_call (Values_spec o43.bytes (base := baseL ds) (w := 64) (n := n) F8) ?_
  rintro _ h44 ⟨g44, ⟨hbad, _⟩ | ⟨u44, q44, _, rfl, o44, hq44, lt44⟩⟩
  · exact absurd v8b hbad
  rw [v8a] at o44
  have ln43 := g44.len
  have ro44 : h44.ro = h1.ro := g44.ro.trans ro43
  have o37_43 := (((((((o37).grow g38).grow g39).grow g40).chg c41 (show ¬ (q37 = q36) by omega)).grow g42).grow g43).grow g44
  simp
  refine got_call (SameInts_spec (o37_43).reads (rd _ ro44) (by omega)) ?_
  rintro _ _ ⟨rfl, rfl⟩
  rename_i h44
  have o38_43 := ((((((o38).grow g39).grow g40).chg c41 (show ¬ (q38 = q36) by omega)).grow g42).grow g43).grow g44
  simp
  refine got_call (SameInts_spec (o38_43).reads (rd _ ro44) (by omega)) ?_
  rintro _ _ ⟨rfl, rfl⟩
  rename_i h44
  have o40_43 := ((((o40).chg c41 (show ¬ (q40 = q36) by omega)).grow g42).grow g43).grow g44
  simp
  refine got_call (SameInts_spec (o40_43).reads (rd _ ro44) (by omega)) ?_
  rintro _ _ ⟨rfl, rfl⟩
  rename_i h44
  have o42_43 := ((o42).grow g43).grow g44
  simp
  refine got_call (SameInts_spec (o42_43).reads (o44).reads (by omega)) ?_
  rintro _ _ ⟨rfl, rfl⟩
  rename_i h44
  have o3_43 := ((((((((((((((((((((((((((((((((((((((((o3_3).grow g5).grow g6).chg c7 (show ¬ (q3 = q2) by omega)).grow g8).grow g9).grow g10).chg c11 (show ¬ (q3 = q2) by omega)).grow g12).grow g13).grow g14).grow g15).grow g16).chg c17 (show ¬ (q3 = q2) by omega)).grow g18).grow g19).grow g20).grow g21).grow g22).grow g23).grow g24).grow g25).grow g26).chg c27 (show ¬ (q3 = q21) by omega)).grow g28).grow g29).grow g30).grow g31).grow g32).grow g33).chg c34 (show ¬ (q3 = q29) by omega)).grow g35).grow g36).grow g37).grow g38).grow g39).grow g40).chg c41 (show ¬ (q3 = q36) by omega)).grow g42).grow g43).grow g44
  have o4_43 := ((((((((((((((((((((((((o4_19).grow g21).grow g22).grow g23).grow g24).grow g25).grow g26).chg c27 (show ¬ (q4 = q21) by omega)).grow g28).grow g29).grow g30).grow g31).grow g32).grow g33).chg c34 (show ¬ (q4 = q29) by omega)).grow g35).grow g36).grow g37).grow g38).grow g39).grow g40).chg c41 (show ¬ (q4 = q36) by omega)).grow g42).grow g43).grow g44
  have o6_43 := ((((((((((((((((((((((((o6_19).grow g21).grow g22).grow g23).grow g24).grow g25).grow g26).chg c27 (show ¬ (q6 = q21) by omega)).grow g28).grow g29).grow g30).grow g31).grow g32).grow g33).chg c34 (show ¬ (q6 = q29) by omega)).grow g35).grow g36).grow g37).grow g38).grow g39).grow g40).chg c41 (show ¬ (q6 = q36) by omega)).grow g42).grow g43).grow g44
  have o8_43 := (((((((((o8_34).grow g36).grow g37).grow g38).grow g39).grow g40).chg c41 (show ¬ (q8 = q36) by omega)).grow g42).grow g43).grow g44
  have o10_43 := ((((((((((((((((((((((((o10_19).grow g21).grow g22).grow g23).grow g24).grow g25).grow g26).chg c27 (show ¬ (q10 = q21) by omega)).grow g28).grow g29).grow g30).grow g31).grow g32).grow g33).chg c34 (show ¬ (q10 = q29) by omega)).grow g35).grow g36).grow g37).grow g38).grow g39).grow g40).chg c41 (show ¬ (q10 = q36) by omega)).grow g42).grow g43).grow g44
  have o13_43 := ((((((((((((((((((((((((((((((o13_13).grow g15).grow g16).chg c17 (show ¬ (q13 = q2) by omega)).grow g18).grow g19).grow g20).grow g21).grow g22).grow g23).grow g24).grow g25).grow g26).chg c27 (show ¬ (q13 = q21) by omega)).grow g28).grow g29).grow g30).grow g31).grow g32).grow g33).chg c34 (show ¬ (q13 = q29) by omega)).grow g35).grow g36).grow g37).grow g38).grow g39).grow g40).chg c41 (show ¬ (q13 = q36) by omega)).grow g42).grow g43).grow g44
  have o14_43 := ((((((((((((((((((((((((o14_19).grow g21).grow g22).grow g23).grow g24).grow g25).grow g26).chg c27 (show ¬ (q14 = q21) by omega)).grow g28).grow g29).grow g30).grow g31).grow g32).grow g33).chg c34 (show ¬ (q14 = q29) by omega)).grow g35).grow g36).grow g37).grow g38).grow g39).grow g40).chg c41 (show ¬ (q14 = q36) by omega)).grow g42).grow g43).grow g44
  have o16_43 := ((((((((((((((((((((((((o16_19).grow g21).grow g22).grow g23).grow g24).grow g25).grow g26).chg c27 (show ¬ (q16 = q21) by omega)).grow g28).grow g29).grow g30).grow g31).grow g32).grow g33).chg c34 (show ¬ (q16 = q29) by omega)).grow g35).grow g36).grow g37).grow g38).grow g39).grow g40).chg c41 (show ¬ (q16 = q36) by omega)).grow g42).grow g43).grow g44
  have o18_43 := (((((((((o18_34).grow g36).grow g37).grow g38).grow g39).grow g40).chg c41 (show ¬ (q18 = q36) by omega)).grow g42).grow g43).grow g44
  have o20_43 := ((((((((((((((((((((((((o20).grow g21).grow g22).grow g23).grow g24).grow g25).grow g26).chg c27 (show ¬ (q20 = q21) by omega)).grow g28).grow g29).grow g30).grow g31).grow g32).grow g33).chg c34 (show ¬ (q20 = q29) by omega)).grow g35).grow g36).grow g37).grow g38).grow g39).grow g40).chg c41 (show ¬ (q20 = q36) by omega)).grow g42).grow g43).grow g44
  have o22_43 := (((((((((o22_34).grow g36).grow g37).grow g38).grow g39).grow g40).chg c41 (show ¬ (q22 = q36) by omega)).grow g42).grow g43).grow g44
  have o23_43 := (((((((((o23_34).grow g36).grow g37).grow g38).grow g39).grow g40).chg c41 (show ¬ (q23 = q36) by omega)).grow g42).grow g43).grow g44
  have o26_43 := (((((((((o26_34).grow g36).grow g37).grow g38).grow g39).grow g40).chg c41 (show ¬ (q26 = q36) by omega)).grow g42).grow g43).grow g44
  have o28_43 := ((((o28_39).chg c41 (show ¬ (q28 = q36) by omega)).grow g42).grow g43).grow g44
  have o30_43 := (((((((((o30_34).grow g36).grow g37).grow g38).grow g39).grow g40).chg c41 (show ¬ (q30 = q36) by omega)).grow g42).grow g43).grow g44
  have o31_43 := (((((((((o31_34).grow g36).grow g37).grow g38).grow g39).grow g40).chg c41 (show ¬ (q31 = q36) by omega)).grow g42).grow g43).grow g44
  have o33_43 := (((((((((o33_34).grow g36).grow g37).grow g38).grow g39).grow g40).chg c41 (show ¬ (q33 = q36) by omega)).grow g42).grow g43).grow g44
  have o35_43 := (((((((((o35).grow g36).grow g37).grow g38).grow g39).grow g40).chg c41 (show ¬ (q35 = q36) by omega)).grow g42).grow g43).grow g44
  obtain ⟨h45, hh45⟩ : ∃ hh, hh = hnew h44 [u3, u4, u6, u8, u10, u13, u14, u16, u18, u20, u22, u23, u26, u28, u30, u31, u33, u35] 1 := ⟨_, rfl⟩
  have g45 : Grow h44 h45 := by rw [hh45]; exact Grow.new _ _ _
  have row45 : RowAt h45 h44.dyn.length 0 1 [u3, u4, u6, u8, u10, u13, u14, u16, u18, u20, u22, u23, u26, u28, u30, u31, u33, u35] := by rw [hh45]; exact RowAt.new _ _ _
  have n45 : h45.dyn.length = h44.dyn.length + 1 := by rw [hh45]; simp
  have ln44 := g45.len
  have ro45 : h45.ro = h1.ro := g45.ro.trans ro44
  have cl45u3 : ((head8 X 8 ++ b3).map bv).length ≤ 1073741824 := by rw [List.length_map]; omega
  have cl45u4 : ((head8 X 8 ++ b3).map bv).length ≤ 1073741824 := by rw [List.length_map]; omega
  have cl45u6 : ((head8 X 8 ++ b3).map bv).length ≤ 1073741824 := by rw [List.length_map]; omega
  have cl45u8 : ((head8 Y 8 ++ b8).map bv).length ≤ 1073741824 := by rw [List.length_map]; omega
  have cl45u10 : ((head8 Y 8 ++ b8).map bv).length ≤ 1073741824 := by rw [List.length_map]; omega
  have cl45u13 : (b13.map bv).length ≤ 1073741824 := by rw [List.length_map]; omega
  have cl45u14 : (b13.map bv).length ≤ 1073741824 := by rw [List.length_map]; omega
  have cl45u16 : (b13.map bv).length ≤ 1073741824 := by rw [List.length_map]; omega
  have cl45u18 : (b18.map bv).length ≤ 1073741824 := by rw [List.length_map]; omega
  have cl45u20 : (b18.map bv).length ≤ 1073741824 := by rw [List.length_map]; omega
  have cl45u22 : (b3.map bv).length ≤ 1073741824 := by rw [List.length_map]; omega
  have cl45u23 : (b3.map bv).length ≤ 1073741824 := by rw [List.length_map]; omega
  have cl45u26 : (b3.map bv).length ≤ 1073741824 := by rw [List.length_map]; omega
  have cl45u28 : (b8.map bv).length ≤ 1073741824 := by rw [List.length_map]; omega
  have cl45u30 : (b13.map bv).length ≤ 1073741824 := by rw [List.length_map]; omega
  have cl45u31 : (b13.map bv).length ≤ 1073741824 := by rw [List.length_map]; omega
  have cl45u33 : (b13.map bv).length ≤ 1073741824 := by rw [List.length_map]; omega
  have cl45u35 : (b18.map bv).length ≤ 1073741824 := by rw [List.length_map]; omega
  have Ls45 := lists_of (h := h45) (qv := h44.dyn.length) (l := [(u3, q3, (head8 X 8 ++ b3).map bv), (u4, q4, (head8 X 8 ++ b3).map bv), (u6, q6, (head8 X 8 ++ b3).map bv), (u8, q8, (head8 Y 8 ++ b8).map bv), (u10, q10, (head8 Y 8 ++ b8).map bv), (u13, q13, b13.map bv), (u14, q14, b13.map bv), (u16, q16, b13.map bv), (u18, q18, b18.map bv), (u20, q20, b18.map bv), (u22, q22, b3.map bv), (u23, q23, b3.map bv), (u26, q26, b3.map bv), (u28, q28, b8.map bv), (u30, q30, b13.map bv), (u31, q31, b13.map bv), (u33, q33, b13.map bv), (u35, q35, b18.map bv)])
    (by
      simp only [List.mem_cons, List.not_mem_nil, or_false]
      rintro t (rfl | rfl | rfl | rfl | rfl | rfl | rfl | rfl | rfl | rfl | rfl | rfl | rfl | rfl | rfl | rfl | rfl | rfl)
      · exact ⟨(o3_43).grow g45, by simp only; omega, by simp only; omega, cl45u3⟩
      · exact ⟨(o4_43).grow g45, by simp only; omega, by simp only; omega, cl45u4⟩
      · exact ⟨(o6_43).grow g45, by simp only; omega, by simp only; omega, cl45u6⟩
      · exact ⟨(o8_43).grow g45, by simp only; omega, by simp only; omega, cl45u8⟩
      · exact ⟨(o10_43).grow g45, by simp only; omega, by simp only; omega, cl45u10⟩
      · exact ⟨(o13_43).grow g45, by simp only; omega, by simp only; omega, cl45u13⟩
      · exact ⟨(o14_43).grow g45, by simp only; omega, by simp only; omega, cl45u14⟩
      · exact ⟨(o16_43).grow g45, by simp only; omega, by simp only; omega, cl45u16⟩
      · exact ⟨(o18_43).grow g45, by simp only; omega, by simp only; omega, cl45u18⟩
      · exact ⟨(o20_43).grow g45, by simp only; omega, by simp only; omega, cl45u20⟩
      · exact ⟨(o22_43).grow g45, by simp only; omega, by simp only; omega, cl45u22⟩
      · exact ⟨(o23_43).grow g45, by simp only; omega, by simp only; omega, cl45u23⟩
      · exact ⟨(o26_43).grow g45, by simp only; omega, by simp only; omega, cl45u26⟩
      · exact ⟨(o28_43).grow g45, by simp only; omega, by simp only; omega, cl45u28⟩
      · exact ⟨(o30_43).grow g45, by simp only; omega, by simp only; omega, cl45u30⟩
      · exact ⟨(o31_43).grow g45, by simp only; omega, by simp only; omega, cl45u31⟩
      · exact ⟨(o33_43).grow g45, by simp only; omega, by simp only; omega, cl45u33⟩
      · exact ⟨(o35_43).grow g45, by simp only; omega, by simp only; omega, cl45u35⟩
    )
    (by simp; omega)
  have hap45 := colonnadelaw11_apart_spec Ls45 (by rw [range_map_getD]; exact row45) (by simp) (by simp)
  simp only [List.length_cons, List.length_nil, Nat.zero_add, Nat.reduceAdd] at hap45
  simp [(o3_43).good, (o4_43).good, (o6_43).good, (o8_43).good, (o10_43).good, (o13_43).good, (o14_43).good, (o16_43).good, (o18_43).good, (o20_43).good, (o22_43).good, (o23_43).good, (o26_43).good, (o28_43).good, (o30_43).good, (o31_43).good, (o33_43).good, (o35_43).good, ← hh45]
  refine got_call hap45 ?_
  rintro _ h46 ⟨rfl, c46⟩
  have K46 : Chg (fun b => (b = q3 ∨ b = q4 ∨ b = q6 ∨ b = q8 ∨ b = q10 ∨ b = q13 ∨ b = q14 ∨ b = q16 ∨ b = q18 ∨ b = q20 ∨ b = q22 ∨ b = q23 ∨ b = q26 ∨ b = q28 ∨ b = q30 ∨ b = q31 ∨ b = q33 ∨ b = q35) ∨ h45.dyn.length ≤ b) h45 h46 := c46.mono fun b _ e => by
    rcases e with ⟨j, hj, rfl⟩ | e
    · left
      have : j = 0 ∨ j = 1 ∨ j = 2 ∨ j = 3 ∨ j = 4 ∨ j = 5 ∨ j = 6 ∨ j = 7 ∨ j = 8 ∨ j = 9 ∨ j = 10 ∨ j = 11 ∨ j = 12 ∨ j = 13 ∨ j = 14 ∨ j = 15 ∨ j = 16 ∨ j = 17 := by omega
      rcases this with rfl | rfl | rfl | rfl | rfl | rfl | rfl | rfl | rfl | rfl | rfl | rfl | rfl | rfl | rfl | rfl | rfl | rfl <;> simp
    · exact .inr e
  have ln45 := K46.len
  have ro46 : h46.ro = h1.ro := K46.ro.trans ro45
  have o37_45 := ((o37_43).grow g45).chg K46 (show ¬ ((q37 = q3 ∨ q37 = q4 ∨ q37 = q6 ∨ q37 = q8 ∨ q37 = q10 ∨ q37 = q13 ∨ q37 = q14 ∨ q37 = q16 ∨ q37 = q18 ∨ q37 = q20 ∨ q37 = q22 ∨ q37 = q23 ∨ q37 = q26 ∨ q37 = q28 ∨ q37 = q30 ∨ q37 = q31 ∨ q37 = q33 ∨ q37 = q35) ∨ h45.dyn.length ≤ q37) by omega)
  have o38_45 := ((o38_43).grow g45).chg K46 (show ¬ ((q38 = q3 ∨ q38 = q4 ∨ q38 = q6 ∨ q38 = q8 ∨ q38 = q10 ∨ q38 = q13 ∨ q38 = q14 ∨ q38 = q16 ∨ q38 = q18 ∨ q38 = q20 ∨ q38 = q22 ∨ q38 = q23 ∨ q38 = q26 ∨ q38 = q28 ∨ q38 = q30 ∨ q38 = q31 ∨ q38 = q33 ∨ q38 = q35) ∨ h45.dyn.length ≤ q38) by omega)
  have o40_45 := ((o40_43).grow g45).chg K46 (show ¬ ((q40 = q3 ∨ q40 = q4 ∨ q40 = q6 ∨ q40 = q8 ∨ q40 = q10 ∨ q40 = q13 ∨ q40 = q14 ∨ q40 = q16 ∨ q40 = q18 ∨ q40 = q20 ∨ q40 = q22 ∨ q40 = q23 ∨ q40 = q26 ∨ q40 = q28 ∨ q40 = q30 ∨ q40 = q31 ∨ q40 = q33 ∨ q40 = q35) ∨ h45.dyn.length ≤ q40) by omega)
  have o42_45 := ((o42_43).grow g45).chg K46 (show ¬ ((q42 = q3 ∨ q42 = q4 ∨ q42 = q6 ∨ q42 = q8 ∨ q42 = q10 ∨ q42 = q13 ∨ q42 = q14 ∨ q42 = q16 ∨ q42 = q18 ∨ q42 = q20 ∨ q42 = q22 ∨ q42 = q23 ∨ q42 = q26 ∨ q42 = q28 ∨ q42 = q30 ∨ q42 = q31 ∨ q42 = q33 ∨ q42 = q35) ∨ h45.dyn.length ≤ q42) by omega)
  have o44_45 := ((o44).grow g45).chg K46 (show ¬ ((q44 = q3 ∨ q44 = q4 ∨ q44 = q6 ∨ q44 = q8 ∨ q44 = q10 ∨ q44 = q13 ∨ q44 = q14 ∨ q44 = q16 ∨ q44 = q18 ∨ q44 = q20 ∨ q44 = q22 ∨ q44 = q23 ∨ q44 = q26 ∨ q44 = q28 ∨ q44 = q30 ∨ q44 = q31 ∨ q44 = q33 ∨ q44 = q35) ∨ h45.dyn.length ≤ q44) by omega)
  obtain ⟨h47, hh47⟩ : ∃ hh, hh = hnew h46 [u37, u38, u40, u42, u44] 1 := ⟨_, rfl⟩
  have g47 : Grow h46 h47 := by rw [hh47]; exact Grow.new _ _ _
  have row47 : RowAt h47 h46.dyn.length 0 1 [u37, u38, u40, u42, u44] := by rw [hh47]; exact RowAt.new _ _ _
  have n47 : h47.dyn.length = h46.dyn.length + 1 := by rw [hh47]; simp
  have ln46 := g47.len
  have ro47 : h47.ro = h1.ro := g47.ro.trans ro46
  have cl47u37 : (cs.map iv).length ≤ 1073741824 := by rw [List.length_map]; omega
  have cl47u38 : (cs.map iv).length ≤ 1073741824 := by rw [List.length_map]; omega
  have cl47u40 : (cs.map iv).length ≤ 1073741824 := by rw [List.length_map]; omega
  have cl47u42 : (ds.map iv).length ≤ 1073741824 := by rw [List.length_map]; omega
  have cl47u44 : (ds.map iv).length ≤ 1073741824 := by rw [List.length_map]; omega
  have Ls47 := lists_of (h := h47) (qv := h46.dyn.length) (l := [(u37, q37, cs.map iv), (u38, q38, cs.map iv), (u40, q40, cs.map iv), (u42, q42, ds.map iv), (u44, q44, ds.map iv)])
    (by
      simp only [List.mem_cons, List.not_mem_nil, or_false]
      rintro t (rfl | rfl | rfl | rfl | rfl)
      · exact ⟨(o37_45).grow g47, by simp only; omega, by simp only; omega, cl47u37⟩
      · exact ⟨(o38_45).grow g47, by simp only; omega, by simp only; omega, cl47u38⟩
      · exact ⟨(o40_45).grow g47, by simp only; omega, by simp only; omega, cl47u40⟩
      · exact ⟨(o42_45).grow g47, by simp only; omega, by simp only; omega, cl47u42⟩
      · exact ⟨(o44_45).grow g47, by simp only; omega, by simp only; omega, cl47u44⟩
    )
    (by simp; omega)
  have hap47 := colonnadelaw11_apartInts_spec Ls47 (by rw [range_map_getD]; exact row47) (by simp) (by simp)
  simp only [List.length_cons, List.length_nil, Nat.zero_add, Nat.reduceAdd] at hap47
  simp [(o37_45).good, (o38_45).good, (o40_45).good, (o42_45).good, (o44_45).good, ← hh47]
  refine got_call hap47 ?_
  rintro _ h48 ⟨rfl, c48⟩
  have K48 : Chg (fun b => (b = q37 ∨ b = q38 ∨ b = q40 ∨ b = q42 ∨ b = q44) ∨ h47.dyn.length ≤ b) h47 h48 := c48.mono fun b _ e => by
    rcases e with ⟨j, hj, rfl⟩ | e
    · left
      have : j = 0 ∨ j = 1 ∨ j = 2 ∨ j = 3 ∨ j = 4 := by omega
      rcases this with rfl | rfl | rfl | rfl | rfl <;> simp
    · exact .inr e
  have ln47 := K48.len
  have ro48 : h48.ro = h1.ro := K48.ro.trans ro47
  simp
  refine got_call (PutFrame_spec (cs := cs) (w := 64) (rd _ ro48) (by omega) (by omega)) ?_
  rintro _ h49 ⟨g49, ⟨hbad, _⟩ | ⟨u49, q49, b49, _, rfl, o49, hq49, p49⟩⟩
  · exact absurd (all64 _) hbad
  rw [hX] at o49
  have ln48 := g49.len
  have ro49 : h49.ro = h1.ro := g49.ro.trans ro48
  obtain rfl := p3.ext p49
  have o12_48 := (((((((((((((((((((((((((((((((((((((o12).grow g13).grow g14).grow g15).grow g16).chg c17 (show ¬ (q12 = q2) by omega)).grow g18).grow g19).grow g20).grow g21).grow g22).grow g23).grow g24).grow g25).grow g26).chg c27 (show ¬ (q12 = q21) by omega)).grow g28).grow g29).grow g30).grow g31).grow g32).grow g33).chg c34 (show ¬ (q12 = q29) by omega)).grow g35).grow g36).grow g37).grow g38).grow g39).grow g40).chg c41 (show ¬ (q12 = q36) by omega)).grow g42).grow g43).grow g44).grow g45).chg K46 (show ¬ ((q12 = q3 ∨ q12 = q4 ∨ q12 = q6 ∨ q12 = q8 ∨ q12 = q10 ∨ q12 = q13 ∨ q12 = q14 ∨ q12 = q16 ∨ q12 = q18 ∨ q12 = q20 ∨ q12 = q22 ∨ q12 = q23 ∨ q12 = q26 ∨ q12 = q28 ∨ q12 = q30 ∨ q12 = q31 ∨ q12 = q33 ∨ q12 = q35) ∨ h45.dyn.length ≤ q12) by omega)).grow g47).chg K48 (show ¬ ((q12 = q37 ∨ q12 = q38 ∨ q12 = q40 ∨ q12 = q42 ∨ q12 = q44) ∨ h47.dyn.length ≤ q12) by omega)).grow g49
  simp
  refine got_call (PutPacked_spec (cs := ps) (w := 64) o12_48.reads (by omega) (by omega)) ?_
  rintro _ h50 ⟨g50, ⟨hbad, _⟩ | ⟨u50, q50, b50, _, _, rfl, o50, hq50, p50, ne50⟩⟩
  · exact absurd hbad (by rintro (hb | hb); exact bps hb; exact hb (all64 _))
  have ln49 := g50.len
  have ro50 : h50.ro = h1.ro := g50.ro.trans ro49
  have lt50 := o50.lt' ne50
  obtain rfl := p13.ext p50
  have o49_49 := (o49).grow g50
  simp [b2s_reads (o49_49).reads, b2s_reads (o50).reads, skipV]
  exact hQ _ _ rfl

end Go.Ax
