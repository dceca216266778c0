/- Seat sel: what the law on memory needs: blocks of what was made, lists grown out of nothing, words told; the law's other half (again). -/
import Derived.Test.YtahllahgeldjcaaDoorSS
import Derived.Test.YtahllahgeldjcaaDoorSQ
namespace Go.Ax
open Go.Proofs
set_option linter.unusedVariables false
set_option linter.unusedSimpArgs false
set_option maxRecDepth 1000000

theorem awakeN_run (L : Nat → Nat → Option Value) : (acallN P T 60 (.fn F_colonnadelaw04_awake) [] (heap0 (roBlk tabG L))).map (fun r => (r.1, r.2.ro, decide (8 ≤ r.2.dyn.length))) = some (.bool true, roBlk tabG L, true) := by kernel_rfl

theorem awakeN_spec (L : Nat → Nat → Option Value) : Gives P T (.fn F_colonnadelaw04_awake) [] (heap0 (roBlk tabG L)) fun v h' => v = .bool true ∧ h'.ro = roBlk tabG L ∧ 8 ≤ h'.dyn.length := by
  have h := awakeN_run L
  rw [Option.map_eq_some_iff] at h
  obtain ⟨r, h1, h2⟩ := h
  simp only [Prod.mk.injEq, decide_eq_true_eq] at h2
  exact gives_closed h1 h2

/-- A list grown out of nothing. -/
theorem app_nil {h : Heap} {l : List Value} {x : Value} {bytes : Nat} {z : Value} (r : Reads h x l) (hg : l.all goodC = true) (hb : l.length * bytes ≤ 140737488355328) (hb' : l.length ≤ 140737488355328) :
    ∃ v1 h1 q1, aappend h 1 bytes [z] (.slice none 0 0) x = some (v1, h1) ∧ Own h1 v1 q1 l ∧ Grow h h1 ∧ h.dyn.length ≤ q1 := by
  obtain ⟨f1, f2⟩ := r.first
  by_cases h0 : l = []
  · subst h0
    exact ⟨_, _, h.dyn.length, (Own.nil h h.dyn.length).app0 (by simp) f1 f2, Own.nil _ _, Chg.refl _, Nat.le_refl _⟩
  · obtain ⟨v', h', q', e, o, c, _, d⟩ := (Own.nil h h.dyn.length).app (bytes := bytes) (z := z) h0 f1 f2 hg (by simpa using hb) (by simpa using hb')
    refine ⟨v', h', q', e, by simpa using o, c.mono fun n hn hb => by have := hb.1; omega, ?_⟩
    rcases d with ⟨h1, _⟩ | h1 <;> omega

theorem wv_good (ws : List (BitVec 64)) : (ws.map wv).all goodC = true := by rw [List.all_eq_true]; intro x hx; rw [List.mem_map] at hx; obtain ⟨y, _, rfl⟩ := hx; simp [wv]

theorem cloneW_own {h : Heap} {b : Option Addr} {c q : Nat} {ws : List (BitVec 64)} (w : Words h b c q ws) (hl : ws.length ≤ 16777216) :
    Gives P T (.fn F_slices_Clone_uint64_uint64) [.slice b ws.length c] h fun v h' => ∃ q', Own h' v q' (ws.map wv) ∧ Grow h h' ∧ h.dyn.length ≤ q' ∧ (v ≠ nilS → q' < h'.dyn.length) := by
  refine gives_by t_slices_Clone_uint64_uint64 (by simp [c_slices_Clone_uint64_uint64]) fun Q hQ => ?_
  rcases w with ⟨rfl, rfl, rfl⟩ | ⟨v, rfl, r, h1, h2⟩
  · simp [c_slices_Clone_uint64_uint64]
    exact hQ _ _ ⟨h.dyn.length, .inl ⟨rfl, rfl⟩, Chg.refl _, Nat.le_refl _, fun h => absurd rfl h⟩
  · have rd : Reads h (.slice (some ⟨q, 0, some v⟩) ws.length c) (ws.map wv) := .inr ⟨⟨q, 0, some v⟩, c, by simp, fun i x hx => by simpa using r.get hx⟩
    obtain ⟨v1, h3, q1, e1, o1, g1, hq1, hl1, _⟩ := clone_any (bytes := 8) (z := .int .u64 0) rd (wv_good ws) (by simp; omega) (by simp; omega)
    simp [c_slices_Clone_uint64_uint64, e1]
    exact hQ _ _ ⟨q1, o1, g1, hq1, fun _ => hl1⟩

theorem Words_own {h : Heap} {p q n : Nat} {ws : List (BitVec 64)} (s : SetAt h p q n ws) (hl : ws.length ≤ 16777216) :
    Gives P T (.fn F_bits_Set_Words) [ptr p] h fun v h' => ∃ q', Own h' v q' (ws.map wv) ∧ Grow h h' ∧ h.dyn.length ≤ q' ∧ (v ≠ nilS → q' < h'.dyn.length) := by
  obtain ⟨b, c, h1, h2⟩ := s.ex
  refine gives_by t_bits_Set_Words (by simp [c_bits_Set_Words]) fun Q hQ => ?_
  simp [c_bits_Set_Words, ptr, h1.get (i := 1) rfl]
  refine got_call (cloneW_own h2 hl) ?_
  rintro v h' ⟨q', o, g, hq, hv⟩
  simp
  exact hQ _ _ ⟨q', o, g, hq, hv⟩

/-- What was made, with blocks that are there. -/
def MadeN (h h' : Heap) (v : Value) (n : Nat) (w : List (BitVec 64)) (p q : Nat) : Prop :=
  SelV h' v n w (fewB w n) p q ∧ GrowL h h' ∧ p < h'.dyn.length ∧ q < h'.dyn.length ∧ (h.dyn.length ≤ p ∧ h.dyn.length ≤ q ∨ p = 0 ∧ q = 0 ∧ fewB w n = true)

theorem Made.n {h h' : Heap} {v : Value} {n : Nat} {B : Nat → Bool} (m : Made h h' v n B) (h0 : 0 < h'.dyn.length) : ∃ w p q, MadeN h h' v n w p q ∧ Canon n w ∧ ∀ i, i < n → bit w i = B i := by
  obtain ⟨w, p, q, S, c, hb, g, hp, hq⟩ := m
  rcases S with ⟨e, e2, s⟩ | ⟨e, e2, sl, e3, o⟩
  · obtain ⟨q', s', ql, d⟩ := s.norm'
    exact ⟨w, p, q', ⟨.inl ⟨e, e2, s'⟩, g, s.pl, ql, .inl ⟨hp, by omega⟩⟩, c, hb⟩
  · obtain ⟨q', o', d⟩ := o.at 0
    rcases d with ⟨hv, rfl⟩ | ⟨hv, rfl⟩
    · have := o'.lt' hv
      exact ⟨w, q', q', ⟨.inr ⟨e, rfl, sl, e3, o'⟩, g, this, this, .inl ⟨hq, hq⟩⟩, c, hb⟩
    · exact ⟨w, 0, 0, ⟨.inr ⟨e, rfl, sl, e3, o'⟩, g, h0, h0, .inr ⟨rfl, rfl, e⟩⟩, c, hb⟩

theorem Made.same {h h' : Heap} {v : Value} {n : Nat} {B : Nat → Bool} {ws : List (BitVec 64)} (m : Made h h' v n B) (h0 : 0 < h'.dyn.length) (c : Canon n ws) (hB : ∀ i, i < n → B i = bit ws i) : ∃ p q, MadeN h h' v n ws p q := by
  obtain ⟨w, p, q, m, c', hb⟩ := m.n h0
  have e : w = ws := c'.ext c fun i hi => by rw [hb i hi, hB i hi]
  subst e
  exact ⟨p, q, m⟩

theorem SelV.chgX {S : Nat → Prop} {h h' : Heap} {v : Value} {n p q : Nat} {ws : List (BitVec 64)} {f : Bool} (s : SelV h v n ws f p q) (k : Chg S h h') (hp : ¬ S p) (hq : ¬ S q) : SelV h' v n ws f p q := by
  rcases s with ⟨e, e2, s⟩ | ⟨e, e2, sl, e3, o⟩
  · exact .inl ⟨e, e2, s.chg k hp hq⟩
  · exact .inr ⟨e, e2, sl, e3, o.chg k hq⟩

theorem reads_one {h : Heap} {c : Nat} {v : Value} {n p q : Nat} {ws : List (BitVec 64)} {f : Bool} (r : RowAt h c 0 1 [v]) : Reads h (.slice (some ⟨c, 0, some 0⟩) 1 1) (([⟨v, n, ws, f, p, q⟩] : List SelD).map (·.v)) :=
  .inr ⟨⟨c, 0, some 0⟩, 1, by simp, fun i x hx => by simpa using r.get (by simpa using hx)⟩

theorem MeetL {h : Heap} {L : Nat → Nat → Option Value} (hro : h.ro = roBlk tabG L) {v v2 : Value} {c n p q p2 q2 : Nat} {ws w2 : List (BitVec 64)} {f f2 : Bool} (S : SelV h v n ws f p q) (cn : Canon n ws) (S2 : SelV h v2 n w2 f2 p2 q2) (c2 : Canon n w2) (r : RowAt h c 0 1 [v2]) :
    Gives P T (.fn F_sel_Meet) [v, .slice (some ⟨c, 0, some 0⟩) 1 1] h fun t h' => ∃ v', t = .tuple #[v', .int .i64 0] ∧ Made h h' v' n (fun i => bit ws i && bit w2 i) := by
  refine (Meet_spec hro S cn (l := [⟨v2, n, w2, f2, p2, q2⟩]) (reads_one r) (by
    simp only [List.mem_cons, List.not_mem_nil, or_false]
    rintro d rfl
    exact ⟨S2, c2⟩) (by simp) (by simp)).mono ?_
  rintro t h' ⟨v', rfl, w, p', q', S', c', hb, g⟩
  exact ⟨v', rfl, w, p', q', S', c', fun i hi => by rw [hb i hi]; simp, g⟩

theorem JoinL {h : Heap} {L : Nat → Nat → Option Value} (hro : h.ro = roBlk tabG L) {v v2 : Value} {c n p q p2 q2 : Nat} {ws w2 : List (BitVec 64)} {f f2 : Bool} (S : SelV h v n ws f p q) (cn : Canon n ws) (S2 : SelV h v2 n w2 f2 p2 q2) (c2 : Canon n w2) (r : RowAt h c 0 1 [v2]) :
    Gives P T (.fn F_sel_Join) [v, .slice (some ⟨c, 0, some 0⟩) 1 1] h fun t h' => ∃ v', t = .tuple #[v', .int .i64 0] ∧ Made h h' v' n (fun i => bit ws i || bit w2 i) := by
  refine (Join_spec hro S cn (l := [⟨v2, n, w2, f2, p2, q2⟩]) (reads_one r) (by
    simp only [List.mem_cons, List.not_mem_nil, or_false]
    rintro d rfl
    exact ⟨S2, c2⟩) (by simp) (by simp)).mono ?_
  rintro t h' ⟨v', rfl, w, p', q', S', c', hb, g⟩
  exact ⟨v', rfl, w, p', q', S', c', fun i hi => by rw [hb i hi]; simp, g⟩

theorem again_spec {h : Heap} {L : Nat → Nat → Option Value} (hro : h.ro = roBlk tabG L) {v0 v1 A B : Value} {xs ys : List Bool} {n : Nat}
    (ka : ∀ h2, aslice h2 1 v0 none (some (.int .i64 n)) none = some A) (kb : ∀ h2, aslice h2 1 v1 none (some (.int .i64 n)) none = some B)
    (ra : ∀ h', h'.ro = h.ro → Reads h' A (xs.map .bool)) (rb : ∀ h', h'.ro = h.ro → Reads h' B (ys.map .bool)) (hx : xs.length = n) (hy : ys.length = n) (hn : n ≤ 300) :
    Gives P T (.fn F_colonnadelaw04_again) [.int .i64 n, v0, v1] h fun v _ => v = .bool true := by
  refine gives_by t_colonnadelaw04_again (by simp [c_colonnadelaw04_again]) fun Q hQ => ?_
  simp [c_colonnadelaw04_again, ka]
  refine got_call (Of_spec (ra h rfl) (by omega)) ?_
  rintro _ h1 ⟨po, qo, wo, rfl, so, co, -, g1, -, -⟩
  rw [hx] at so co
  have ro1 := g1.ro.trans hro
  simp
  refine got_call (Make_s ro1 so co) ?_
  rintro vx h2 m2
  have sol := so.pl
  have g2 : GrowL h1 h2 := by obtain ⟨_, _, _, _, _, _, g, _⟩ := m2; exact g
  have l2 := g2.len'
  obtain ⟨wx, px, qx, ⟨Sx, -, xp, xq, xd⟩, cx, bx⟩ := m2.n (by omega)
  have ro2 := g2.ro'.trans ro1
  simp [kb]
  refine got_call (Of_spec (rb h2 (ro2.trans hro.symm)) (by omega)) ?_
  rintro _ h3 ⟨po', qo', wo', rfl, so', co', -, g3, -, -⟩
  rw [hy] at so' co'
  have ro3 := g3.ro.trans ro2
  have l3 := g3.len
  simp
  refine got_call (Make_s ro3 so' co') ?_
  rintro vy h4 m4
  have g4 : GrowL h3 h4 := by obtain ⟨_, _, _, _, _, _, g, _⟩ := m4; exact g
  have l4 := g4.len'
  obtain ⟨wy, py, qy, ⟨Sy, -, yp, yq, yd⟩, cy, by_⟩ := m4.n (by omega)
  have ro4 := g4.ro'.trans ro3
  simp
  refine got_call (None_s ro4 (n := n) (by omega)) ?_
  rintro vn h5 m5
  have g5 : GrowL h4 h5 := by obtain ⟨_, _, _, _, _, _, g, _⟩ := m5; exact g
  have l5 := g5.len'
  obtain ⟨wn, pn, qn, ⟨Sn, -, np, nq, nd⟩, cn, bn⟩ := m5.n (by omega)
  have ro5 := g5.ro'.trans ro4
  simp
  refine got_call (Whole_s ro5 (n := n) (by omega)) ?_
  rintro va h6 m6
  have g6 : GrowL h5 h6 := by obtain ⟨_, _, _, _, _, _, g, _⟩ := m6; exact g
  have l6 := g6.len'
  obtain ⟨wa, pa, qa, ⟨Sa, -, ap, aq, ad⟩, ca, ba⟩ := m6.n (by omega)
  have ro6 := g6.ro'.trans ro5
  have gx := Sx.good
  have gy := Sy.good
  simp [gx]
  obtain ⟨c, hc⟩ : ∃ c, h6.dyn.length = c := ⟨_, rfl⟩
  obtain ⟨h7, hh7⟩ : ∃ x, x = hnew h6 [vx] 1 := ⟨_, rfl⟩
  have g7 : Grow h6 h7 := by rw [hh7]; exact Grow.new _ _ _
  have r7 : RowAt h7 c 0 1 [vx] := by rw [hh7, ← hc]; exact RowAt.new _ _ _
  have l7 : h7.dyn.length = c + 1 := by rw [hh7]; simp [hc]
  rw [hc, ← hh7]
  have ro7 := g7.ro.trans ro6
  replace Sx := (((((Sx.growL g3.l).growL g4).growL g5).growL g6).growL g7.l)
  replace Sy := (((Sy.growL g5).growL g6).growL g7.l)
  replace Sn := ((Sn.growL g6).growL g7.l)
  replace Sa := Sa.growL g7.l
  refine got_call (MeetL ro7 Sa ca Sx cx r7) ?_
  rintro _ h8 ⟨vm1, rfl, m8⟩
  have g8 : GrowL h7 h8 := by obtain ⟨_, _, _, _, _, _, g, _⟩ := m8; exact g
  have l8 := g8.len'
  obtain ⟨p1, q1, ⟨S1, -, p1l, q1l, d1⟩⟩ := m8.same (by omega) cx (fun i hi => by simp [ba i hi])
  obtain ⟨h9, e9, r9, k9, n9⟩ := (r7.chgL g8 id).put (y := vy) gy
  have ro9 : h9.ro = roBlk tabG L := (k9.ro.trans g8.ro').trans ro7
  simp [iad0, aadd, e9, gx, gy]
  replace Sx := (Sx.growL g8).chgX k9 (by omega) (by omega)
  replace Sy := (Sy.growL g8).chgX k9 (by omega) (by omega)
  replace Sn := (Sn.growL g8).chgX k9 (by omega) (by omega)
  replace Sa := (Sa.growL g8).chgX k9 (by omega) (by omega)
  replace S1 := S1.chgX k9 (by omega) (by omega)
  refine got_call (MeetL ro9 Sa ca Sy cy r9) ?_
  rintro _ h10 ⟨vm2, rfl, m10⟩
  have g10 : GrowL h9 h10 := by obtain ⟨_, _, _, _, _, _, g, _⟩ := m10; exact g
  have l10 := g10.len'
  obtain ⟨p2, q2, ⟨S2, -, p2l, q2l, d2⟩⟩ := m10.same (by omega) cy (fun i hi => by simp [ba i hi])
  obtain ⟨h11, e11, r11, k11, n11⟩ := (r9.chgL g10 id).put (y := vx) gx
  have ro11 : h11.ro = roBlk tabG L := (k11.ro.trans g10.ro').trans ro9
  simp [iad0, aadd, e11, gx, gy]
  replace Sx := (Sx.growL g10).chgX k11 (by omega) (by omega)
  replace Sy := (Sy.growL g10).chgX k11 (by omega) (by omega)
  replace Sn := (Sn.growL g10).chgX k11 (by omega) (by omega)
  replace S1 := (S1.growL g10).chgX k11 (by omega) (by omega)
  replace S2 := S2.chgX k11 (by omega) (by omega)
  refine got_call (JoinL ro11 Sn cn Sx cx r11) ?_
  rintro _ h12 ⟨vj1, rfl, m12⟩
  have g12 : GrowL h11 h12 := by obtain ⟨_, _, _, _, _, _, g, _⟩ := m12; exact g
  have l12 := g12.len'
  obtain ⟨p3, q3, ⟨S3, -, p3l, q3l, d3⟩⟩ := m12.same (by omega) cx (fun i hi => by simp [bn i hi])
  obtain ⟨h13, e13, r13, k13, n13⟩ := (r11.chgL g12 id).put (y := vy) gy
  have ro13 : h13.ro = roBlk tabG L := (k13.ro.trans g12.ro').trans ro11
  simp [iad0, aadd, e13, gx, gy]
  replace Sx := (Sx.growL g12).chgX k13 (by omega) (by omega)
  replace Sy := (Sy.growL g12).chgX k13 (by omega) (by omega)
  replace Sn := (Sn.growL g12).chgX k13 (by omega) (by omega)
  replace S1 := (S1.growL g12).chgX k13 (by omega) (by omega)
  replace S2 := (S2.growL g12).chgX k13 (by omega) (by omega)
  replace S3 := S3.chgX k13 (by omega) (by omega)
  refine got_call (JoinL ro13 Sn cn Sy cy r13) ?_
  rintro _ h14 ⟨vj2, rfl, m14⟩
  have g14 : GrowL h13 h14 := by obtain ⟨_, _, _, _, _, _, g, _⟩ := m14; exact g
  have l14 := g14.len'
  obtain ⟨p4, q4, ⟨S4, -, p4l, q4l, d4⟩⟩ := m14.same (by omega) cy (fun i hi => by simp [bn i hi])
  have ro14 := g14.ro'.trans ro13
  simp
  replace Sx := Sx.growL g14
  replace Sy := Sy.growL g14
  replace S1 := S1.growL g14
  replace S2 := S2.growL g14
  replace S3 := S3.growL g14
  refine got_call (alike_s ro14 S1 cx Sx) ?_
  rintro _ h15 ⟨rfl, g15⟩
  have ro15 := g15.ro'.trans ro14
  simp
  refine got_call (alike_s ro15 (S2.growL g15) cy (Sy.growL g15)) ?_
  rintro _ h16 ⟨rfl, g16⟩
  have ro16 := g16.ro'.trans ro15
  have G16 := GrowL.trans g15 g16
  simp
  refine got_call (alike_s ro16 (S3.growL G16) cx (Sx.growL G16)) ?_
  rintro _ h17 ⟨rfl, g17⟩
  have ro17 := g17.ro'.trans ro16
  have G17 := GrowL.trans G16 g17
  simp
  refine got_call (alike_s ro17 (S4.growL G17) cy (Sy.growL G17)) ?_
  rintro _ h18 ⟨rfl, g18⟩
  simp
  exact hQ _ _ rfl

/-- Two lists that rise and hold the same numbers are one. -/
theorem sorted_eq : ∀ {xs ys : List Nat}, xs.Pairwise (· < ·) → ys.Pairwise (· < ·) → (∀ x, x ∈ xs ↔ x ∈ ys) → xs = ys
  | [], [], _, _, _ => rfl
  | [], y :: ys, _, _, h => by have := (h y).2 (by simp); simp at this
  | x :: xs, [], _, _, h => by have := (h x).1 (by simp); simp at this
  | x :: xs, y :: ys, hx, hy, h => by
    rw [List.pairwise_cons] at hx hy
    have e : x = y := by
      have h1 := (h x).1 (by simp)
      have h2 := (h y).2 (by simp)
      rw [List.mem_cons] at h1 h2
      rcases h1 with h1 | h1
      · exact h1
      · rcases h2 with h2 | h2
        · exact h2.symm
        · have := hx.1 y h2
          have := hy.1 x h1
          omega
    subst e
    have ih := sorted_eq hx.2 hy.2 fun z => by
      have hz := h z
      rw [List.mem_cons, List.mem_cons] at hz
      constructor
      · intro k
        rcases hz.1 (.inr k) with rfl | k'
        · have := hx.1 z k; omega
        · exact k'
      · intro k
        rcases hz.2 (.inr k) with rfl | k'
        · have := hy.1 z k; omega
        · exact k'
    rw [ih]

theorem filt_of {xs : List Nat} {N : Nat} {g : Nat → Bool} (hs : xs.Pairwise (· < ·)) (hb : ∀ x ∈ xs, x < N) (hg : ∀ i, i < N → g i = decide (i ∈ xs)) : filt g N = xs :=
  sorted_eq (filt_sorted _ _) hs fun x => by
    rw [filt_mem]
    constructor
    · rintro ⟨h1, h2⟩
      rw [hg x h1] at h2
      exact of_decide_eq_true h2
    · intro h
      exact ⟨hb x h, by rw [hg x (hb x h)]; exact decide_eq_true h⟩

/-- What stays: the set, the words that it told, the list, selections. -/
structure MK (h : Heap) (n : Nat) (ws : List (BitVec 64)) (f : Bool) (p q : Nat) (vw : Value) (qw : Nat) (va : Value) (qa : Nat) (D : List (Value × Nat × Nat)) : Prop where
  set : SetAt h p q n ws
  words : Own h vw qw (ws.map wv)
  was : Own h va qa (iL (filt (bit ws) n))
  sels : ∀ d ∈ D, SelV h d.1 n ws f d.2.1 d.2.2

theorem MK.growL {h h' : Heap} {n : Nat} {ws : List (BitVec 64)} {f : Bool} {p q : Nat} {vw : Value} {qw : Nat} {va : Value} {qa : Nat} {D : List (Value × Nat × Nat)} (K : MK h n ws f p q vw qw va qa D) (g : GrowL h h') : MK h' n ws f p q vw qw va qa D :=
  ⟨K.set.growL g, K.words.growL g, K.was.growL g, fun d hd => (K.sels d hd).growL g⟩

theorem MK.chg {S : Nat → Prop} {h h' : Heap} {n : Nat} {ws : List (BitVec 64)} {f : Bool} {p q : Nat} {vw : Value} {qw : Nat} {va : Value} {qa : Nat} {D : List (Value × Nat × Nat)} (K : MK h n ws f p q vw qw va qa D) (k : Chg S h h')
    (hp : ¬ S p) (hq : ¬ S q) (hw : vw ≠ nilS → ¬ S qw) (ha : va ≠ nilS → ¬ S qa) (hd : ∀ d ∈ D, ¬ S d.2.1 ∧ ¬ S d.2.2) : MK h' n ws f p q vw qw va qa D :=
  ⟨K.set.chg k hp hq, K.words.chgN k hw, K.was.chgN k ha, fun d hm => (K.sels d hm).chgX k (hd d hm).1 (hd d hm).2⟩

theorem MK.add {h : Heap} {n : Nat} {ws : List (BitVec 64)} {f : Bool} {p q : Nat} {vw : Value} {qw : Nat} {va : Value} {qa : Nat} {D : List (Value × Nat × Nat)} (K : MK h n ws f p q vw qw va qa D) {v : Value} {ps qs : Nat} (S : SelV h v n ws f ps qs) : MK h n ws f p q vw qw va qa (D ++ [(v, ps, qs)]) :=
  ⟨K.set, K.words, K.was, fun d hd => by
    rw [List.mem_append, List.mem_singleton] at hd
    rcases hd with hd | rfl
    · exact K.sels d hd
    · exact S⟩

theorem MK.none {h : Heap} {n : Nat} {ws : List (BitVec 64)} {f : Bool} {p q : Nat} {vw : Value} {qw : Nat} {va : Value} {qa : Nat} {D : List (Value × Nat × Nat)} (K : MK h n ws f p q vw qw va qa D) : MK h n ws f p q vw qw va qa [] :=
  ⟨K.set, K.words, K.was, fun d hd => by simp at hd⟩

/-- Where a block lies: in a span, or at 0 (nothing is there). -/
structure Pos (lo hi p : Nat) : Prop where
  at_ : (lo ≤ p ∧ p < hi) ∨ p = 0

theorem Made.pos {h h' : Heap} {v : Value} {n : Nat} {B : Nat → Bool} {ws : List (BitVec 64)} {f : Bool} (m : Made h h' v n B) (h0 : 0 < h'.dyn.length) (c : Canon n ws) (hB : ∀ i, i < n → B i = bit ws i) (hf : fewB ws n = f) :
    ∃ p q, SelV h' v n ws f p q ∧ Pos h.dyn.length h'.dyn.length p ∧ Pos h.dyn.length h'.dyn.length q ∧ (f = false → h.dyn.length ≤ p ∧ h.dyn.length ≤ q ∧ p < h'.dyn.length ∧ q < h'.dyn.length) := by
  obtain ⟨p, q, S, -, h1, h2, d⟩ := m.same h0 c hB
  rw [hf] at S d
  refine ⟨p, q, S, ⟨?_⟩, ⟨?_⟩, fun e => ?_⟩
  · rcases d with d | ⟨d, -, -⟩
    · exact .inl ⟨d.1, h1⟩
    · exact .inr d
  · rcases d with d | ⟨-, d, -⟩
    · exact .inl ⟨d.2, h2⟩
    · exact .inr d
  · rcases d with d | ⟨-, -, d⟩
    · exact ⟨d.1, d.2, h1, h2⟩
    · rw [e] at d; cases d

theorem got_listN {h : Heap} {v : Value} {n p q : Nat} {ws : List (BitVec 64)} {f : Bool} {K : Value → Heap → Prop} {L : Nat → Nat → Option Value} (hro : h.ro = roBlk tabG L) (S : SelV h v n ws f p q) (cn : Canon n ws)
    (i : ∀ u q2 h', Own h' u q2 (iL (filt (bit ws) n)) → GrowL h h' → h.dyn.length ≤ q2 → q2 < h'.dyn.length → K u h') : got (callR (acallW P T) h (inv P h "List" v [])) K := by
  have hn := cn.le
  have hfl := filt_le (bit ws) n
  have fin : ∀ {h' : Heap} {u : Value} {q' : Nat} {l : List Value}, Own h' u q' l → h.dyn.length ≤ q' → h.dyn.length < h'.dyn.length → (u ≠ nilS → q' < h'.dyn.length) → ∃ q2, Own h' u q2 l ∧ h.dyn.length ≤ q2 ∧ q2 < h'.dyn.length := fun {h' u q' l} o hq hl hv => by
    obtain ⟨q2, o2, d⟩ := o.at h.dyn.length
    rcases d with ⟨d1, d2⟩ | ⟨_, d2⟩
    · have := hv d1
      exact ⟨q2, o2, by omega, by omega⟩
    · exact ⟨q2, o2, by omega, by omega⟩
  rcases S with ⟨_, rfl, s⟩ | ⟨_, _, sl, rfl, o⟩
  · simp [ptr]
    refine got_call (R := fun v h' => ∃ q2, Own h' v q2 (iL (filt (bit ws) n)) ∧ GrowL h h' ∧ h.dyn.length ≤ q2 ∧ q2 < h'.dyn.length) ?_ ?_
    · refine gives_by t_sel_Dense_List (by simp [c_sel_Dense_List]) fun Q hQ => ?_
      have g1 := Grow.new h [ptr p] 0
      have r := (RowAt.new h [ptr p] 0).get (i := 0) rfl
      simp only [ptr] at r
      simp [c_sel_Dense_List, ptr, r]
      refine got_call (All_spec (by simp)) ?_
      rintro _ _ ⟨rfl, rfl⟩
      have g2 := Grow.new (hnew h [ptr p] 0) [ptr p] 0
      simp [-hnew_len]
      refine got_call (collect_spec (L := L) ((g1.trans g2).ro.trans hro) ((RowAt.new (hnew h [ptr p] 0) [ptr p] 0).get (i := 0) rfl) ((s.grow g1).grow g2) cn) ?_
      rintro v h' ⟨q', o, g, hq, hl⟩
      have gl := g.len'
      simp at hq gl
      simp
      obtain ⟨q2, o2, k1, k2⟩ := fin o (by omega) (by omega) hl
      exact hQ _ _ ⟨q2, o2, (g1.trans g2).l.trans g, k1, k2⟩
    · rintro u h' ⟨q2, o, g, hq, hl⟩
      exact i u q2 h' o g hq hl
  · have hg := o.good
    simp
    refine got_call (R := fun v h' => ∃ q2, Own h' v q2 (iL (filt (bit ws) n)) ∧ GrowL h h' ∧ h.dyn.length ≤ q2 ∧ q2 < h'.dyn.length) ?_ ?_
    · refine gives_by t_sel_Sparse_List (by simp [c_sel_Sparse_List]) fun Q hQ => ?_
      have g1 := Grow.new h [.int .i64 n, sl] 0
      have r := (RowAt.new h [.int .i64 n, sl] 0).get (i := 1) rfl
      simp [c_sel_Sparse_List, sparseC, hg, r]
      refine got_call (clone_own (o.grow g1) (iL_good _) (by rw [iL_len]; omega)) ?_
      rintro v h' ⟨q', o, g, hq, hl⟩
      have gl := g.len
      simp at hq gl
      simp
      obtain ⟨q2, o2, k1, k2⟩ := fin o (by omega) (by omega) hl
      exact hQ _ _ ⟨q2, o2, (g1.trans g).l, k1, k2⟩
    · rintro u h' ⟨q2, o, g, hq, hl⟩
      exact i u q2 h' o g hq hl

theorem iL_all (xs : List Nat) : (iL xs).all goodC = true := iL_good xs

set_option maxHeartbeats 16000000 in
theorem memory_law (L : Nat → Nat → Option Value) {v0 v1 : Value} {ss bs : List Bool} (r0 : ArgS (heap0 (roBlk tabG L)) v0 (ss.map .bool)) (r1 : ArgS (heap0 (roBlk tabG L)) v1 (bs.map .bool)) :
    Gives P T (.fn F_colonnadelaw04_SelMemory) [v0, v1] (heap0 (roBlk tabG L)) fun v _ => v = .bool true := by
  refine gives_by t_colonnadelaw04_SelMemory (by simp [c_colonnadelaw04_SelMemory]) fun Q hQ => ?_
  obtain ⟨b0, c0, e0, _⟩ := r0.reads.shape
  obtain ⟨b1, c1, e1, _⟩ := r1.reads.shape
  simp only [List.length_map] at e0 e1
  obtain ⟨n, hm0⟩ : ∃ n, min (min ss.length bs.length) 300 = n := ⟨_, rfl⟩
  have hm : min (min (ss.length : Int) bs.length) 300 = n := by omega
  have hm' : min (ss.length : Int) (min (bs.length : Int) 300) = n := by omega
  have hn : n ≤ 300 := by omega
  obtain ⟨x0, k0, z0⟩ := r0.cut (n := n) (by rw [List.length_map]; omega)
  obtain ⟨x1, k1, z1⟩ := r1.cut (n := n) (by rw [List.length_map]; omega)
  obtain ⟨xs, hxs⟩ : ∃ xs, ss.take n = xs := ⟨_, rfl⟩
  obtain ⟨ys, hys⟩ : ∃ ys, bs.take n = ys := ⟨_, rfl⟩
  have nx : xs.length = n := by rw [← hxs, List.length_take]; omega
  have ny : ys.length = n := by rw [← hys, List.length_take]; omega
  rw [← List.map_take, hxs] at x0
  rw [← List.map_take, hys] at x1
  obtain ⟨A, hA⟩ : ∃ A, cutA v0 n = A := ⟨_, rfl⟩
  obtain ⟨B, hB⟩ : ∃ B, cutA v1 n = B := ⟨_, rfl⟩
  rw [hA] at x0 k0 z0
  rw [hB] at x1 k1 z1
  have l0 : ∀ h, lenR h v0 = some (.int .i64 ss.length, h) := fun h => by rw [e0]; rfl
  have l1 : ∀ h, lenR h v1 = some (.int .i64 bs.length, h) := fun h => by rw [e1]; rfl
  simp [c_colonnadelaw04_SelMemory]
  refine got_call (awakeN_spec L) ?_
  rintro _ h0 ⟨rfl, ro0, len0⟩
  simp [l0, l1, mm_min3, hm, hm', k0]
  refine got_call (Of_spec (x0.ro ro0).reads (by omega)) ?_
  rintro _ h1 ⟨p, qs, ws, rfl, s1, cs, hs, g1, hp, hqs⟩
  rw [nx] at s1 cs
  have ro1 := g1.ro.trans ro0
  have pl := s1.pl
  obtain ⟨q, s, ql, hq⟩ := s1.norm'
  have lw := canon_len' cs
  have len1 := g1.len
  have hfl := filt_le (bit ws) n
  clear s1 g1
  simp
  refine got_call (Words_own s lw) ?_
  rintro vw h2 ⟨qw, W, g2, hqw, hvw⟩
  have ro2 := g2.ro.trans ro1
  have len2 := g2.len
  replace s := s.grow g2
  clear g2
  have Wg := W.good
  simp [k1]
  refine got_call (Of_spec (x1.ro ro2).reads (by omega)) ?_
  rintro _ h3 ⟨po', qo', wo', rfl, so', co', -, g3, -, -⟩
  rw [ny] at so' co'
  have ro3 := g3.ro.trans ro2
  have len3 := g3.len
  replace s := s.grow g3
  replace W := W.grow g3
  clear g3
  simp
  refine got_call (Make_s ro3 so' co') ?_
  rintro vo h4 m4
  have g4 : GrowL h3 h4 := by obtain ⟨_, _, _, _, _, _, g, _⟩ := m4; exact g
  have len4 := g4.len'
  obtain ⟨wo, poo, qoo, ⟨So, -, -, -, -⟩, co, -⟩ := m4.n (by omega)
  have ro4 := g4.ro'.trans ro3
  replace s := s.growL g4
  replace W := W.growL g4
  clear g4 m4
  simp
  refine got_call (Make_s ro4 s cs) ?_
  rintro vx h5 m5
  have g5 : GrowL h4 h5 := by obtain ⟨_, _, _, _, _, _, g, _⟩ := m5; exact g
  have len5 := g5.len'
  obtain ⟨f, hf⟩ : ∃ f, fewB ws n = f := ⟨_, rfl⟩
  obtain ⟨px, qx, Sx, xp, xq, xd⟩ := m5.pos (by omega) cs (fun i hi => rfl) hf
  have ro5 := g5.ro'.trans ro4
  replace s := s.growL g5
  replace W := W.growL g5
  replace So := So.growL g5
  clear g5 m5
  have Gx := Sx.good
  have cw : vw ≠ nilS → qw < h2.dyn.length := hvw
  simp [no_nil Sx, no_nil So]
  refine got_list ro5 Sx cs fun u qu h6 ou g6 _ _ => ?_
  have ro6 := g6.ro'.trans ro5
  have len6 := g6.len'
  replace s := s.growL g6
  replace W := W.growL g6
  replace So := So.growL g6
  replace Sx := Sx.growL g6
  clear g6
  obtain ⟨va, h7, qa, ea, oa, g7, hqa⟩ := app_nil (bytes := 8) (z := .int .i64 0) ou.reads (iL_all _) (by rw [iL_len]; omega) (by rw [iL_len]; omega)
  have ga := oa.good
  have ca : va ≠ nilS → qa < h7.dyn.length := fun hv => oa.lt' hv
  have ro7 := g7.ro.trans ro6
  have len7 := g7.len
  have K7 : MK h7 n ws f p q vw qw va qa [(vx, px, qx)] := ⟨s.grow g7, W.grow g7, oa, fun d hd => by rw [List.mem_singleton] at hd; subst hd; exact Sx.growL g7.l⟩
  replace So := So.growL g7.l
  replace Sx := Sx.growL g7.l
  clear g7 s W ou oa
  simp [ea]
  refine got_listN ro7 Sx cs fun v1L q1L h8 o1L g8 hq1L hv1L => ?_
  have G1L := o1L.good
  have K8 := K7.growL g8
  replace Sx := Sx.growL g8
  replace So := So.growL g8
  have ro8 : h8.ro = roBlk tabG L := g8.ro'.trans ro7
  have len8 := g8.len'
  clear g8 K7 ro7
  simp []
  refine got_listN ro8 Sx cs fun v2L q2L h9 o2L g9 hq2L hv2L => ?_
  have G2L := o2L.good
  have K9 := K8.growL g9
  replace Sx := Sx.growL g9
  replace So := So.growL g9
  replace o1L := o1L.growL g9
  have ro9 : h9.ro = roBlk tabG L := g9.ro'.trans ro8
  have len9 := g9.len'
  clear g9 K8 ro8
  simp []
  refine got_bits Sx cs fun pb1 qb10 h10 sb10 g10 hpb1 hqb1 => ?_
  have plb1 := sb10.pl
  obtain ⟨qb1, sb1, qlb1, ndb1⟩ := sb10.norm'
  have lob1 : h9.dyn.length ≤ pb1 ∧ h9.dyn.length ≤ qb1 := by omega
  clear sb10 hpb1 hqb1 ndb1
  have K10 := K9.growL g10.l
  replace Sx := Sx.growL g10.l
  replace So := So.growL g10.l
  replace o1L := o1L.growL g10.l
  replace o2L := o2L.growL g10.l
  have ro10 : h10.ro = roBlk tabG L := g10.ro.trans ro9
  have len10 := g10.len
  clear g10 K9 ro9
  simp
  refine got_bits Sx cs fun pb2 qb20 h11 sb20 g11 hpb2 hqb2 => ?_
  have plb2 := sb20.pl
  obtain ⟨qb2, sb2, qlb2, ndb2⟩ := sb20.norm'
  have lob2 : h10.dyn.length ≤ pb2 ∧ h10.dyn.length ≤ qb2 := by omega
  clear sb20 hpb2 hqb2 ndb2
  have K11 := K10.growL g11.l
  replace Sx := Sx.growL g11.l
  replace So := So.growL g11.l
  replace o1L := o1L.growL g11.l
  replace o2L := o2L.growL g11.l
  replace sb1 := sb1.growL g11.l
  have ro11 : h11.ro = roBlk tabG L := g11.ro.trans ro10
  have len11 := g11.len
  clear g11 K10 ro10
  simp
  refine got_call (Meet0 ro11 Sx cs) ?_
  rintro _ h12 ⟨vm1, rfl, m12⟩
  have g12 : GrowL h11 h12 := by obtain ⟨_, _, _, _, _, _, g, _⟩ := m12; exact g
  have lz12 := g12.len'
  obtain ⟨pm1, qm1, Sm1, m1p, m1q, m1d⟩ := m12.pos (ws := ws) (by omega) cs (fun i hi => rfl) hf
  clear lz12
  have K12 := K11.growL g12
  replace Sx := Sx.growL g12
  replace So := So.growL g12
  replace o1L := o1L.growL g12
  replace o2L := o2L.growL g12
  replace sb1 := sb1.growL g12
  replace sb2 := sb2.growL g12
  have ro12 : h12.ro = roBlk tabG L := g12.ro'.trans ro11
  have len12 := g12.len'
  clear g12 K11 ro11
  clear m12
  replace K12 := K12.add Sm1
  have Gm1 := Sm1.good
  simp [Gx]
  refine got_call (Join1 ro12 Sx cs Sx cs) ?_
  rintro _ h13 ⟨vm2, rfl, m13⟩
  have g13 : GrowL h12 h13 := by obtain ⟨_, _, _, _, _, _, g, _⟩ := m13; exact g
  have lz13 := g13.len'
  obtain ⟨pm2, qm2, Sm2, m2p, m2q, m2d⟩ := m13.pos (ws := ws) (by omega) cs (fun i hi => by simp) hf
  clear lz13
  have K13 := K12.growL g13
  replace Sx := Sx.growL g13
  replace So := So.growL g13
  replace o1L := o1L.growL g13
  replace o2L := o2L.growL g13
  replace sb1 := sb1.growL g13
  replace sb2 := sb2.growL g13
  replace Sm1 := Sm1.growL g13
  have ro13 : h13.ro = roBlk tabG L := g13.ro'.trans ro12
  have len13 := g13.len'
  clear g13 K12 ro12
  clear m13
  replace K13 := K13.add Sm2
  have Gm2 := Sm2.good
  simp []
  refine got_call (sameI_spec o1L.reads K13.was.reads (by omega)) ?_
  rintro _ hz ⟨rfl, ez⟩
  rw [ez]
  clear ez hz
  simp []
  refine got_call (sameI_spec o2L.reads K13.was.reads (by omega)) ?_
  rintro _ hz ⟨rfl, ez⟩
  rw [ez]
  clear ez hz
  simp []
  refine got_call (Words_own sb1 lw) ?_
  rintro vz h14 ⟨qz, oz, g14, -, -⟩
  have K14 := K13.growL g14.l
  replace Sx := Sx.growL g14.l
  replace So := So.growL g14.l
  replace o1L := o1L.growL g14.l
  replace o2L := o2L.growL g14.l
  replace sb1 := sb1.growL g14.l
  replace sb2 := sb2.growL g14.l
  replace Sm1 := Sm1.growL g14.l
  replace Sm2 := Sm2.growL g14.l
  have ro14 : h14.ro = roBlk tabG L := g14.ro.trans ro13
  have len14 := g14.len
  clear g14 K13 ro13
  simp
  refine got_call (sameW_spec oz.reads K14.words.reads (by omega)) ?_
  rintro _ hz ⟨rfl, ez⟩
  rw [ez]
  clear ez hz
  simp []
  clear oz
  refine got_call (Words_own sb2 lw) ?_
  rintro vz h15 ⟨qz, oz, g15, -, -⟩
  have K15 := K14.growL g15.l
  replace Sx := Sx.growL g15.l
  replace So := So.growL g15.l
  replace o1L := o1L.growL g15.l
  replace o2L := o2L.growL g15.l
  replace sb1 := sb1.growL g15.l
  replace sb2 := sb2.growL g15.l
  replace Sm1 := Sm1.growL g15.l
  replace Sm2 := Sm2.growL g15.l
  have ro15 : h15.ro = roBlk tabG L := g15.ro.trans ro14
  have len15 := g15.len
  clear g15 K14 ro14
  simp
  refine got_call (sameW_spec oz.reads K15.words.reads (by omega)) ?_
  rintro _ hz ⟨rfl, ez⟩
  rw [ez]
  clear ez hz
  simp []
  clear oz
  refine got_listN ro15 Sm1 cs fun v3L q3L h16 o3L g16 hq3L hv3L => ?_
  have G3L := o3L.good
  have K16 := K15.growL g16
  replace Sx := Sx.growL g16
  replace So := So.growL g16
  replace o1L := o1L.growL g16
  replace o2L := o2L.growL g16
  replace sb1 := sb1.growL g16
  replace sb2 := sb2.growL g16
  replace Sm1 := Sm1.growL g16
  replace Sm2 := Sm2.growL g16
  have ro16 : h16.ro = roBlk tabG L := g16.ro'.trans ro15
  have len16 := g16.len'
  clear g16 K15 ro15
  simp []
  refine got_listN ro16 So co fun v4L q4L h17 o4L g17 hq4L hv4L => ?_
  have G4L := o4L.good
  have K17 := K16.growL g17
  replace Sx := Sx.growL g17
  replace So := So.growL g17
  replace o1L := o1L.growL g17
  replace o2L := o2L.growL g17
  replace sb1 := sb1.growL g17
  replace sb2 := sb2.growL g17
  replace Sm1 := Sm1.growL g17
  replace Sm2 := Sm2.growL g17
  replace o3L := o3L.growL g17
  have ro17 : h17.ro = roBlk tabG L := g17.ro'.trans ro16
  have len17 := g17.len'
  clear g17 K16 ro16
  simp []
  refine got_listN ro17 Sm2 cs fun v5L q5L h18 o5L g18 hq5L hv5L => ?_
  have G5L := o5L.good
  have K18 := K17.growL g18
  replace Sx := Sx.growL g18
  replace So := So.growL g18
  replace o1L := o1L.growL g18
  replace o2L := o2L.growL g18
  replace sb1 := sb1.growL g18
  replace sb2 := sb2.growL g18
  replace Sm1 := Sm1.growL g18
  replace Sm2 := Sm2.growL g18
  replace o3L := o3L.growL g18
  replace o4L := o4L.growL g18
  have ro18 : h18.ro = roBlk tabG L := g18.ro'.trans ro17
  have len18 := g18.len'
  clear g18 K17 ro17
  simp [G1L, G2L, G3L, G4L, G5L]
  have hflo := filt_le (bit wo) n
  obtain ⟨h19, hh19⟩ : ∃ H, H = hnew h18 [v1L, v2L, v3L, v4L, v5L] 1 := ⟨_, rfl⟩
  have g19 : Grow h18 h19 := by rw [hh19]; exact Grow.new _ _ _
  have row19 : RowAt h19 h18.dyn.length 0 1 [v1L, v2L, v3L, v4L, v5L] := by rw [hh19]; exact RowAt.new _ _ _
  have rl19 : h19.dyn.length = h18.dyn.length + 1 := by rw [hh19]; simp
  obtain ⟨R19, hR19⟩ : ∃ R, h18.dyn.length = R := ⟨_, rfl⟩
  rw [hR19] at row19 rl19
  have K19 := K18.growL g19.l
  replace Sx := Sx.growL g19.l
  replace So := So.growL g19.l
  replace o1L := o1L.growL g19.l
  replace o2L := o2L.growL g19.l
  replace sb1 := sb1.growL g19.l
  replace sb2 := sb2.growL g19.l
  replace Sm1 := Sm1.growL g19.l
  replace Sm2 := Sm2.growL g19.l
  replace o3L := o3L.growL g19.l
  replace o4L := o4L.growL g19.l
  replace o5L := o5L.growL g19.l
  have ro19 : h19.ro = roBlk tabG L := g19.ro.trans ro18
  have len19 := g19.len
  clear g19 K18 ro18
  have Ls := lists_of (h := h19) (qv := R19) (l := [(v1L, q1L, iL (filt (bit ws) n)), (v2L, q2L, iL (filt (bit ws) n)), (v3L, q3L, iL (filt (bit ws) n)), (v4L, q4L, iL (filt (bit wo) n)), (v5L, q5L, iL (filt (bit ws) n))])
    (by
      simp only [List.mem_cons, List.not_mem_nil, or_false]
      rintro t (rfl | rfl | rfl | rfl | rfl)
      · exact ⟨o1L, by simp only; omega, by simp only; omega, by simp only [iL_len]; omega⟩
      · exact ⟨o2L, by simp only; omega, by simp only; omega, by simp only [iL_len]; omega⟩
      · exact ⟨o3L, by simp only; omega, by simp only; omega, by simp only [iL_len]; omega⟩
      · exact ⟨o4L, by simp only; omega, by simp only; omega, by simp only [iL_len]; omega⟩
      · exact ⟨o5L, by simp only; omega, by simp only; omega, by simp only [iL_len]; omega⟩)
    (by simp; omega)
  have hap := colonnadelaw04_apart_spec Ls (by rw [range_map_getD]; exact row19) (by simp) (by simp)
  simp only [List.length_cons, List.length_nil, Nat.zero_add, Nat.reduceAdd] at hap
  simp only [hR19, ← hh19]
  refine got_call hap ?_
  rintro _ h20 ⟨rfl, kk⟩
  have k20 : Chg (fun b => (b = q1L ∨ b = q2L ∨ b = q3L ∨ b = q4L ∨ b = q5L) ∨ h19.dyn.length ≤ b) h19 h20 := kk.mono fun b _ e => by
    rcases e with ⟨j, hj, rfl⟩ | e
    · left
      have : j = 0 ∨ j = 1 ∨ j = 2 ∨ j = 3 ∨ j = 4 := by omega
      rcases this with rfl | rfl | rfl | rfl | rfl <;> simp
    · exact .inr e
  clear kk hap Ls
  have K20 := K19.chg k20 (by omega) (by omega) (fun hv => by have := cw hv; omega) (fun hv => by have := ca hv; omega) (by
    simp only [List.cons_append, List.nil_append, List.mem_cons, List.not_mem_nil, or_false, forall_eq_or_imp, forall_eq]
    exact ⟨⟨(by rcases xp.at_ with hh | hh <;> omega), (by rcases xq.at_ with hh | hh <;> omega)⟩, ⟨(by rcases m1p.at_ with hh | hh <;> omega), (by rcases m1q.at_ with hh | hh <;> omega)⟩, ⟨(by rcases m2p.at_ with hh | hh <;> omega), (by rcases m2q.at_ with hh | hh <;> omega)⟩⟩)
  have ro20 : h20.ro = roBlk tabG L := k20.ro.trans ro19
  have len20 := k20.len
  replace Sx := Sx.chgX k20 (by rcases xp.at_ with hh | hh <;> omega) (by rcases xq.at_ with hh | hh <;> omega)
  replace Sm1 := Sm1.chgX k20 (by rcases m1p.at_ with hh | hh <;> omega) (by rcases m1q.at_ with hh | hh <;> omega)
  replace Sm2 := Sm2.chgX k20 (by rcases m2p.at_ with hh | hh <;> omega) (by rcases m2q.at_ with hh | hh <;> omega)
  replace sb1 := sb1.chg k20 (by omega) (by omega)
  replace sb2 := sb2.chg k20 (by omega) (by omega)
  clear K19 ro19
  clear k20
  simp
  refine got_list ro20 Sx cs fun vt qt0 h21 ot0 g21 hqt hvt => ?_
  clear hqt hvt
  have K21 := K20.growL g21
  replace Sx := Sx.growL g21
  replace Sm1 := Sm1.growL g21
  replace Sm2 := Sm2.growL g21
  replace sb1 := sb1.growL g21
  replace sb2 := sb2.growL g21
  have ro21 : h21.ro = roBlk tabG L := g21.ro'.trans ro20
  have len21 := g21.len'
  clear g21 K20 ro20
  simp []
  refine got_call (sameI_spec ot0.reads K21.was.reads (by omega)) ?_
  rintro _ hz ⟨rfl, ez⟩
  rw [ez]
  clear ez hz
  simp []
  clear ot0
  refine got_list ro21 Sm1 cs fun vt qt0 h22 ot0 g22 hqt hvt => ?_
  clear hqt hvt
  have K22 := K21.growL g22
  replace Sx := Sx.growL g22
  replace Sm1 := Sm1.growL g22
  replace Sm2 := Sm2.growL g22
  replace sb1 := sb1.growL g22
  replace sb2 := sb2.growL g22
  have ro22 : h22.ro = roBlk tabG L := g22.ro'.trans ro21
  have len22 := g22.len'
  clear g22 K21 ro21
  simp []
  refine got_call (sameI_spec ot0.reads K22.was.reads (by omega)) ?_
  rintro _ hz ⟨rfl, ez⟩
  rw [ez]
  clear ez hz
  simp []
  clear ot0
  refine go_loopK (fun kk ks hh => ∃ (i : Nat) (wi : List (BitVec 64)), kk = n - i ∧ i ≤ n ∧ ks = [(0, v0), (1, v1), (5, .int .i64 n), (6, ptr p), (7, vw), (9, vx), (10, va), (13, ptr pb1), (14, ptr pb2), (15, vm1), (17, vm2), (19, .int .i64 i)] ∧ SetAt hh pb1 qb1 n wi ∧ Canon n wi ∧ Chg (· = qb1) h22 hh) (n := n)
    ⟨0, ws, rfl, by omega, rfl, sb1, cs, Chg.refl _⟩ (by simp [ptr]) ?_
  rintro I hI kk ks e h23 ⟨i, wi, rfl, hi, rfl, si, ci, k23⟩
  simp
  refine branch_dec (fun hlt => ?_) (fun hge => ?_)
  · have hin : i < n := by omega
    have e4 : IntKind.i64.wrap ((i : Int) + 1) = ((i + 1 : Nat) : Int) := by rw [wrap_i64 (by omega) (by omega)]; omega
    simp
    refine got_call (get_spec si ci _) ?_
    rintro _ _ ⟨rfl, rfl⟩
    rename_i h23
    simp
    refine got_call (Put_spec si ci hin _) ?_
    rintro _ hn1 ⟨rfl, w2, s2, c2, -, k2⟩
    simp [e4]
    exact ⟨n - (i + 1), by omega, hI _ _ _ _ ⟨i + 1, w2, rfl, by omega, rfl, s2, c2, k23.trans k2⟩ (by simp [ptr])⟩
  have hin : n = i := by omega
  subst hin
  clear hge hI
  simp
  clear sb1
  have K23 := K22.chg k23 (by omega) (by omega) (fun hv => by have := cw hv; omega) (fun hv => by have := ca hv; omega) (by
    simp only [List.cons_append, List.nil_append, List.mem_cons, List.not_mem_nil, or_false, forall_eq_or_imp, forall_eq]
    exact ⟨⟨(by rcases xp.at_ with hh | hh <;> omega), (by rcases xq.at_ with hh | hh <;> omega)⟩, ⟨(by rcases m1p.at_ with hh | hh <;> omega), (by rcases m1q.at_ with hh | hh <;> omega)⟩, ⟨(by rcases m2p.at_ with hh | hh <;> omega), (by rcases m2q.at_ with hh | hh <;> omega)⟩⟩)
  have ro23 : h23.ro = roBlk tabG L := k23.ro.trans ro22
  have len23 := k23.len
  replace Sx := Sx.chgX k23 (by rcases xp.at_ with hh | hh <;> omega) (by rcases xq.at_ with hh | hh <;> omega)
  replace Sm1 := Sm1.chgX k23 (by rcases m1p.at_ with hh | hh <;> omega) (by rcases m1q.at_ with hh | hh <;> omega)
  replace Sm2 := Sm2.chgX k23 (by rcases m2p.at_ with hh | hh <;> omega) (by rcases m2q.at_ with hh | hh <;> omega)
  replace sb2 := sb2.chg k23 (by omega) (by omega)
  clear K22 ro22
  clear k23
  refine got_call (Words_own sb2 lw) ?_
  rintro vz h24 ⟨qz, oz, g24, -, -⟩
  have K24 := K23.growL g24.l
  replace Sx := Sx.growL g24.l
  replace Sm1 := Sm1.growL g24.l
  replace Sm2 := Sm2.growL g24.l
  replace sb2 := sb2.growL g24.l
  have ro24 : h24.ro = roBlk tabG L := g24.ro.trans ro23
  have len24 := g24.len
  clear g24 K23 ro23
  simp
  refine got_call (sameW_spec oz.reads K24.words.reads (by omega)) ?_
  rintro _ hz ⟨rfl, ez⟩
  rw [ez]
  clear ez hz
  simp []
  clear oz
  clear sb2
  refine got_call (Words_own K24.set lw) ?_
  rintro vz h25 ⟨qz, oz, g25, -, -⟩
  have K25 := K24.growL g25.l
  replace Sx := Sx.growL g25.l
  replace Sm1 := Sm1.growL g25.l
  replace Sm2 := Sm2.growL g25.l
  have ro25 : h25.ro = roBlk tabG L := g25.ro.trans ro24
  have len25 := g25.len
  clear g25 K24 ro24
  simp
  refine got_call (sameW_spec oz.reads K25.words.reads (by omega)) ?_
  rintro _ hz ⟨rfl, ez⟩
  rw [ez]
  clear ez hz
  simp []
  clear oz
  refine got_list ro25 Sx cs fun vt qt0 h26 ot0 g26 hqt hvt => ?_
  clear hqt hvt
  have K26 := K25.growL g26
  replace Sx := Sx.growL g26
  replace Sm1 := Sm1.growL g26
  replace Sm2 := Sm2.growL g26
  have ro26 : h26.ro = roBlk tabG L := g26.ro'.trans ro25
  have len26 := g26.len'
  clear g26 K25 ro25
  simp []
  refine got_call (sameI_spec ot0.reads K26.was.reads (by omega)) ?_
  rintro _ hz ⟨rfl, ez⟩
  rw [ez]
  clear ez hz
  simp []
  clear ot0
  refine got_call (Cut_s ro26 Sx cs 0 n (a := 0) (t := n) (by omega) (by omega)) ?_
  rintro vc h27 m27
  have g27 : GrowL h26 h27 := by obtain ⟨_, _, _, _, _, _, g, _⟩ := m27; exact g
  have lz27 := g27.len'
  obtain ⟨pc, qc, Sc, cp, cq, cd⟩ := m27.pos (ws := ws) (by omega) cs (fun i hi => by simp) hf
  clear lz27
  have K27 := K26.growL g27
  replace Sx := Sx.growL g27
  replace Sm1 := Sm1.growL g27
  replace Sm2 := Sm2.growL g27
  have ro27 : h27.ro = roBlk tabG L := g27.ro'.trans ro26
  have len27 := g27.len'
  clear g27 K26 ro26
  clear m27
  replace K27 := K27.add Sc
  have Gc := Sc.good
  simp []
  skip
  refine got_call (Not_s ro27 Sx cs) ?_
  rintro vn h28 ⟨wn, pn, qn, Sn, cn, bn, g28, -, -⟩
  have K28 := K27.growL g28
  replace Sx := Sx.growL g28
  replace Sm1 := Sm1.growL g28
  replace Sm2 := Sm2.growL g28
  replace Sc := Sc.growL g28
  have ro28 : h28.ro = roBlk tabG L := g28.ro'.trans ro27
  have len28 := g28.len'
  clear g28 K27 ro27
  simp
  refine got_call (Not_s ro28 Sn cn) ?_
  rintro vnn h29 m29
  have g29 : GrowL h28 h29 := by obtain ⟨_, _, _, _, _, _, g, _⟩ := m29; exact g
  have lz29 := g29.len'
  obtain ⟨pnn, qnn, Snn, nnp, nnq, nnd⟩ := m29.pos (ws := ws) (by omega) cs (fun i hi => by simp [bn i hi]) hf
  clear lz29
  have K29 := K28.growL g29
  replace Sx := Sx.growL g29
  replace Sm1 := Sm1.growL g29
  replace Sm2 := Sm2.growL g29
  replace Sc := Sc.growL g29
  replace Sn := Sn.growL g29
  have ro29 : h29.ro = roBlk tabG L := g29.ro'.trans ro28
  have len29 := g29.len'
  clear g29 K28 ro28
  clear m29
  replace K29 := K29.add Snn
  have Gnn := Snn.good
  simp []
  clear Sn
  refine got_call (Make_s ro29 K29.set cs) ?_
  rintro vk h30 m30
  have g30 : GrowL h29 h30 := by obtain ⟨_, _, _, _, _, _, g, _⟩ := m30; exact g
  have lz30 := g30.len'
  obtain ⟨pk, qk, Sk, kp, kq, kd⟩ := m30.pos (ws := ws) (by omega) cs (fun i hi => rfl) hf
  clear lz30
  have K30 := K29.growL g30
  replace Sx := Sx.growL g30
  replace Sm1 := Sm1.growL g30
  replace Sm2 := Sm2.growL g30
  replace Sc := Sc.growL g30
  replace Snn := Snn.growL g30
  have ro30 : h30.ro = roBlk tabG L := g30.ro'.trans ro29
  have len30 := g30.len'
  clear g30 K29 ro29
  clear m30
  replace K30 := K30.add Sk
  have Gk := Sk.good
  simp [Gm1, Gm2, Gc, Gnn, Gx, Gk]
  obtain ⟨h31, hh31⟩ : ∃ H, H = hnew h30 [vx, vm1, vm2, vc, vnn, vk] 1 := ⟨_, rfl⟩
  have g31 : Grow h30 h31 := by rw [hh31]; exact Grow.new _ _ _
  obtain ⟨R, hR⟩ : ∃ R, h30.dyn.length = R := ⟨_, rfl⟩
  have row : RowAt h31 R 0 1 [vx, vm1, vm2, vc, vnn, vk] := by rw [hh31, ← hR]; exact RowAt.new _ _ _
  have rl : h31.dyn.length = R + 1 := by rw [hh31]; simp [hR]
  have K31 := K30.growL g31.l
  have ro31 : h31.ro = roBlk tabG L := g31.ro.trans ro30
  have len31 := g31.len
  clear g31 K30 ro30
  simp only [hR, ← hh31]
  obtain ⟨D, hD⟩ : ∃ D : List (Value × Nat × Nat), D = [(vx, px, qx), (vm1, pm1, qm1), (vm2, pm2, qm2), (vc, pc, qc), (vnn, pnn, qnn), (vk, pk, qk)] := ⟨_, rfl⟩
  have KD : MK h31 n ws f p q vw qw va qa D := by
    rw [hD]
    simpa only [List.cons_append, List.nil_append] using K31
  have rowD : RowAt h31 R 0 1 (D.map (·.1)) := by rw [hD]; exact row
  have Dlen : D.length = 6 := by rw [hD]; rfl
  have Dpair : f = false → D.Pairwise (fun a b => a.2.2 ≠ b.2.1 ∧ a.2.2 ≠ b.2.2) := fun hf0 => by
    have x1 := xd hf0
    have x2 := m1d hf0
    have x3 := m2d hf0
    have x4 := cd hf0
    have x5 := nnd hf0
    have x6 := kd hf0
    rw [hD]
    simp only [List.pairwise_cons, List.mem_cons, List.not_mem_nil, or_false, forall_eq_or_imp, forall_eq, List.Pairwise.nil, and_true, false_implies, implies_true]
    omega
  have Dout : f = false → ∀ d ∈ D, d.2.2 ≠ p ∧ d.2.2 ≠ q ∧ (vw ≠ nilS → d.2.2 ≠ qw) ∧ (va ≠ nilS → d.2.2 ≠ qa) ∧ d.2.2 ≠ R := fun hf0 => by
    have x1 := xd hf0
    have x2 := m1d hf0
    have x3 := m2d hf0
    have x4 := cd hf0
    have x5 := nnd hf0
    have x6 := kd hf0
    rw [hD]
    simp only [List.mem_cons, List.not_mem_nil, or_false, forall_eq_or_imp, forall_eq]
    refine ⟨⟨by omega, by omega, fun hv => by have := cw hv; omega, fun hv => by have := ca hv; omega, by omega⟩, ⟨by omega, by omega, fun hv => by have := cw hv; omega, fun hv => by have := ca hv; omega, by omega⟩, ⟨by omega, by omega, fun hv => by have := cw hv; omega, fun hv => by have := ca hv; omega, by omega⟩, ⟨by omega, by omega, fun hv => by have := cw hv; omega, fun hv => by have := ca hv; omega, by omega⟩, ⟨by omega, by omega, fun hv => by have := cw hv; omega, fun hv => by have := ca hv; omega, by omega⟩, ⟨by omega, by omega, fun hv => by have := cw hv; omega, fun hv => by have := ca hv; omega, by omega⟩⟩
  have Rl : R < h31.dyn.length := by omega
  have cwj : vw ≠ nilS → qw < h31.dyn.length := fun hv => by have := cw hv; omega
  have caj : va ≠ nilS → qa < h31.dyn.length := fun hv => by have := ca hv; omega
  have pqj : p < h31.dyn.length ∧ q < h31.dyn.length := by omega
  have hDr : f = false → ∀ d ∈ D, d.2.1 < h31.dyn.length ∧ d.2.2 < h31.dyn.length := fun hf0 => by
    have x1 := xd hf0
    have x2 := m1d hf0
    have x3 := m2d hf0
    have x4 := cd hf0
    have x5 := nnd hf0
    have x6 := kd hf0
    rw [hD]
    simp only [List.mem_cons, List.not_mem_nil, or_false, forall_eq_or_imp, forall_eq]
    omega
  clear hD K31 row
  clear len1 len2 len3 len4 len5 len6 len7
  obtain ⟨N0, hN0⟩ : ∃ N, h31.dyn.length = N := ⟨_, rfl⟩
  simp only [hN0] at Rl cwj caj pqj hDr
  refine go_loopK (fun kk ks hh => ∃ (i : Nat), kk = 6 - i ∧ i ≤ 6 ∧ ks = [(0, v0), (1, v1), (5, .int .i64 n), (6, ptr p), (7, vw), (10, va), (20, .slice (some ⟨R, 0, some 0⟩) 6 6), (21, .int .i64 i)] ∧ MK hh n ws f p q vw qw va qa (D.drop i) ∧ RowAt hh R 0 1 (D.map (·.1)) ∧ hh.ro = roBlk tabG L ∧ N0 ≤ hh.dyn.length) (n := 6)
    ⟨0, rfl, by omega, rfl, KD, rowD, ro31, by omega⟩ (by simp [ptr]) ?_
  rintro I hI kk ks e hh ⟨i, rfl, hi, rfl, Ki, rowi, roi, leni⟩
  simp
  refine branch_dec (fun hlt => ?_) (fun hge => ?_)
  · have hi6 : i < 6 := by omega
    have e4 : IntKind.i64.wrap ((i : Int) + 1) = ((i + 1 : Nat) : Int) := by rw [wrap_i64 (by omega) (by omega)]; omega
    obtain ⟨⟨vd, pd, qd⟩, hdi⟩ : ∃ d, D[i]? = some d := ⟨_, List.getElem?_eq_getElem (by omega)⟩
    have hdm : (vd, pd, qd) ∈ D := List.mem_of_getElem? hdi
    have ld := rowi.get (i := i) (x := vd) (by rw [List.getElem?_map, hdi]; rfl)
    have hdrop : D.drop i = (vd, pd, qd) :: D.drop (i + 1) := by
      rw [List.drop_eq_getElem_cons (by omega)]
      congr 1
      have := (List.getElem?_eq_some_iff.1 hdi).2
      exact this
    rw [hdrop] at Ki
    have Sd : SelV hh vd n ws f pd qd := Ki.sels _ (List.mem_cons_self)
    have Ki1 : MK hh n ws f p q vw qw va qa (D.drop (i + 1)) := ⟨Ki.set, Ki.words, Ki.was, fun d hd => Ki.sels d (List.mem_cons_of_mem _ hd)⟩
    have hdo : f = false → ∀ d ∈ D.drop (i + 1), qd ≠ d.2.1 ∧ qd ≠ d.2.2 := fun hf0 d hd => by
      have hp := Dpair hf0
      have hp2 := hp.sublist (List.drop_sublist i D)
      rw [hdrop, List.pairwise_cons] at hp2
      exact hp2.1 d hd
    cases f with
    | true =>
      obtain ⟨sl, hsl⟩ : ∃ sl, vd = .iface 80 (.agg #[.int .i64 n, sl]) := by
        rcases Sd with ⟨e, _⟩ | ⟨_, _, sl, e, _⟩
        · cases e
        · exact ⟨sl, e⟩
      subst hsl
      have am : ∀ (cf : CF) (t : List Value) (h : Heap) (x : Operand), evalT t x = .iface 80 (.agg #[.int .i64 n, sl]) → runOp P cf (.asrt x 53 none (.agg #[.pointer none]) true) t h = some (.tuple #[.agg #[.pointer none], .bool false], h) := fun cf t h x hx => asrt_miss hx (by decide)
      obtain ⟨h6, e6, r6, k6, n6⟩ := (RowAt.new hh [.pointer none] 0).put (y := .pointer none) (by simp)
      have g6 : Grow hh h6 := (Grow.new hh [.pointer none] 0).after k6 fun b hb e => by omega
      simp [hi6, ld, am, storeN_one e6]
      have K6 := Ki1.growL g6.l
      have row6 := rowi.grow g6
      have ro6 := g6.ro.trans roi
      have len6 := g6.len
      clear Ki1 Ki rowi roi
      refine go_loopK (fun kk ks hy => ∃ (z : Nat), kk = z ∧ ks = [(0, v0), (1, v1), (5, .int .i64 n), (6, ptr p), (7, vw), (10, va), (20, .slice (some ⟨R, 0, some 0⟩) 6 6), (21, .int .i64 i), (22, .pointer (some ⟨hh.dyn.length, 0, some 0⟩)), (23, .bool false), (24, .int .i64 0)] ∧ hy = h6) (n := 0) ⟨0, rfl, rfl, rfl⟩ (by simp [ptr]) ?_
      rintro I3 hI3 kk3 ks3 e3 h9 ⟨z, rfl, rfl, rfl⟩
      simp [skipV]
      have e5 : IntKind.i64.wrap ((i : Int) + 1) = ((i + 1 : Nat) : Int) := e4
      simp [e4]
      refine go_loopK (fun kk ks hy => ∃ (j : Nat), kk = 6 - j ∧ i + 1 ≤ j ∧ j ≤ 6 ∧ ks = [(0, v0), (1, v1), (5, .int .i64 n), (6, ptr p), (7, vw), (10, va), (20, .slice (some ⟨R, 0, some 0⟩) 6 6), (21, .int .i64 i), (25, .int .i64 j)] ∧ GrowL h9 hy) (n := 6 - (i + 1)) ⟨i + 1, rfl, by omega, by omega, rfl, Chg.refl _⟩ (by simp [ptr]) ?_
      rintro I2 hI2 kk2 ks2 e2 hy ⟨j, rfl, hij, hj, rfl, gy⟩
      simp
      refine branch_dec (fun hlt => ?_) (fun hge => ?_)
      · have hj6 : j < 6 := by omega
        have e5 : IntKind.i64.wrap ((j : Int) + 1) = ((j + 1 : Nat) : Int) := by rw [wrap_i64 (by omega) (by omega)]; omega
        obtain ⟨⟨ve, pe, qe⟩, hej⟩ : ∃ d, D[j]? = some d := ⟨_, List.getElem?_eq_getElem (by omega)⟩
        have lde := (row6.chgL gy id).get (i := j) (x := ve) (by rw [List.getElem?_map, hej]; rfl)
        have hem : (ve, pe, qe) ∈ D.drop (i + 1) := List.mem_of_getElem? (i := j - (i + 1)) (by rw [List.getElem?_drop, show i + 1 + (j - (i + 1)) = j by omega]; exact hej)
        have Ky := K6.growL gy
        have Se := Ky.sels _ hem
        have roy := gy.ro'.trans ro6
        simp [hj6, lde]
        refine got_list roy Se cs fun ul ql hl ol gl _ _ => ?_
        simp
        refine got_call (sameI_spec ol.reads (Ky.growL gl).was.reads (by omega)) ?_
        rintro _ hz ⟨rfl, ez⟩
        rw [ez]
        clear ez hz
        simp [e5]
        exact ⟨6 - (j + 1), by omega, hI2 _ _ _ _ ⟨j + 1, rfl, by omega, by omega, rfl, GrowL.trans gy gl⟩ (by simp [ptr])⟩
      have hj6 : j = 6 := by omega
      subst hj6
      have gyl := gy.len'
      simp [e4]
      exact ⟨6 - (i + 1), by omega, hI _ _ _ _ ⟨i + 1, rfl, by omega, rfl, K6.growL gy, row6.chgL gy id, gy.ro'.trans ro6, by omega⟩ (by simp [ptr])⟩
    | false =>
      obtain ⟨hvd, sd⟩ := dense_of Sd rfl
      subst hvd
      have hDl := hDr rfl _ hdm
      simp only at hDl
      have hdo := hdo rfl
      have hout := Dout rfl _ hdm
      simp only at hout
      obtain ⟨h4, e6, r4, k4, n4⟩ := (RowAt.new hh [.pointer none] 0).put (y := ptr pd) (by simp [ptr])
      have g4 : Grow hh h4 := (Grow.new hh [.pointer none] 0).after k4 fun b hb e => by omega
      simp only [ptr] at e6 r4 ld
      simp [ptr, hi6, ld, storeN_one e6]
      have K4 := Ki1.growL g4.l
      have row4 := rowi.grow g4
      have ro4 := g4.ro.trans roi
      have len4 := g4.len
      have sd4 := sd.grow g4
      obtain ⟨c, hc⟩ : ∃ c, hh.dyn.length = c := ⟨_, rfl⟩
      rw [hc] at r4
      clear Ki1 Ki rowi roi
      simp only [hc]
      have ei : (i : Int).tmod 2 = ((i % 2 : Nat) : Int) := tmod_nat i 2
      refine go_loopK (fun kk ks hy => ∃ (k : Nat) (wk : List (BitVec 64)), kk = n - k ∧ k ≤ n ∧ ks = [(0, v0), (1, v1), (5, .int .i64 n), (6, ptr p), (7, vw), (10, va), (20, .slice (some ⟨R, 0, some 0⟩) 6 6), (21, .int .i64 i), (22, .pointer (some ⟨c, 0, some 0⟩)), (23, .bool true), (24, .int .i64 k)] ∧ SetAt hy pd qd n wk ∧ Canon n wk ∧ Chg (· = qd) h4 hy) (n := n) ⟨0, ws, rfl, by omega, rfl, sd4, cs, Chg.refl _⟩ (by simp [ptr]) ?_
      rintro I3 hI3 kk3 ks3 e3 h6 ⟨k, wk, rfl, hk, rfl, sk, ck, k6⟩
      have r6 := r4.chg k6 (by omega)
      have er := r6.get (i := 0) rfl
      simp [er]
      refine branch_dec (fun hlt => ?_) (fun hge => ?_)
      · have hkn : k < n := by omega
        have e5 : IntKind.i64.wrap ((k : Int) + 1) = ((k + 1 : Nat) : Int) := by rw [wrap_i64 (by omega) (by omega)]; omega
        simp [er, ei]
        refine got_call (Put_spec sk ck hkn _) ?_
        rintro _ h7 ⟨rfl, w7, s7, c7, -, k7⟩
        simp [e5]
        exact ⟨n - (k + 1), by omega, hI3 _ _ _ _ ⟨k + 1, w7, rfl, by omega, rfl, s7, c7, k6.trans k7⟩ (by simp [ptr])⟩
      have hkn : k = n := by omega
      have K6 := K4.chg k6 (by omega) (by omega) (fun hv e => by have := hout.2.2.1 hv; omega) (fun hv e => by have := hout.2.2.2.1 hv; omega) (fun d hd => by have := hdo d hd; exact ⟨by omega, by omega⟩)
      have row6 := row4.chg k6 (by omega)
      have ro6 := k6.ro.trans ro4
      have len6 := k6.len
      have e5 : IntKind.i64.wrap ((i : Int) + 1) = ((i + 1 : Nat) : Int) := e4
      simp [e4]
      refine go_loopK (fun kk ks hy => ∃ (j : Nat), kk = 6 - j ∧ i + 1 ≤ j ∧ j ≤ 6 ∧ ks = [(0, v0), (1, v1), (5, .int .i64 n), (6, ptr p), (7, vw), (10, va), (20, .slice (some ⟨R, 0, some 0⟩) 6 6), (21, .int .i64 i), (25, .int .i64 j)] ∧ GrowL h6 hy) (n := 6 - (i + 1)) ⟨i + 1, rfl, by omega, by omega, rfl, Chg.refl _⟩ (by simp [ptr]) ?_
      rintro I2 hI2 kk2 ks2 e2 hy ⟨j, rfl, hij, hj, rfl, gy⟩
      simp
      refine branch_dec (fun hlt => ?_) (fun hge => ?_)
      · have hj6 : j < 6 := by omega
        have e5 : IntKind.i64.wrap ((j : Int) + 1) = ((j + 1 : Nat) : Int) := by rw [wrap_i64 (by omega) (by omega)]; omega
        obtain ⟨⟨ve, pe, qe⟩, hej⟩ : ∃ d, D[j]? = some d := ⟨_, List.getElem?_eq_getElem (by omega)⟩
        have lde := (row6.chgL gy id).get (i := j) (x := ve) (by rw [List.getElem?_map, hej]; rfl)
        have hem : (ve, pe, qe) ∈ D.drop (i + 1) := List.mem_of_getElem? (i := j - (i + 1)) (by rw [List.getElem?_drop, show i + 1 + (j - (i + 1)) = j by omega]; exact hej)
        have Ky := K6.growL gy
        have Se := Ky.sels _ hem
        have roy := gy.ro'.trans ro6
        simp [hj6, lde]
        refine got_list roy Se cs fun ul ql hl ol gl _ _ => ?_
        simp
        refine got_call (sameI_spec ol.reads (Ky.growL gl).was.reads (by omega)) ?_
        rintro _ hz ⟨rfl, ez⟩
        rw [ez]
        clear ez hz
        simp [e5]
        exact ⟨6 - (j + 1), by omega, hI2 _ _ _ _ ⟨j + 1, rfl, by omega, by omega, rfl, GrowL.trans gy gl⟩ (by simp [ptr])⟩
      have hj6 : j = 6 := by omega
      subst hj6
      have gyl := gy.len'
      simp [e4]
      exact ⟨6 - (i + 1), by omega, hI _ _ _ _ ⟨i + 1, rfl, by omega, rfl, K6.growL gy, row6.chgL gy id, gy.ro'.trans ro6, by omega⟩ (by simp [ptr])⟩
  have hi6 : i = 6 := by omega
  subst hi6
  clear hge hI
  simp
  have K := Ki.none
  clear Ki rowi
  obtain ⟨vt, g1, qt0, et, ot0, gg1, hqt⟩ := app_nil (bytes := 8) (z := .int .i64 0) K.was.reads (iL_all _) (by rw [iL_len]; omega) (by rw [iL_len]; omega)
  obtain ⟨F, hF⟩ : ∃ F, filt (bit ws) n = F := ⟨_, rfl⟩
  have Fs : F.Pairwise (· < ·) := by rw [← hF]; exact filt_sorted _ _
  have Fb : ∀ x ∈ F, x < n := fun x hx => by rw [← hF] at hx; exact (filt_mem.1 hx).1
  rw [hF] at hfl ot0
  have K1 := K.growL gg1.l
  have rg1 := gg1.ro.trans roi
  have lg1 := gg1.len
  simp [et]
  refine got_call (At_s (n := 1048576) rg1 (by omega) ot0.reads (by omega) Fs (fun x hx => by have := Fb x hx; omega)) ?_
  rintro _ g2 ⟨va1, rfl, m2⟩
  have gg2 : GrowL g1 g2 := by obtain ⟨_, _, _, _, _, _, g, _⟩ := m2; exact g
  have lg2 := gg2.len'
  obtain ⟨w1, p1, q1, ⟨S1, -, s1l, s1l', s1d⟩, c1_, b1_⟩ := m2.n (by omega)
  have K2 := K1.growL gg2
  have rg2 := gg2.ro'.trans rg1
  have ot := ot0.growL gg2
  have cqt : vt ≠ nilS → qt0 < g1.dyn.length := fun hv => ot0.lt' hv
  have gt := ot.good
  simp
  obtain ⟨bt, ct, evt, _⟩ := ot.shape
  rw [iL_len] at evt
  obtain ⟨m, hmF⟩ : ∃ m, F.length = m := ⟨_, rfl⟩
  rw [hmF] at evt hfl
  subst evt
  refine go_loopK (fun kk ks hy => ∃ (i : Nat), kk = m - i ∧ i ≤ m ∧ ks = [(0, v0), (1, v1), (5, .int .i64 n), (6, ptr p), (7, vw), (10, va), (26, .slice bt m ct), (27, va1), (28, .int .i64 0), (29, .int .i64 i)] ∧ Own hy (.slice bt m ct) qt0 (iL ((F.take i).map (· + 7) ++ F.drop i)) ∧ Chg (fun b => b = qt0 ∧ 0 < m) g2 hy) (n := m) ⟨0, rfl, by omega, rfl, by simpa using ot, Chg.refl _⟩ (by simp [ptr]) ?_
  rintro I hI kk ks e g3 ⟨i, rfl, hi, rfl, oi, k3⟩
  simp
  refine branch_dec (fun hlt => ?_) (fun hge => ?_)
  · have him : i < m := by omega
    have e4 : IntKind.i64.wrap ((i : Int) + 1) = ((i + 1 : Nat) : Int) := by rw [wrap_i64 (by omega) (by omega)]; omega
    have hlen : ((F.take i).map (· + 7) ++ F.drop i).length = m := by rw [List.length_append, List.length_map, List.length_take, List.length_drop]; omega
    obtain ⟨x, hx⟩ : ∃ x, F[i]? = some x := ⟨_, List.getElem?_eq_getElem (by omega)⟩
    have hxn := Fb x (List.mem_of_getElem? hx)
    have hget : (iL ((F.take i).map (· + 7) ++ F.drop i))[i]? = some (.int .i64 (x : Nat)) := by
      unfold iL
      rw [List.getElem?_map, List.getElem?_append_right (by rw [List.length_map, List.length_take]; omega), List.length_map, List.length_take, List.getElem?_drop, show i + (i - min i F.length) = i by omega, hx]; rfl
    obtain ⟨bb, cc, ev, hr⟩ := oi.reads.shape
    rw [iL_len, hlen] at ev hr
    simp only [Value.slice.injEq, true_and] at ev
    obtain ⟨a, ha, hla⟩ := hr i him
    obtain ⟨ev1, -⟩ := ev
    rw [ha] at ev1
    subst ev1
    have ld := hla i _ hget
    obtain ⟨y, hy⟩ : ∃ y, x + 7 = y := ⟨_, rfl⟩
    obtain ⟨u, c', g4, ee, es, o4, k4, n4⟩ := oi.set (i := i) (by rw [iL_len, hlen]; exact him) (x := .int .i64 (y : Nat)) (by simp)
    rw [iL_len, hlen] at ee
    simp only [Value.slice.injEq, Option.some.injEq, true_and] at ee
    obtain ⟨ee1, -⟩ := ee
    subst ee1
    have e7 : IntKind.i64.wrap ((x : Int) + 7) = (y : Nat) := by rw [wrap_i64 (by omega) (by omega)]; omega
    have hset : (iL ((F.take i).map (· + 7) ++ F.drop i)).set i (.int .i64 (y : Nat)) = iL ((F.take (i + 1)).map (· + 7) ++ F.drop (i + 1)) := by
      have hti : F.take (i + 1) = F.take i ++ [x] := by rw [List.take_add_one, hx]; rfl
      have hdi : F.drop i = x :: F.drop (i + 1) := by
        rw [List.drop_eq_getElem_cons (by omega)]
        congr 1
        exact (List.getElem?_eq_some_iff.1 hx).2
      unfold iL
      rw [hti, hdi, List.map_append, List.map_append, List.map_append, List.set_append_right _ _ (by simp; omega)]
      subst hy
      simp [List.length_take, show i - min i F.length = 0 by omega]
    rw [hset] at o4
    simp only [aadd, Nat.zero_add, Nat.mul_one] at ld es
    try simp only [Nat.zero_add] at es
    simp [him, ld, e7, aadd, es, e4]
    exact ⟨m - (i + 1), by omega, hI _ _ _ _ ⟨i + 1, rfl, by omega, rfl, o4, k3.trans (k4.mono fun b _ e => ⟨e, by omega⟩)⟩ (by simp [ptr])⟩
  have him : i = m := by omega
  subst him
  clear hge hI
  have hne : 0 < i → Value.slice bt i ct ≠ nilS := fun h e => by simp [nilS] at e; omega
  have K3 := K2.chg k3 (fun e => by have := cqt (hne e.2); omega) (fun e => by have := cqt (hne e.2); omega) (fun hv e => by have := cqt (hne e.2); have := cwj hv; omega) (fun hv e => by have := cqt (hne e.2); have := caj hv; omega) (fun d hd => by simp at hd)
  have S13 := S1.chgX k3 (fun e => by have := cqt (hne e.2); omega) (fun e => by have := cqt (hne e.2); omega)
  have rg3 := k3.ro.trans rg2
  have lg3 := k3.len
  obtain ⟨F7, hF7⟩ : ∃ F7, (F.take i).map (· + 7) ++ F.drop i = F7 := ⟨_, rfl⟩
  have hF7' : F7 = F.map (· + 7) := by rw [← hF7, ← hmF, List.take_length, List.drop_length, List.append_nil]
  rw [hF7] at oi
  have F7l : F7.length = i := by rw [hF7', List.length_map, hmF]
  have F7s : F7.Pairwise (· < ·) := by rw [hF7', List.pairwise_map]; exact Fs.imp fun h => by omega
  have F7b : ∀ x ∈ F7, x < 1048576 := fun x hx => by
    rw [hF7', List.mem_map] at hx
    obtain ⟨y, hy, rfl⟩ := hx
    have := Fb y hy
    omega
  simp
  refine got_call (At_s (n := 1048576) rg3 (by omega) oi.reads (by omega) F7s F7b) ?_
  rintro _ g4 ⟨va2, rfl, m4⟩
  obtain ⟨w2, p2, q2, S2, c2_, b2_, gg4, -, -⟩ := m4
  have K4 := K3.growL gg4
  have S14 := S13.growL gg4
  have o4 := oi.growL gg4
  have rg4 := gg4.ro'.trans rg3
  simp
  refine got_list rg4 S14 c1_ fun u1 qu1 g5 ou1 gg5 _ _ => ?_
  rw [filt_of (xs := F) Fs (fun x hx => by have := Fb x hx; omega) (fun i hi => b1_ i hi)] at ou1
  have K5 := K4.growL gg5
  have S25 := S2.growL gg5
  have o5 := o4.growL gg5
  have rg5 := gg5.ro'.trans rg4
  have was5 := K5.was
  rw [hF] at was5
  simp
  refine got_call (sameI_spec ou1.reads was5.reads (by omega)) ?_
  rintro _ hz ⟨rfl, ez⟩
  rw [ez]
  clear ez hz
  simp
  refine got_list rg5 S25 c2_ fun u2 qu2 g6 ou2 gg6 _ _ => ?_
  rw [filt_of (xs := F7) F7s F7b (fun i hi => b2_ i hi)] at ou2
  have K6 := K5.growL gg6
  have rg6 := gg6.ro'.trans rg5
  simp
  refine got_call (sameI_spec ou2.reads (o5.growL gg6).reads (by omega)) ?_
  rintro _ hz ⟨rfl, ez⟩
  rw [ez]
  clear ez hz
  simp
  refine got_call (Words_own K6.set lw) ?_
  rintro vz g7 ⟨qz, oz, gg7, -, -⟩
  have K7 := K6.growL gg7.l
  have rg7 := gg7.ro.trans rg6
  simp
  refine got_call (sameW_spec oz.reads K7.words.reads (by omega)) ?_
  rintro _ hz ⟨rfl, ez⟩
  rw [ez]
  clear ez hz
  simp
  refine got_call (again_spec rg7 k0 k1 (fun h' e => (x0.ro (e.trans rg7)).reads) (fun h' e => (x1.ro (e.trans rg7)).reads) nx ny (by omega)) ?_
  rintro _ g8 rfl
  simp
  exact hQ _ _ rfl

end Go.Ax
