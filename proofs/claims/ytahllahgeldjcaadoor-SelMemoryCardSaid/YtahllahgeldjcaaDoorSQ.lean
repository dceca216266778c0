/- Seat sel: the form is not seen (law SelForms). -/
import Derived.Test.YtahllahgeldjcaaDoorSJ
namespace Go.Ax
open Go.Proofs
set_option linter.unusedVariables false
set_option linter.unusedSimpArgs false
set_option maxRecDepth 100000

theorem first_take {h : Heap} {x : Value} {m : List Value} (r : Reads h x m) {k : Nat} (hk : k ≤ m.length) : firstN h 1 k x = some (m.take k) := by
  rcases r with ⟨rfl, h0⟩ | ⟨a, c, rfl, hl⟩
  · subst h0
    simp at hk
    subst hk
    rfl
  · simp only [firstN, Nat.mul_one]
    have := loadN_of (m.take k) a fun i y hy => hl i y (by
      rw [List.getElem?_take] at hy
      split at hy
      · exact hy
      · simp at hy)
    rw [List.length_take, Nat.min_eq_left hk] at this
    exact this

theorem RowAt.copyR {h : Heap} {q : Nat} {x : Value} {l m : List Value} (r : RowAt h q 0 1 l) (rd : Reads h x m) (hg : m.all goodC = true) :
    ∃ h', acopy h 1 (.slice (some ⟨q, 0, some 0⟩) l.length l.length) x = some (.int .i64 (min m.length l.length : Nat), h') ∧ RowAt h' q 0 1 (m.take (min m.length l.length) ++ l.drop (min m.length l.length)) ∧ Chg (· = q) h h' ∧ h'.dyn.length = h.dyn.length := by
  obtain ⟨f1, _⟩ := rd.first
  have f2 := first_take rd (k := min m.length l.length) (Nat.min_le_left _ _)
  have hlen : (m.take (min m.length l.length)).length = min m.length l.length := by rw [List.length_take]; omega
  obtain ⟨h', e, w', c', n'⟩ := r.storeN (m.take (min m.length l.length)) 0 (by rw [hlen]; omega) (by
    rw [List.all_eq_true] at hg ⊢
    exact fun y hy => hg y (List.mem_of_mem_take hy))
  rw [hlen] at w'
  refine ⟨h', ?_, by simpa using w', c', n'⟩
  simp only [acopy, f1, f2, e]

theorem Words.growL {h h' : Heap} {b : Option Addr} {c q : Nat} {ws : List (BitVec 64)} (w : Words h b c q ws) (g : GrowL h h') : Words h' b c q ws := by
  rcases w with e | ⟨v, e, r, k⟩
  · exact .inl e
  · exact .inr ⟨v, e, r.chgL g id, k⟩

theorem Meet0 {h : Heap} {L : Nat → Nat → Option Value} (hro : h.ro = roBlk tabG L) {v : Value} {n p q : Nat} {ws : List (BitVec 64)} {f : Bool} (S : SelV h v n ws f p q) (cn : Canon n ws) :
    Gives P T (.fn F_sel_Meet) [v, .slice none 0 0] h fun t h' => ∃ v', t = .tuple #[v', .int .i64 0] ∧ Made h h' v' n (bit ws) := by
  refine (Meet_spec hro S cn (l := []) (.inl ⟨rfl, rfl⟩) (fun d hd => by simp at hd) (by simp) (fun d hd => by simp at hd)).mono ?_
  rintro t h' ⟨v', rfl, w, p', q', S', c', hb, g⟩
  exact ⟨v', rfl, w, p', q', S', c', fun i hi => by rw [hb i hi]; simp, g⟩

theorem Join0 {h : Heap} {L : Nat → Nat → Option Value} (hro : h.ro = roBlk tabG L) {v : Value} {n p q : Nat} {ws : List (BitVec 64)} {f : Bool} (S : SelV h v n ws f p q) (cn : Canon n ws) :
    Gives P T (.fn F_sel_Join) [v, .slice none 0 0] h fun t h' => ∃ v', t = .tuple #[v', .int .i64 0] ∧ Made h h' v' n (bit ws) := by
  refine (Join_spec hro S cn (l := []) (.inl ⟨rfl, rfl⟩) (fun d hd => by simp at hd) (by simp) (fun d hd => by simp at hd)).mono ?_
  rintro t h' ⟨v', rfl, w, p', q', S', c', hb, g⟩
  exact ⟨v', rfl, w, p', q', S', c', fun i hi => by rw [hb i hi]; simp, g⟩

set_option maxHeartbeats 8000000 in
theorem forms_law (L : Nat → Nat → Option Value) {v0 v1 : Value} {a b : List Bool} {i0 i1 : Int} (r0 : ArgS (heap0 (roBlk tabG L)) v0 (a.map .bool)) (r1 : ArgS (heap0 (roBlk tabG L)) v1 (b.map .bool)) :
    Gives P T (.fn F_colonnadelaw04_SelForms) [v0, v1, .int .i64 i0, .int .i64 i1] (heap0 (roBlk tabG L)) fun v _ => v = .bool true := by
  refine gives_by t_colonnadelaw04_SelForms (by simp [c_colonnadelaw04_SelForms]) fun Q hQ => ?_
  obtain ⟨b0, c0, e0, _⟩ := r0.reads.shape
  simp only [List.length_map] at e0
  obtain ⟨n, hn⟩ : ∃ n, a.length = n := ⟨_, rfl⟩
  have l0 : ∀ h, lenR h v0 = some (.int .i64 n, h) := fun h => by rw [e0, ← hn]; rfl
  simp [c_colonnadelaw04_SelForms]
  refine got_call (awake_spec L) ?_
  rintro _ h0 ⟨rfl, ro0⟩
  by_cases hz : n = 0
  · subst hz
    simp [l0, skipV]
    exact hQ _ _ rfl
  have hz' : ¬ (n : Int) = 0 := by omega
  by_cases hbig : 65536 < n
  · have hbig' : (65536 : Int) < n := by omega
    simp [l0, hz, hz', hbig, hbig']
    exact hQ _ _ rfl
  have hbig' : ¬ (65536 : Int) < n := by omega
  simp [l0, hz, hz', hbig, hbig']
  refine got_call (thinned_spec (r0.ro ro0).reads (by omega) fun h' e => (r0.ro (e.trans ro0)).reads) ?_
  rintro tv h1 ⟨R, qR, hRl, few, oR, g1, _⟩
  have ro1 := g1.ro.trans ro0
  rw [hn] at hRl few
  simp
  refine got_call (twins_spec ro1 (bs := R) (fun h' g => (oR.growL g).reads) (by omega) (by omega) (by rw [hRl]; exact few)) ?_
  rintro _ h2 ⟨v_x, v_y, w_x, p_x, q_x, p_y, q_y, rfl, S_x, S_y, c_x, bx, g2⟩
  rw [hRl] at S_x S_y c_x
  have ro2 := g2.ro'.trans ro1
  have G_x := S_x.good
  have G_y := S_y.good
  have n16 := c_x.le
  have hfl := filt_le (bit w_x) n
  clear g1 g2 oR few
  simp
  refine got_len S_x fun h3 g3 => ?_
  replace S_x := S_x.growL g3.l
  replace S_y := S_y.growL g3.l
  have ro3 : h3.ro = roBlk tabG L := g3.ro.trans ro2
  clear g3 ro2
  simp
  refine got_len S_y fun h4 g4 => ?_
  replace S_x := S_x.growL g4.l
  replace S_y := S_y.growL g4.l
  have ro4 : h4.ro = roBlk tabG L := g4.ro.trans ro3
  clear g4 ro3
  simp
  refine got_count S_x c_x fun h5 g5 => ?_
  replace S_x := S_x.growL g5.l
  replace S_y := S_y.growL g5.l
  have ro5 : h5.ro = roBlk tabG L := g5.ro.trans ro4
  clear g5 ro4
  simp
  refine got_count S_y c_x fun h6 g6 => ?_
  replace S_x := S_x.growL g6.l
  replace S_y := S_y.growL g6.l
  have ro6 : h6.ro = roBlk tabG L := g6.ro.trans ro5
  clear g6 ro5
  simp
  refine got_list ro6 S_x c_x fun u_x qu_x h7 ou_x g7 _ _ => ?_
  replace S_x := S_x.growL g7
  replace S_y := S_y.growL g7
  have ro7 : h7.ro = roBlk tabG L := g7.ro'.trans ro6
  clear g7 ro6
  simp
  refine got_list ro7 S_y c_x fun u_y qu_y h8 ou_y g8 _ _ => ?_
  replace S_x := S_x.growL g8
  replace S_y := S_y.growL g8
  replace ou_x := ou_x.growL g8
  have ro8 : h8.ro = roBlk tabG L := g8.ro'.trans ro7
  clear g8 ro7
  simp
  refine got_call (sameI_spec ou_x.reads ou_y.reads (by omega)) ?_
  rintro _ h9 ⟨rfl, e9⟩
  rw [e9]
  clear e9 h9
  simp
  refine got_call (walked_s (m := 0) ro8 S_x c_x (by omega)) ?_
  rintro u0_x h9 ⟨q0x, o0_x, g9⟩
  replace S_x := S_x.growL g9
  replace S_y := S_y.growL g9
  have ro9 : h9.ro = roBlk tabG L := g9.ro'.trans ro8
  clear g9 ro8
  simp
  refine got_call (walked_s (m := 0) ro9 S_y c_x (by omega)) ?_
  rintro u0_y h10 ⟨q0y, o0_y, g10⟩
  replace S_x := S_x.growL g10
  replace S_y := S_y.growL g10
  replace o0_x := o0_x.growL g10
  have ro10 : h10.ro = roBlk tabG L := g10.ro'.trans ro9
  clear g10 ro9
  simp
  refine got_call (sameI_spec o0_x.reads o0_y.reads (by unfold wl; split <;> (try rw [List.length_take]) <;> omega)) ?_
  rintro _ h11 ⟨rfl, e11⟩
  rw [e11]
  clear e11 h11
  simp
  refine got_call (walked_s (m := 1) ro10 S_x c_x (by omega)) ?_
  rintro u1_x h11 ⟨q1x, o1_x, g11⟩
  replace S_x := S_x.growL g11
  replace S_y := S_y.growL g11
  have ro11 : h11.ro = roBlk tabG L := g11.ro'.trans ro10
  clear g11 ro10
  simp
  refine got_call (walked_s (m := 1) ro11 S_y c_x (by omega)) ?_
  rintro u1_y h12 ⟨q1y, o1_y, g12⟩
  replace S_x := S_x.growL g12
  replace S_y := S_y.growL g12
  replace o1_x := o1_x.growL g12
  have ro12 : h12.ro = roBlk tabG L := g12.ro'.trans ro11
  clear g12 ro11
  simp
  refine got_call (sameI_spec o1_x.reads o1_y.reads (by unfold wl; split <;> (try rw [List.length_take]) <;> omega)) ?_
  rintro _ h13 ⟨rfl, e13⟩
  rw [e13]
  clear e13 h13
  simp
  have hwl := c_x.len
  refine got_bits S_x c_x fun pb_x qb_x h13 sb_x g13 _ _ => ?_
  replace S_x := S_x.growL g13.l
  replace S_y := S_y.growL g13.l
  have ro13 : h13.ro = roBlk tabG L := g13.ro.trans ro12
  clear g13 ro12
  simp
  refine got_call (Words_spec sb_x (by omega)) ?_
  rintro _ h14 ⟨bw_x, cw_x, qw_x, rfl, W_x, g14, -⟩
  replace S_x := S_x.growL g14.l
  replace S_y := S_y.growL g14.l
  have ro14 : h14.ro = roBlk tabG L := g14.ro.trans ro13
  clear g14 ro13
  simp
  refine got_bits S_y c_x fun pb_y qb_y h15 sb_y g15 _ _ => ?_
  replace S_x := S_x.growL g15.l
  replace S_y := S_y.growL g15.l
  replace W_x := W_x.growL g15.l
  have ro15 : h15.ro = roBlk tabG L := g15.ro.trans ro14
  clear g15 ro14
  simp
  refine got_call (Words_spec sb_y (by omega)) ?_
  rintro _ h16 ⟨bw_y, cw_y, qw_y, rfl, W_y, g16, -⟩
  replace S_x := S_x.growL g16.l
  replace S_y := S_y.growL g16.l
  replace W_x := W_x.growL g16.l
  have ro16 : h16.ro = roBlk tabG L := g16.ro.trans ro15
  clear g16 ro15
  simp
  refine got_call (sameW_spec W_x.reads W_y.reads (by omega)) ?_
  rintro _ h17 ⟨rfl, e17⟩
  rw [e17]
  clear e17 h17
  simp
  refine got_has S_x c_x fun h17 g17 => ?_
  replace S_x := S_x.growL g17.l
  replace S_y := S_y.growL g17.l
  have ro17 : h17.ro = roBlk tabG L := g17.ro.trans ro16
  clear g17 ro16
  simp
  refine got_has S_y c_x fun h18 g18 => ?_
  replace S_x := S_x.growL g18.l
  replace S_y := S_y.growL g18.l
  have ro18 : h18.ro = roBlk tabG L := g18.ro.trans ro17
  clear g18 ro17
  simp
  refine got_call (Same_s ro18 S_x c_x S_y) ?_
  rintro _ h19 ⟨rfl, g19⟩
  replace S_x := S_x.growL g19
  replace S_y := S_y.growL g19
  have ro19 : h19.ro = roBlk tabG L := g19.ro'.trans ro18
  clear g19 ro18
  simp [l0]
  refine got_call (Same_s ro19 S_y c_x S_x) ?_
  rintro _ h20 ⟨rfl, g20⟩
  replace S_x := S_x.growL g20
  replace S_y := S_y.growL g20
  have ro20 : h20.ro = roBlk tabG L := g20.ro'.trans ro19
  clear g20 ro19
  simp [l0]
  have hmk : ∀ h : Heap, mkSR h 1 1 [.bool false] (.int .i64 n) (.int .i64 n) = some (.slice (some (hnext h)) n n, hnew h (List.replicate n (.bool false)) 1) := fun h => mkS_nat (by omega) (by omega)
  obtain ⟨hk1, hhk1⟩ : ∃ x, x = hnew h20 (List.replicate n (.bool false)) 1 := ⟨_, rfl⟩
  have gk1 : Grow h20 hk1 := by rw [hhk1]; exact Grow.new _ _ _
  have row1 : RowAt hk1 h20.dyn.length 0 1 (List.replicate n (.bool false)) := by rw [hhk1]; exact RowAt.new _ _ _
  obtain ⟨hk2, ek2, row2, ck2, nk2⟩ := row1.copyR (r1.ro (gk1.ro.trans ro20)).reads (one_boolS b)
  have gk2 : Grow h20 hk2 := gk1.after ck2 fun m hm e => by omega
  obtain ⟨k, hk⟩ : ∃ k, min b.length n = k := ⟨_, rfl⟩
  simp only [List.length_map, List.length_replicate, hk] at ek2 row2
  obtain ⟨B, hB⟩ : ∃ B, (b.take k ++ List.replicate (n - k) false) = B := ⟨_, rfl⟩
  have hBl : B.length = n := by rw [← hB, List.length_append, List.length_take, List.length_replicate]; omega
  have row3 : RowAt hk2 h20.dyn.length 0 1 (B.map .bool) := by
    rw [← hB, List.map_append, List.map_take, List.map_replicate]
    simpa using row2
  have rB : Reads hk2 (.slice (some ⟨h20.dyn.length, 0, some 0⟩) n n) (B.map .bool) := .inr ⟨_, n, by rw [List.length_map, hBl], fun i x hx => by simpa using row3.get hx⟩
  have rok : hk2.ro = roBlk tabG L := gk2.ro.trans ro20
  simp [hmk, ← hhk1, ek2]
  replace S_x := S_x.growL gk2.l
  replace S_y := S_y.growL gk2.l
  refine got_call (Of_spec rB (by omega)) ?_
  rintro _ hk3 ⟨po, qo, wo, rfl, so, co, bo, gk3, -, -⟩
  rw [hBl] at so co
  replace S_x := S_x.growL gk3.l
  replace S_y := S_y.growL gk3.l
  have rok3 := gk3.ro.trans rok
  clear gk3 rok gk2 gk1 row1 row2 row3 rB
  simp
  refine got_call (Make_s rok3 so co) ?_
  rintro v_o h21 ⟨w_o, p_o, q_o, S_o, c_o, b_o, gk4, -, -⟩
  replace S_x := S_x.growL gk4
  replace S_y := S_y.growL gk4
  have ro21 := gk4.ro'.trans rok3
  have G_o := S_o.good
  clear gk4 rok3 so
  simp [G_o]
  refine got_call (Meet1 ro21 S_x c_x S_o c_o) ?_
  rintro _ h22 ⟨v_m1, rfl, w_m1, p_m1, q_m1, S_m1, c_m1, b_m1, g22, -, -⟩
  replace S_x := S_x.growL g22
  replace S_y := S_y.growL g22
  replace S_o := S_o.growL g22
  have ro22 : h22.ro = roBlk tabG L := g22.ro'.trans ro21
  clear g22 ro21
  have G_m1 := S_m1.good
  simp [G_o]
  refine got_call (Meet1 ro22 S_y c_x S_o c_o) ?_
  rintro _ h23 ⟨v_m2, rfl, w_m2, p_m2, q_m2, S_m2, c_m2, b_m2, g23, -, -⟩
  replace S_x := S_x.growL g23
  replace S_y := S_y.growL g23
  replace S_o := S_o.growL g23
  replace S_m1 := S_m1.growL g23
  have ro23 : h23.ro = roBlk tabG L := g23.ro'.trans ro22
  clear g23 ro22
  have G_m2 := S_m2.good
  simp [G_o, G_y]
  refine got_call (Meet2 ro23 S_o c_o S_o c_o S_y c_x) ?_
  rintro _ h24 ⟨v_m3, rfl, w_m3, p_m3, q_m3, S_m3, c_m3, b_m3, g24, -, -⟩
  replace S_x := S_x.growL g24
  replace S_y := S_y.growL g24
  replace S_o := S_o.growL g24
  replace S_m1 := S_m1.growL g24
  replace S_m2 := S_m2.growL g24
  have ro24 : h24.ro = roBlk tabG L := g24.ro'.trans ro23
  clear g24 ro23
  have G_m3 := S_m3.good
  simp [G_o]
  refine got_call (Join1 ro24 S_x c_x S_o c_o) ?_
  rintro _ h25 ⟨v_j1, rfl, w_j1, p_j1, q_j1, S_j1, c_j1, b_j1, g25, -, -⟩
  replace S_x := S_x.growL g25
  replace S_y := S_y.growL g25
  replace S_o := S_o.growL g25
  replace S_m1 := S_m1.growL g25
  replace S_m2 := S_m2.growL g25
  replace S_m3 := S_m3.growL g25
  have ro25 : h25.ro = roBlk tabG L := g25.ro'.trans ro24
  clear g25 ro24
  have G_j1 := S_j1.good
  simp [G_y]
  refine got_call (Join1 ro25 S_o c_o S_y c_x) ?_
  rintro _ h26 ⟨v_j2, rfl, w_j2, p_j2, q_j2, S_j2, c_j2, b_j2, g26, -, -⟩
  replace S_x := S_x.growL g26
  replace S_y := S_y.growL g26
  replace S_o := S_o.growL g26
  replace S_m1 := S_m1.growL g26
  replace S_m2 := S_m2.growL g26
  replace S_m3 := S_m3.growL g26
  replace S_j1 := S_j1.growL g26
  have ro26 : h26.ro = roBlk tabG L := g26.ro'.trans ro25
  clear g26 ro25
  have G_j2 := S_j2.good
  simp []
  refine got_call (Less_s ro26 S_x c_x S_o c_o) ?_
  rintro _ h27 ⟨v_l1, rfl, w_l1, p_l1, q_l1, S_l1, c_l1, b_l1, g27, -, -⟩
  replace S_x := S_x.growL g27
  replace S_y := S_y.growL g27
  replace S_o := S_o.growL g27
  replace S_m1 := S_m1.growL g27
  replace S_m2 := S_m2.growL g27
  replace S_m3 := S_m3.growL g27
  replace S_j1 := S_j1.growL g27
  replace S_j2 := S_j2.growL g27
  have ro27 : h27.ro = roBlk tabG L := g27.ro'.trans ro26
  clear g27 ro26
  have G_l1 := S_l1.good
  simp []
  refine got_call (Less_s ro27 S_y c_x S_o c_o) ?_
  rintro _ h28 ⟨v_l2, rfl, w_l2, p_l2, q_l2, S_l2, c_l2, b_l2, g28, -, -⟩
  replace S_x := S_x.growL g28
  replace S_y := S_y.growL g28
  replace S_o := S_o.growL g28
  replace S_m1 := S_m1.growL g28
  replace S_m2 := S_m2.growL g28
  replace S_m3 := S_m3.growL g28
  replace S_j1 := S_j1.growL g28
  replace S_j2 := S_j2.growL g28
  replace S_l1 := S_l1.growL g28
  have ro28 : h28.ro = roBlk tabG L := g28.ro'.trans ro27
  clear g28 ro27
  have G_l2 := S_l2.good
  simp []
  refine got_call (Less_s ro28 S_o c_o S_x c_x) ?_
  rintro _ h29 ⟨v_k1, rfl, w_k1, p_k1, q_k1, S_k1, c_k1, b_k1, g29, -, -⟩
  replace S_x := S_x.growL g29
  replace S_y := S_y.growL g29
  replace S_o := S_o.growL g29
  replace S_m1 := S_m1.growL g29
  replace S_m2 := S_m2.growL g29
  replace S_m3 := S_m3.growL g29
  replace S_j1 := S_j1.growL g29
  replace S_j2 := S_j2.growL g29
  replace S_l1 := S_l1.growL g29
  replace S_l2 := S_l2.growL g29
  have ro29 : h29.ro = roBlk tabG L := g29.ro'.trans ro28
  clear g29 ro28
  have G_k1 := S_k1.good
  simp []
  refine got_call (Less_s ro29 S_o c_o S_y c_x) ?_
  rintro _ h30 ⟨v_k2, rfl, w_k2, p_k2, q_k2, S_k2, c_k2, b_k2, g30, -, -⟩
  replace S_x := S_x.growL g30
  replace S_y := S_y.growL g30
  replace S_o := S_o.growL g30
  replace S_m1 := S_m1.growL g30
  replace S_m2 := S_m2.growL g30
  replace S_m3 := S_m3.growL g30
  replace S_j1 := S_j1.growL g30
  replace S_j2 := S_j2.growL g30
  replace S_l1 := S_l1.growL g30
  replace S_l2 := S_l2.growL g30
  replace S_k1 := S_k1.growL g30
  have ro30 : h30.ro = roBlk tabG L := g30.ro'.trans ro29
  clear g30 ro29
  have G_k2 := S_k2.good
  simp []
  refine got_call (Meet0 ro30 S_x c_x) ?_
  rintro _ h31 ⟨v_s1, rfl, w_s1, p_s1, q_s1, S_s1, c_s1, b_s1, g31, -, -⟩
  replace S_x := S_x.growL g31
  replace S_y := S_y.growL g31
  replace S_o := S_o.growL g31
  replace S_m1 := S_m1.growL g31
  replace S_m2 := S_m2.growL g31
  replace S_m3 := S_m3.growL g31
  replace S_j1 := S_j1.growL g31
  replace S_j2 := S_j2.growL g31
  replace S_l1 := S_l1.growL g31
  replace S_l2 := S_l2.growL g31
  replace S_k1 := S_k1.growL g31
  replace S_k2 := S_k2.growL g31
  have ro31 : h31.ro = roBlk tabG L := g31.ro'.trans ro30
  clear g31 ro30
  have G_s1 := S_s1.good
  simp []
  have e1n : IntKind.i64.wrap ((n : Int) + 1) = ((n + 1 : Nat) : Int) := by rw [wrap_i64 (by omega) (by omega)]; omega
  refine got_call (Join0 ro31 S_y c_x) ?_
  rintro _ h32 ⟨v_s2, rfl, w_s2, p_s2, q_s2, S_s2, c_s2, b_s2, g32, -, -⟩
  replace S_x := S_x.growL g32
  replace S_y := S_y.growL g32
  replace S_o := S_o.growL g32
  replace S_m1 := S_m1.growL g32
  replace S_m2 := S_m2.growL g32
  replace S_m3 := S_m3.growL g32
  replace S_j1 := S_j1.growL g32
  replace S_j2 := S_j2.growL g32
  replace S_l1 := S_l1.growL g32
  replace S_l2 := S_l2.growL g32
  replace S_k1 := S_k1.growL g32
  replace S_k2 := S_k2.growL g32
  replace S_s1 := S_s1.growL g32
  have ro32 : h32.ro = roBlk tabG L := g32.ro'.trans ro31
  clear g32 ro31
  have G_s2 := S_s2.good
  simp [l0, e1n]
  refine got_call (None_s ro32 (n := n + 1) (by omega)) ?_
  rintro v_nn h33 ⟨w_nn, p_nn, q_nn, S_nn, c_nn, b_nn, g33, -, -⟩
  replace S_x := S_x.growL g33
  replace S_y := S_y.growL g33
  replace S_o := S_o.growL g33
  replace S_m1 := S_m1.growL g33
  replace S_m2 := S_m2.growL g33
  replace S_m3 := S_m3.growL g33
  replace S_j1 := S_j1.growL g33
  replace S_j2 := S_j2.growL g33
  replace S_l1 := S_l1.growL g33
  replace S_l2 := S_l2.growL g33
  replace S_k1 := S_k1.growL g33
  replace S_k2 := S_k2.growL g33
  replace S_s1 := S_s1.growL g33
  replace S_s2 := S_s2.growL g33
  have ro33 : h33.ro = roBlk tabG L := g33.ro'.trans ro32
  clear g33 ro32
  have G_nn := S_nn.good
  simp [G_nn]
  refine got_call (Meet_unlike S_y S_nn c_nn (by omega)) ?_
  rintro _ h34 ⟨rfl, g34⟩
  replace S_x := S_x.growL g34.l
  replace S_y := S_y.growL g34.l
  replace S_o := S_o.growL g34.l
  replace S_m1 := S_m1.growL g34.l
  replace S_m2 := S_m2.growL g34.l
  replace S_m3 := S_m3.growL g34.l
  replace S_j1 := S_j1.growL g34.l
  replace S_j2 := S_j2.growL g34.l
  replace S_l1 := S_l1.growL g34.l
  replace S_l2 := S_l2.growL g34.l
  replace S_k1 := S_k1.growL g34.l
  replace S_k2 := S_k2.growL g34.l
  replace S_s1 := S_s1.growL g34.l
  replace S_s2 := S_s2.growL g34.l
  have ro34 : h34.ro = roBlk tabG L := g34.ro.trans ro33
  clear g34 ro33
  simp
  refine got_call (alike_m ro34 S_m1 c_m1 S_m2 c_m2 (fun i hi => by have := 0; have em1 := b_m1 i hi; have em2 := b_m2 i hi; first | (simp only [em1, em2]; done) | (simp only [em1, em2]; cases bit w_x i <;> cases bit w_o i <;> rfl))) ?_
  rintro _ h35 ⟨rfl, g35⟩
  replace S_x := S_x.growL g35
  replace S_y := S_y.growL g35
  replace S_o := S_o.growL g35
  replace S_m1 := S_m1.growL g35
  replace S_m2 := S_m2.growL g35
  replace S_m3 := S_m3.growL g35
  replace S_j1 := S_j1.growL g35
  replace S_j2 := S_j2.growL g35
  replace S_l1 := S_l1.growL g35
  replace S_l2 := S_l2.growL g35
  replace S_k1 := S_k1.growL g35
  replace S_k2 := S_k2.growL g35
  replace S_s1 := S_s1.growL g35
  replace S_s2 := S_s2.growL g35
  have ro35 : h35.ro = roBlk tabG L := g35.ro'.trans ro34
  clear g35 ro34
  simp []
  refine got_call (alike_m ro35 S_m1 c_m1 S_m3 c_m3 (fun i hi => by have := 0; have em1 := b_m1 i hi; have em3 := b_m3 i hi; first | (simp only [em1, em3]; done) | (simp only [em1, em3]; cases bit w_x i <;> cases bit w_o i <;> rfl))) ?_
  rintro _ h36 ⟨rfl, g36⟩
  replace S_x := S_x.growL g36
  replace S_y := S_y.growL g36
  replace S_o := S_o.growL g36
  replace S_m1 := S_m1.growL g36
  replace S_m2 := S_m2.growL g36
  replace S_m3 := S_m3.growL g36
  replace S_j1 := S_j1.growL g36
  replace S_j2 := S_j2.growL g36
  replace S_l1 := S_l1.growL g36
  replace S_l2 := S_l2.growL g36
  replace S_k1 := S_k1.growL g36
  replace S_k2 := S_k2.growL g36
  replace S_s1 := S_s1.growL g36
  replace S_s2 := S_s2.growL g36
  have ro36 : h36.ro = roBlk tabG L := g36.ro'.trans ro35
  clear g36 ro35
  simp []
  refine got_call (alike_m ro36 S_j1 c_j1 S_j2 c_j2 (fun i hi => by have := 0; have ej1 := b_j1 i hi; have ej2 := b_j2 i hi; first | (simp only [ej1, ej2]; done) | (simp only [ej1, ej2]; cases bit w_x i <;> cases bit w_o i <;> rfl))) ?_
  rintro _ h37 ⟨rfl, g37⟩
  replace S_x := S_x.growL g37
  replace S_y := S_y.growL g37
  replace S_o := S_o.growL g37
  replace S_m1 := S_m1.growL g37
  replace S_m2 := S_m2.growL g37
  replace S_m3 := S_m3.growL g37
  replace S_j1 := S_j1.growL g37
  replace S_j2 := S_j2.growL g37
  replace S_l1 := S_l1.growL g37
  replace S_l2 := S_l2.growL g37
  replace S_k1 := S_k1.growL g37
  replace S_k2 := S_k2.growL g37
  replace S_s1 := S_s1.growL g37
  replace S_s2 := S_s2.growL g37
  have ro37 : h37.ro = roBlk tabG L := g37.ro'.trans ro36
  clear g37 ro36
  simp []
  refine got_call (alike_m ro37 S_l1 c_l1 S_l2 c_l2 (fun i hi => by have := 0; have el1 := b_l1 i hi; have el2 := b_l2 i hi; first | (simp only [el1, el2]; done) | (simp only [el1, el2]; cases bit w_x i <;> cases bit w_o i <;> rfl))) ?_
  rintro _ h38 ⟨rfl, g38⟩
  replace S_x := S_x.growL g38
  replace S_y := S_y.growL g38
  replace S_o := S_o.growL g38
  replace S_m1 := S_m1.growL g38
  replace S_m2 := S_m2.growL g38
  replace S_m3 := S_m3.growL g38
  replace S_j1 := S_j1.growL g38
  replace S_j2 := S_j2.growL g38
  replace S_l1 := S_l1.growL g38
  replace S_l2 := S_l2.growL g38
  replace S_k1 := S_k1.growL g38
  replace S_k2 := S_k2.growL g38
  replace S_s1 := S_s1.growL g38
  replace S_s2 := S_s2.growL g38
  have ro38 : h38.ro = roBlk tabG L := g38.ro'.trans ro37
  clear g38 ro37
  simp []
  refine got_call (alike_m ro38 S_k1 c_k1 S_k2 c_k2 (fun i hi => by have := 0; have ek1 := b_k1 i hi; have ek2 := b_k2 i hi; first | (simp only [ek1, ek2]; done) | (simp only [ek1, ek2]; cases bit w_x i <;> cases bit w_o i <;> rfl))) ?_
  rintro _ h39 ⟨rfl, g39⟩
  replace S_x := S_x.growL g39
  replace S_y := S_y.growL g39
  replace S_o := S_o.growL g39
  replace S_m1 := S_m1.growL g39
  replace S_m2 := S_m2.growL g39
  replace S_m3 := S_m3.growL g39
  replace S_j1 := S_j1.growL g39
  replace S_j2 := S_j2.growL g39
  replace S_l1 := S_l1.growL g39
  replace S_l2 := S_l2.growL g39
  replace S_k1 := S_k1.growL g39
  replace S_k2 := S_k2.growL g39
  replace S_s1 := S_s1.growL g39
  replace S_s2 := S_s2.growL g39
  have ro39 : h39.ro = roBlk tabG L := g39.ro'.trans ro38
  clear g39 ro38
  simp []
  refine got_call (alike_m ro39 S_s1 c_s1 S_s2 c_s2 (fun i hi => by have := 0; have es1 := b_s1 i hi; have es2 := b_s2 i hi; first | (simp only [es1, es2]; done) | (simp only [es1, es2]; cases bit w_x i <;> cases bit w_o i <;> rfl))) ?_
  rintro _ h40 ⟨rfl, g40⟩
  replace S_x := S_x.growL g40
  replace S_y := S_y.growL g40
  replace S_o := S_o.growL g40
  replace S_m1 := S_m1.growL g40
  replace S_m2 := S_m2.growL g40
  replace S_m3 := S_m3.growL g40
  replace S_j1 := S_j1.growL g40
  replace S_j2 := S_j2.growL g40
  replace S_l1 := S_l1.growL g40
  replace S_l2 := S_l2.growL g40
  replace S_k1 := S_k1.growL g40
  replace S_k2 := S_k2.growL g40
  replace S_s1 := S_s1.growL g40
  replace S_s2 := S_s2.growL g40
  have ro40 : h40.ro = roBlk tabG L := g40.ro'.trans ro39
  clear g40 ro39
  simp []
  refine got_call (Not_s ro40 S_x c_x) ?_
  rintro v_n1 h41 ⟨w_n1, p_n1, q_n1, S_n1, c_n1, b_n1, g41, -, -⟩
  replace S_x := S_x.growL g41
  replace S_y := S_y.growL g41
  replace S_o := S_o.growL g41
  replace S_m1 := S_m1.growL g41
  replace S_m2 := S_m2.growL g41
  replace S_m3 := S_m3.growL g41
  replace S_j1 := S_j1.growL g41
  replace S_j2 := S_j2.growL g41
  replace S_l1 := S_l1.growL g41
  replace S_l2 := S_l2.growL g41
  replace S_k1 := S_k1.growL g41
  replace S_k2 := S_k2.growL g41
  replace S_s1 := S_s1.growL g41
  replace S_s2 := S_s2.growL g41
  have ro41 : h41.ro = roBlk tabG L := g41.ro'.trans ro40
  clear g41 ro40
  have G_n1 := S_n1.good
  simp []
  refine got_call (Not_s ro41 S_y c_x) ?_
  rintro v_n2 h42 ⟨w_n2, p_n2, q_n2, S_n2, c_n2, b_n2, g42, -, -⟩
  replace S_x := S_x.growL g42
  replace S_y := S_y.growL g42
  replace S_o := S_o.growL g42
  replace S_m1 := S_m1.growL g42
  replace S_m2 := S_m2.growL g42
  replace S_m3 := S_m3.growL g42
  replace S_j1 := S_j1.growL g42
  replace S_j2 := S_j2.growL g42
  replace S_l1 := S_l1.growL g42
  replace S_l2 := S_l2.growL g42
  replace S_k1 := S_k1.growL g42
  replace S_k2 := S_k2.growL g42
  replace S_s1 := S_s1.growL g42
  replace S_s2 := S_s2.growL g42
  replace S_n1 := S_n1.growL g42
  have ro42 : h42.ro = roBlk tabG L := g42.ro'.trans ro41
  clear g42 ro41
  have G_n2 := S_n2.good
  simp []
  refine got_call (alike_m ro42 S_n1 c_n1 S_n2 c_n2 (fun i hi => by have := 0; have en1 := b_n1 i hi; have en2 := b_n2 i hi; first | (simp only [en1, en2]; done) | (simp only [en1, en2]; cases bit w_x i <;> cases bit w_o i <;> rfl))) ?_
  rintro _ h43 ⟨rfl, g43⟩
  replace S_x := S_x.growL g43
  replace S_y := S_y.growL g43
  replace S_o := S_o.growL g43
  replace S_m1 := S_m1.growL g43
  replace S_m2 := S_m2.growL g43
  replace S_m3 := S_m3.growL g43
  replace S_j1 := S_j1.growL g43
  replace S_j2 := S_j2.growL g43
  replace S_l1 := S_l1.growL g43
  replace S_l2 := S_l2.growL g43
  replace S_k1 := S_k1.growL g43
  replace S_k2 := S_k2.growL g43
  replace S_s1 := S_s1.growL g43
  replace S_s2 := S_s2.growL g43
  replace S_n1 := S_n1.growL g43
  replace S_n2 := S_n2.growL g43
  have ro43 : h43.ro = roBlk tabG L := g43.ro'.trans ro42
  clear g43 ro42
  simp []
  obtain ⟨a0, ha0⟩ : ∃ a0 : Nat, min (max i0 0) (n : Int) = a0 := ⟨(min (max i0 0) (n : Int)).toNat, by omega⟩
  obtain ⟨t0, ht0⟩ : ∃ t0 : Nat, max (min i1 (n : Int)) a0 = t0 := ⟨(max (min i1 (n : Int)) a0).toNat, by omega⟩
  refine got_call (Cut_s ro43 S_x c_x i0 i1 ha0 ht0) ?_
  rintro v_c1 h44 ⟨w_c1, p_c1, q_c1, S_c1, c_c1, b_c1, g44, -, -⟩
  replace S_x := S_x.growL g44
  replace S_y := S_y.growL g44
  replace S_o := S_o.growL g44
  replace S_m1 := S_m1.growL g44
  replace S_m2 := S_m2.growL g44
  replace S_m3 := S_m3.growL g44
  replace S_j1 := S_j1.growL g44
  replace S_j2 := S_j2.growL g44
  replace S_l1 := S_l1.growL g44
  replace S_l2 := S_l2.growL g44
  replace S_k1 := S_k1.growL g44
  replace S_k2 := S_k2.growL g44
  replace S_s1 := S_s1.growL g44
  replace S_s2 := S_s2.growL g44
  replace S_n1 := S_n1.growL g44
  replace S_n2 := S_n2.growL g44
  have ro44 : h44.ro = roBlk tabG L := g44.ro'.trans ro43
  clear g44 ro43
  have G_c1 := S_c1.good
  simp []
  refine got_call (Cut_s ro44 S_y c_x i0 i1 ha0 ht0) ?_
  rintro v_c2 h45 ⟨w_c2, p_c2, q_c2, S_c2, c_c2, b_c2, g45, -, -⟩
  replace S_x := S_x.growL g45
  replace S_y := S_y.growL g45
  replace S_o := S_o.growL g45
  replace S_m1 := S_m1.growL g45
  replace S_m2 := S_m2.growL g45
  replace S_m3 := S_m3.growL g45
  replace S_j1 := S_j1.growL g45
  replace S_j2 := S_j2.growL g45
  replace S_l1 := S_l1.growL g45
  replace S_l2 := S_l2.growL g45
  replace S_k1 := S_k1.growL g45
  replace S_k2 := S_k2.growL g45
  replace S_s1 := S_s1.growL g45
  replace S_s2 := S_s2.growL g45
  replace S_n1 := S_n1.growL g45
  replace S_n2 := S_n2.growL g45
  replace S_c1 := S_c1.growL g45
  have ro45 : h45.ro = roBlk tabG L := g45.ro'.trans ro44
  clear g45 ro44
  have G_c2 := S_c2.good
  simp []
  refine got_call (alike_m ro45 S_c1 c_c1 S_c2 c_c2 (fun i hi => by have := 0; have ec1 := b_c1 i hi; have ec2 := b_c2 i hi; first | (simp only [ec1, ec2]; done) | (simp only [ec1, ec2]; cases bit w_x i <;> cases bit w_o i <;> rfl))) ?_
  rintro _ h46 ⟨rfl, g46⟩
  replace S_x := S_x.growL g46
  replace S_y := S_y.growL g46
  replace S_o := S_o.growL g46
  replace S_m1 := S_m1.growL g46
  replace S_m2 := S_m2.growL g46
  replace S_m3 := S_m3.growL g46
  replace S_j1 := S_j1.growL g46
  replace S_j2 := S_j2.growL g46
  replace S_l1 := S_l1.growL g46
  replace S_l2 := S_l2.growL g46
  replace S_k1 := S_k1.growL g46
  replace S_k2 := S_k2.growL g46
  replace S_s1 := S_s1.growL g46
  replace S_s2 := S_s2.growL g46
  replace S_n1 := S_n1.growL g46
  replace S_n2 := S_n2.growL g46
  replace S_c1 := S_c1.growL g46
  replace S_c2 := S_c2.growL g46
  have ro46 : h46.ro = roBlk tabG L := g46.ro'.trans ro45
  clear g46 ro45
  simp []
  exact hQ _ _ rfl

end Go.Ax
