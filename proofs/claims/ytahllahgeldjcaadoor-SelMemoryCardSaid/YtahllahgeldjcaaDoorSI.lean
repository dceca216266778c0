/- Seat sel: the law SelAlgebra, over the abstract machine (written by SI.gen.py). -/
import Derived.Test.YtahllahgeldjcaaDoorSG
import Derived.Test.YtahllahgeldjcaaDoorSA
import Derived.Test.YtahllahgeldjcaaDoorYG
namespace Go.Ax
open Go.Proofs
set_option linter.unusedVariables false
set_option linter.unusedSimpArgs false
set_option maxRecDepth 1000000

theorem mm_min4 {h : Heap} {a b c d : Int} : mmR P h false [.int .i64 a, .int .i64 b, .int .i64 c, .int .i64 d] = some (.int .i64 (min (min (min a b) c) d), h) := by
  have : pures P (Builtin.min_ #[] 0 #[.int .i64 a, .int .i64 b, .int .i64 c, .int .i64 d]) = some (.int .i64 (min (min (min a b) c) d)) := by
    have e : Builtin.min_ #[] 0 #[.int .i64 a, .int .i64 b, .int .i64 c, .int .i64 d] = Sem.pure (.int .i64 (min (min (min a b) c) d)) := by
      simp only [Builtin.min_, List.foldlM, Builtin.min2]
      show Sem.pure _ = Sem.pure _
      congr 2
      split <;> split <;> split <;> omega
    rw [e]; rfl
  simp [mmR, this, plain, plainN]

theorem Meet1 {h : Heap} {L : Nat → Nat → Option Value} (hro : h.ro = roBlk tabG L) {v v2 : Value} {n p q p2 q2 : Nat} {ws w2 : List (BitVec 64)} {f f2 : Bool} (S : SelV h v n ws f p q) (cn : Canon n ws) (S2 : SelV h v2 n w2 f2 p2 q2) (c2 : Canon n w2) :
    Gives P T (.fn F_sel_Meet) [v, .slice (some ⟨h.dyn.length, 0, some 0⟩) 1 1] (hnew h [v2] 1) fun t h' => ∃ v', t = .tuple #[v', .int .i64 0] ∧ Made h h' v' n (fun i => bit ws i && bit w2 i) := by
  have g1 := Grow.new h [v2] 1
  have row := RowAt.new h [v2] 1
  have rd : Reads (hnew h [v2] 1) (.slice (some ⟨h.dyn.length, 0, some 0⟩) 1 1) (([⟨v2, n, w2, f2, p2, q2⟩] : List SelD).map (·.v)) := .inr ⟨⟨h.dyn.length, 0, some 0⟩, 1, by simp, fun i x hx => by simpa using row.get (by simpa using hx)⟩
  refine (Meet_spec (L := L) (g1.ro.trans hro) (S.growL g1.l) cn rd (by
    simp only [List.mem_cons, List.not_mem_nil, or_false]
    rintro d rfl
    exact ⟨S2.growL g1.l, c2⟩) (by simp) (by simp)).mono ?_
  rintro t h' ⟨v', rfl, w6, p6, q6, S6, c6, hb6, g6, hp6, hq6⟩
  have l1 := g1.len
  exact ⟨v', rfl, w6, p6, q6, S6, c6, fun i hi => by simpa using hb6 i hi, GrowL.trans g1.l g6, by omega, by omega⟩

theorem Meet2 {h : Heap} {L : Nat → Nat → Option Value} (hro : h.ro = roBlk tabG L) {v v2 v3 : Value} {n p q p2 q2 p3 q3 : Nat} {ws w2 w3 : List (BitVec 64)} {f f2 f3 : Bool} (S : SelV h v n ws f p q) (cn : Canon n ws) (S2 : SelV h v2 n w2 f2 p2 q2) (c2 : Canon n w2) (S3 : SelV h v3 n w3 f3 p3 q3) (c3 : Canon n w3) :
    Gives P T (.fn F_sel_Meet) [v, .slice (some ⟨h.dyn.length, 0, some 0⟩) 2 2] (hnew h [v2, v3] 1) fun t h' => ∃ v', t = .tuple #[v', .int .i64 0] ∧ Made h h' v' n (fun i => bit ws i && (bit w2 i && bit w3 i)) := by
  have g1 := Grow.new h [v2, v3] 1
  have row := RowAt.new h [v2, v3] 1
  have rd : Reads (hnew h [v2, v3] 1) (.slice (some ⟨h.dyn.length, 0, some 0⟩) 2 2) (([⟨v2, n, w2, f2, p2, q2⟩, ⟨v3, n, w3, f3, p3, q3⟩] : List SelD).map (·.v)) := .inr ⟨⟨h.dyn.length, 0, some 0⟩, 2, by simp, fun i x hx => by simpa using row.get (by simpa using hx)⟩
  refine (Meet_spec (L := L) (g1.ro.trans hro) (S.growL g1.l) cn rd (by
    simp only [List.mem_cons, List.not_mem_nil, or_false]
    rintro d (rfl | rfl)
    · exact ⟨S2.growL g1.l, c2⟩
    · exact ⟨S3.growL g1.l, c3⟩) (by simp) (by simp)).mono ?_
  rintro t h' ⟨v', rfl, w6, p6, q6, S6, c6, hb6, g6, hp6, hq6⟩
  have l1 := g1.len
  exact ⟨v', rfl, w6, p6, q6, S6, c6, fun i hi => by simpa using hb6 i hi, GrowL.trans g1.l g6, by omega, by omega⟩

theorem Join1 {h : Heap} {L : Nat → Nat → Option Value} (hro : h.ro = roBlk tabG L) {v v2 : Value} {n p q p2 q2 : Nat} {ws w2 : List (BitVec 64)} {f f2 : Bool} (S : SelV h v n ws f p q) (cn : Canon n ws) (S2 : SelV h v2 n w2 f2 p2 q2) (c2 : Canon n w2) :
    Gives P T (.fn F_sel_Join) [v, .slice (some ⟨h.dyn.length, 0, some 0⟩) 1 1] (hnew h [v2] 1) fun t h' => ∃ v', t = .tuple #[v', .int .i64 0] ∧ Made h h' v' n (fun i => bit ws i || bit w2 i) := by
  have g1 := Grow.new h [v2] 1
  have row := RowAt.new h [v2] 1
  have rd : Reads (hnew h [v2] 1) (.slice (some ⟨h.dyn.length, 0, some 0⟩) 1 1) (([⟨v2, n, w2, f2, p2, q2⟩] : List SelD).map (·.v)) := .inr ⟨⟨h.dyn.length, 0, some 0⟩, 1, by simp, fun i x hx => by simpa using row.get (by simpa using hx)⟩
  refine (Join_spec (L := L) (g1.ro.trans hro) (S.growL g1.l) cn rd (by
    simp only [List.mem_cons, List.not_mem_nil, or_false]
    rintro d rfl
    exact ⟨S2.growL g1.l, c2⟩) (by simp) (by simp)).mono ?_
  rintro t h' ⟨v', rfl, w6, p6, q6, S6, c6, hb6, g6, hp6, hq6⟩
  have l1 := g1.len
  exact ⟨v', rfl, w6, p6, q6, S6, c6, fun i hi => by simpa using hb6 i hi, GrowL.trans g1.l g6, by omega, by omega⟩

theorem Join2 {h : Heap} {L : Nat → Nat → Option Value} (hro : h.ro = roBlk tabG L) {v v2 v3 : Value} {n p q p2 q2 p3 q3 : Nat} {ws w2 w3 : List (BitVec 64)} {f f2 f3 : Bool} (S : SelV h v n ws f p q) (cn : Canon n ws) (S2 : SelV h v2 n w2 f2 p2 q2) (c2 : Canon n w2) (S3 : SelV h v3 n w3 f3 p3 q3) (c3 : Canon n w3) :
    Gives P T (.fn F_sel_Join) [v, .slice (some ⟨h.dyn.length, 0, some 0⟩) 2 2] (hnew h [v2, v3] 1) fun t h' => ∃ v', t = .tuple #[v', .int .i64 0] ∧ Made h h' v' n (fun i => bit ws i || (bit w2 i || bit w3 i)) := by
  have g1 := Grow.new h [v2, v3] 1
  have row := RowAt.new h [v2, v3] 1
  have rd : Reads (hnew h [v2, v3] 1) (.slice (some ⟨h.dyn.length, 0, some 0⟩) 2 2) (([⟨v2, n, w2, f2, p2, q2⟩, ⟨v3, n, w3, f3, p3, q3⟩] : List SelD).map (·.v)) := .inr ⟨⟨h.dyn.length, 0, some 0⟩, 2, by simp, fun i x hx => by simpa using row.get (by simpa using hx)⟩
  refine (Join_spec (L := L) (g1.ro.trans hro) (S.growL g1.l) cn rd (by
    simp only [List.mem_cons, List.not_mem_nil, or_false]
    rintro d (rfl | rfl)
    · exact ⟨S2.growL g1.l, c2⟩
    · exact ⟨S3.growL g1.l, c3⟩) (by simp) (by simp)).mono ?_
  rintro t h' ⟨v', rfl, w6, p6, q6, S6, c6, hb6, g6, hp6, hq6⟩
  have l1 := g1.len
  exact ⟨v', rfl, w6, p6, q6, S6, c6, fun i hi => by simpa using hb6 i hi, GrowL.trans g1.l g6, by omega, by omega⟩

theorem alike_m {h : Heap} {L : Nat → Nat → Option Value} (hro : h.ro = roBlk tabG L) {v v2 : Value} {n p q p2 q2 : Nat} {ws w2 : List (BitVec 64)} (S : SelV h v n ws (fewB ws n) p q) (cn : Canon n ws) (S2 : SelV h v2 n w2 (fewB w2 n) p2 q2) (c2 : Canon n w2) (e : ∀ i, i < n → bit ws i = bit w2 i) :
    Gives P T (.fn F_colonnadelaw04_alike) [v, v2] h fun r h' => r = .bool true ∧ GrowL h h' := by
  have e : ws = w2 := cn.ext c2 e
  subst e
  exact alike_s hro S cn S2

theorem no_nil {h : Heap} {v : Value} {n p q : Nat} {ws : List (BitVec 64)} {f : Bool} (S : SelV h v n ws f p q) : ∀ h x y, abinop P h .eql 25 (.iface true) x y v .nilIface = some (.bool false) := fun h x y => by
  obtain ⟨s, c, e⟩ := S.isI
  rw [e]; simp

set_option maxHeartbeats 4000000 in
theorem algebra_law (L : Nat → Nat → Option Value) {v0 v1 v2 : Value} {a b c : List Bool} (r0 : ArgS (heap0 (roBlk tabG L)) v0 (a.map .bool)) (r1 : ArgS (heap0 (roBlk tabG L)) v1 (b.map .bool)) (r2 : ArgS (heap0 (roBlk tabG L)) v2 (c.map .bool)) :
    Gives P T (.fn F_colonnadelaw04_SelAlgebra) [v0, v1, v2] (heap0 (roBlk tabG L)) fun v _ => v = .bool true := by
  refine gives_by t_colonnadelaw04_SelAlgebra (by simp [c_colonnadelaw04_SelAlgebra]) fun Q hQ => ?_
  obtain ⟨b0, c0, e0, _⟩ := r0.reads.shape
  obtain ⟨b1, c1, e1, _⟩ := r1.reads.shape
  obtain ⟨b2, c2, e2, _⟩ := r2.reads.shape
  simp only [List.length_map] at e0 e1 e2
  obtain ⟨n, hm0⟩ : ∃ n, min (min (min a.length b.length) c.length) 65536 = n := ⟨_, rfl⟩
  have hm : min (min (min (a.length : Int) b.length) c.length) 65536 = n := by omega
  have hn : n ≤ 65536 := by omega
  have hm' : min (a.length : Int) (min (b.length : Int) (min (c.length : Int) 65536)) = n := by omega
  obtain ⟨x0, k0, z0⟩ := r0.cut (n := n) (by rw [List.length_map]; omega)
  obtain ⟨x1, k1, z1⟩ := r1.cut (n := n) (by rw [List.length_map]; omega)
  obtain ⟨x2, k2, z2⟩ := r2.cut (n := n) (by rw [List.length_map]; omega)
  have n0 : (a.take n).length = n := by rw [List.length_take]; omega
  have n1 : (b.take n).length = n := by rw [List.length_take]; omega
  have n2 : (c.take n).length = n := by rw [List.length_take]; omega
  rw [← List.map_take] at x0 x1 x2
  have l0 : ∀ h, lenR h v0 = some (.int .i64 a.length, h) := fun h => by rw [e0]; rfl
  have l1 : ∀ h, lenR h v1 = some (.int .i64 b.length, h) := fun h => by rw [e1]; rfl
  have l2 : ∀ h, lenR h v2 = some (.int .i64 c.length, h) := fun h => by rw [e2]; rfl
  simp [c_colonnadelaw04_SelAlgebra]
  refine got_call (awake_spec L) ?_
  rintro _ h0 ⟨rfl, ro0⟩
  simp [l0, l1, l2, mm_min4, hm, hm', k0]
  refine got_call (Of_spec (x0.ro ro0).reads (by omega)) ?_
  rintro _ h1 ⟨pox, qox, wox, rfl, sox, cox, box, g1, -, -⟩
  rw [n0] at sox cox
  have ro1 := g1.ro.trans ro0
  simp
  refine got_call (Make_s ro1 sox cox) ?_
  rintro v_x h2 ⟨w_x, p_x, q_x, S_x, c_x, b_x, g2, -, -⟩
  have ro2 := g2.ro'.trans ro1
  clear g2
  have G_x := S_x.good
  simp [k1, z1]
  refine got_call (Of_spec (x1.ro ro2).reads (by omega)) ?_
  rintro _ h3 ⟨poy, qoy, woy, rfl, soy, coy, boy, g3, -, -⟩
  rw [n1] at soy coy
  replace S_x := S_x.growL g3.l
  have ro3 := g3.ro.trans ro2
  simp
  refine got_call (Make_s ro3 soy coy) ?_
  rintro v_y h4 ⟨w_y, p_y, q_y, S_y, c_y, b_y, g4, -, -⟩
  replace S_x := S_x.growL g4
  have ro4 := g4.ro'.trans ro3
  clear g4
  have G_y := S_y.good
  simp [k2, z2]
  refine got_call (Of_spec (x2.ro ro4).reads (by omega)) ?_
  rintro _ h5 ⟨poz, qoz, woz, rfl, soz, coz, boz, g5, -, -⟩
  rw [n2] at soz coz
  replace S_x := S_x.growL g5.l
  replace S_y := S_y.growL g5.l
  have ro5 := g5.ro.trans ro4
  simp
  refine got_call (Make_s ro5 soz coz) ?_
  rintro v_z h6 ⟨w_z, p_z, q_z, S_z, c_z, b_z, g6, -, -⟩
  replace S_x := S_x.growL g6
  replace S_y := S_y.growL g6
  have ro6 := g6.ro'.trans ro5
  clear g6
  have G_z := S_z.good
  simp [no_nil S_x, no_nil S_y, no_nil S_z, G_y, G_z]
  refine got_call (Meet2 ro6 S_x c_x S_y c_y S_z c_z) ?_
  rintro _ h7 ⟨v_m, rfl, w_m, p_m, q_m, S_m, c_m, b_m, g7, -, -⟩
  replace S_x := S_x.growL g7
  replace S_y := S_y.growL g7
  replace S_z := S_z.growL g7
  have ro7 := g7.ro'.trans ro6
  clear g7
  have G_m := S_m.good
  simp [G_x]
  refine got_call (Meet1 ro7 S_y c_y S_x c_x) ?_
  rintro _ h8 ⟨v_xy, rfl, w_xy, p_xy, q_xy, S_xy, c_xy, b_xy, g8, -, -⟩
  replace S_x := S_x.growL g8
  replace S_y := S_y.growL g8
  replace S_z := S_z.growL g8
  replace S_m := S_m.growL g8
  have ro8 := g8.ro'.trans ro7
  clear g8
  have G_xy := S_xy.good
  simp [G_xy]
  refine got_call (Meet1 ro8 S_z c_z S_xy c_xy) ?_
  rintro _ h9 ⟨v_m2, rfl, w_m2, p_m2, q_m2, S_m2, c_m2, b_m2, g9, -, -⟩
  replace S_x := S_x.growL g9
  replace S_y := S_y.growL g9
  replace S_z := S_z.growL g9
  replace S_m := S_m.growL g9
  replace S_xy := S_xy.growL g9
  have ro9 := g9.ro'.trans ro8
  clear g9
  have G_m2 := S_m2.good
  simp [G_y, G_z]
  refine got_call (Join2 ro9 S_x c_x S_y c_y S_z c_z) ?_
  rintro _ h10 ⟨v_j, rfl, w_j, p_j, q_j, S_j, c_j, b_j, g10, -, -⟩
  replace S_x := S_x.growL g10
  replace S_y := S_y.growL g10
  replace S_z := S_z.growL g10
  replace S_m := S_m.growL g10
  replace S_xy := S_xy.growL g10
  replace S_m2 := S_m2.growL g10
  have ro10 := g10.ro'.trans ro9
  clear g10
  have G_j := S_j.good
  simp [G_y]
  refine got_call (Join1 ro10 S_x c_x S_y c_y) ?_
  rintro _ h11 ⟨v_jj, rfl, w_jj, p_jj, q_jj, S_jj, c_jj, b_jj, g11, -, -⟩
  replace S_x := S_x.growL g11
  replace S_y := S_y.growL g11
  replace S_z := S_z.growL g11
  replace S_m := S_m.growL g11
  replace S_xy := S_xy.growL g11
  replace S_m2 := S_m2.growL g11
  replace S_j := S_j.growL g11
  have ro11 := g11.ro'.trans ro10
  clear g11
  have G_jj := S_jj.good
  simp [G_jj]
  refine got_call (Join1 ro11 S_z c_z S_jj c_jj) ?_
  rintro _ h12 ⟨v_j2, rfl, w_j2, p_j2, q_j2, S_j2, c_j2, b_j2, g12, -, -⟩
  replace S_x := S_x.growL g12
  replace S_y := S_y.growL g12
  replace S_z := S_z.growL g12
  replace S_m := S_m.growL g12
  replace S_xy := S_xy.growL g12
  replace S_m2 := S_m2.growL g12
  replace S_j := S_j.growL g12
  replace S_jj := S_jj.growL g12
  have ro12 := g12.ro'.trans ro11
  clear g12
  have G_j2 := S_j2.good
  simp []
  refine got_call (Less_s ro12 S_x c_x S_y c_y) ?_
  rintro _ h13 ⟨v_le, rfl, w_le, p_le, q_le, S_le, c_le, b_le, g13, -, -⟩
  replace S_x := S_x.growL g13
  replace S_y := S_y.growL g13
  replace S_z := S_z.growL g13
  replace S_m := S_m.growL g13
  replace S_xy := S_xy.growL g13
  replace S_m2 := S_m2.growL g13
  replace S_j := S_j.growL g13
  replace S_jj := S_jj.growL g13
  replace S_j2 := S_j2.growL g13
  have ro13 := g13.ro'.trans ro12
  clear g13
  have G_le := S_le.good
  simp []
  refine got_call (Not_s ro13 S_y c_y) ?_
  rintro v_ny h14 ⟨w_ny, p_ny, q_ny, S_ny, c_ny, b_ny, g14, -, -⟩
  replace S_x := S_x.growL g14
  replace S_y := S_y.growL g14
  replace S_z := S_z.growL g14
  replace S_m := S_m.growL g14
  replace S_xy := S_xy.growL g14
  replace S_m2 := S_m2.growL g14
  replace S_j := S_j.growL g14
  replace S_jj := S_jj.growL g14
  replace S_j2 := S_j2.growL g14
  replace S_le := S_le.growL g14
  have ro14 := g14.ro'.trans ro13
  clear g14
  have G_ny := S_ny.good
  simp [G_ny]
  refine got_call (Meet1 ro14 S_x c_x S_ny c_ny) ?_
  rintro _ h15 ⟨v_al, rfl, w_al, p_al, q_al, S_al, c_al, b_al, g15, -, -⟩
  replace S_x := S_x.growL g15
  replace S_y := S_y.growL g15
  replace S_z := S_z.growL g15
  replace S_m := S_m.growL g15
  replace S_xy := S_xy.growL g15
  replace S_m2 := S_m2.growL g15
  replace S_j := S_j.growL g15
  replace S_jj := S_jj.growL g15
  replace S_j2 := S_j2.growL g15
  replace S_le := S_le.growL g15
  replace S_ny := S_ny.growL g15
  have ro15 := g15.ro'.trans ro14
  clear g15
  have G_al := S_al.good
  simp []
  refine got_call (Not_s ro15 S_x c_x) ?_
  rintro v_nx h16 ⟨w_nx, p_nx, q_nx, S_nx, c_nx, b_nx, g16, -, -⟩
  replace S_x := S_x.growL g16
  replace S_y := S_y.growL g16
  replace S_z := S_z.growL g16
  replace S_m := S_m.growL g16
  replace S_xy := S_xy.growL g16
  replace S_m2 := S_m2.growL g16
  replace S_j := S_j.growL g16
  replace S_jj := S_jj.growL g16
  replace S_j2 := S_j2.growL g16
  replace S_le := S_le.growL g16
  replace S_ny := S_ny.growL g16
  replace S_al := S_al.growL g16
  have ro16 := g16.ro'.trans ro15
  clear g16
  have G_nx := S_nx.good
  simp []
  refine got_call (Not_s ro16 S_y c_y) ?_
  rintro v_nz h17 ⟨w_nz, p_nz, q_nz, S_nz, c_nz, b_nz, g17, -, -⟩
  replace S_x := S_x.growL g17
  replace S_y := S_y.growL g17
  replace S_z := S_z.growL g17
  replace S_m := S_m.growL g17
  replace S_xy := S_xy.growL g17
  replace S_m2 := S_m2.growL g17
  replace S_j := S_j.growL g17
  replace S_jj := S_jj.growL g17
  replace S_j2 := S_j2.growL g17
  replace S_le := S_le.growL g17
  replace S_ny := S_ny.growL g17
  replace S_al := S_al.growL g17
  replace S_nx := S_nx.growL g17
  have ro17 := g17.ro'.trans ro16
  clear g17
  have G_nz := S_nz.good
  simp [G_nz]
  refine got_call (Meet1 ro17 S_nx c_nx S_nz c_nz) ?_
  rintro _ h18 ⟨v_nt, rfl, w_nt, p_nt, q_nt, S_nt, c_nt, b_nt, g18, -, -⟩
  replace S_x := S_x.growL g18
  replace S_y := S_y.growL g18
  replace S_z := S_z.growL g18
  replace S_m := S_m.growL g18
  replace S_xy := S_xy.growL g18
  replace S_m2 := S_m2.growL g18
  replace S_j := S_j.growL g18
  replace S_jj := S_jj.growL g18
  replace S_j2 := S_j2.growL g18
  replace S_le := S_le.growL g18
  replace S_ny := S_ny.growL g18
  replace S_al := S_al.growL g18
  replace S_nx := S_nx.growL g18
  replace S_nz := S_nz.growL g18
  have ro18 := g18.ro'.trans ro17
  clear g18
  have G_nt := S_nt.good
  simp []
  refine got_list ro18 S_x c_x fun u qu h19 ou g19 _ _ => ?_
  replace S_x := S_x.growL g19
  replace S_y := S_y.growL g19
  replace S_z := S_z.growL g19
  replace S_m := S_m.growL g19
  replace S_xy := S_xy.growL g19
  replace S_m2 := S_m2.growL g19
  replace S_j := S_j.growL g19
  replace S_jj := S_jj.growL g19
  replace S_j2 := S_j2.growL g19
  replace S_le := S_le.growL g19
  replace S_ny := S_ny.growL g19
  replace S_al := S_al.growL g19
  replace S_nx := S_nx.growL g19
  replace S_nz := S_nz.growL g19
  replace S_nt := S_nt.growL g19
  have ro19 := g19.ro'.trans ro18
  simp
  refine got_call (At_s ro19 (by omega) ou.reads (by have := filt_le (bit w_x) n; omega) (filt_sorted _ _) (fun x hx => (filt_mem.1 hx).1)) ?_
  rintro _ h20 ⟨v_ag, rfl, w_ag, p_ag, q_ag, S_ag, c_ag, b_ag, g20, -, -⟩
  replace S_x := S_x.growL g20
  replace S_y := S_y.growL g20
  replace S_z := S_z.growL g20
  replace S_m := S_m.growL g20
  replace S_xy := S_xy.growL g20
  replace S_m2 := S_m2.growL g20
  replace S_j := S_j.growL g20
  replace S_jj := S_jj.growL g20
  replace S_j2 := S_j2.growL g20
  replace S_le := S_le.growL g20
  replace S_ny := S_ny.growL g20
  replace S_al := S_al.growL g20
  replace S_nx := S_nx.growL g20
  replace S_nz := S_nz.growL g20
  replace S_nt := S_nt.growL g20
  have ro20 := g20.ro'.trans ro19
  clear g20
  have G_ag := S_ag.good
  simp []
  refine got_call (Less_s ro20 S_x c_x S_x c_x) ?_
  rintro _ h21 ⟨v_no, rfl, w_no, p_no, q_no, S_no, c_no, b_no, g21, -, -⟩
  replace S_x := S_x.growL g21
  replace S_y := S_y.growL g21
  replace S_z := S_z.growL g21
  replace S_m := S_m.growL g21
  replace S_xy := S_xy.growL g21
  replace S_m2 := S_m2.growL g21
  replace S_j := S_j.growL g21
  replace S_jj := S_jj.growL g21
  replace S_j2 := S_j2.growL g21
  replace S_le := S_le.growL g21
  replace S_ny := S_ny.growL g21
  replace S_al := S_al.growL g21
  replace S_nx := S_nx.growL g21
  replace S_nz := S_nz.growL g21
  replace S_nt := S_nt.growL g21
  replace S_ag := S_ag.growL g21
  have ro21 := g21.ro'.trans ro20
  clear g21
  have G_no := S_no.good
  simp []
  refine got_call (Not_s ro21 S_x c_x) ?_
  rintro v_nw h22 ⟨w_nw, p_nw, q_nw, S_nw, c_nw, b_nw, g22, -, -⟩
  replace S_x := S_x.growL g22
  replace S_y := S_y.growL g22
  replace S_z := S_z.growL g22
  replace S_m := S_m.growL g22
  replace S_xy := S_xy.growL g22
  replace S_m2 := S_m2.growL g22
  replace S_j := S_j.growL g22
  replace S_jj := S_jj.growL g22
  replace S_j2 := S_j2.growL g22
  replace S_le := S_le.growL g22
  replace S_ny := S_ny.growL g22
  replace S_al := S_al.growL g22
  replace S_nx := S_nx.growL g22
  replace S_nz := S_nz.growL g22
  replace S_nt := S_nt.growL g22
  replace S_ag := S_ag.growL g22
  replace S_no := S_no.growL g22
  have ro22 := g22.ro'.trans ro21
  clear g22
  have G_nw := S_nw.good
  simp [G_nw]
  refine got_call (Join1 ro22 S_x c_x S_nw c_nw) ?_
  rintro _ h23 ⟨v_an, rfl, w_an, p_an, q_an, S_an, c_an, b_an, g23, -, -⟩
  replace S_x := S_x.growL g23
  replace S_y := S_y.growL g23
  replace S_z := S_z.growL g23
  replace S_m := S_m.growL g23
  replace S_xy := S_xy.growL g23
  replace S_m2 := S_m2.growL g23
  replace S_j := S_j.growL g23
  replace S_jj := S_jj.growL g23
  replace S_j2 := S_j2.growL g23
  replace S_le := S_le.growL g23
  replace S_ny := S_ny.growL g23
  replace S_al := S_al.growL g23
  replace S_nx := S_nx.growL g23
  replace S_nz := S_nz.growL g23
  replace S_nt := S_nt.growL g23
  replace S_ag := S_ag.growL g23
  replace S_no := S_no.growL g23
  replace S_nw := S_nw.growL g23
  have ro23 := g23.ro'.trans ro22
  clear g23
  have G_an := S_an.good
  simp [skipV]
  refine got_call (alike_m ro23 S_m c_m S_m2 c_m2 (fun i hi => by have := 0; have em := b_m i hi; have em2 := b_m2 i hi; have exy := b_xy i hi; first | (simp only [em, em2, exy]; done) | (simp only [em, em2, exy]; cases bit w_x i <;> cases bit w_y i <;> cases bit w_z i <;> rfl))) ?_
  rintro _ h24 ⟨rfl, g24⟩
  replace S_x := S_x.growL g24
  replace S_y := S_y.growL g24
  replace S_z := S_z.growL g24
  replace S_m := S_m.growL g24
  replace S_xy := S_xy.growL g24
  replace S_m2 := S_m2.growL g24
  replace S_j := S_j.growL g24
  replace S_jj := S_jj.growL g24
  replace S_j2 := S_j2.growL g24
  replace S_le := S_le.growL g24
  replace S_ny := S_ny.growL g24
  replace S_al := S_al.growL g24
  replace S_nx := S_nx.growL g24
  replace S_nz := S_nz.growL g24
  replace S_nt := S_nt.growL g24
  replace S_ag := S_ag.growL g24
  replace S_no := S_no.growL g24
  replace S_nw := S_nw.growL g24
  replace S_an := S_an.growL g24
  have ro24 := g24.ro'.trans ro23
  simp []
  refine got_call (alike_m ro24 S_j c_j S_j2 c_j2 (fun i hi => by have := 0; have ej := b_j i hi; have ej2 := b_j2 i hi; have ejj := b_jj i hi; first | (simp only [ej, ej2, ejj]; done) | (simp only [ej, ej2, ejj]; cases bit w_x i <;> cases bit w_y i <;> cases bit w_z i <;> rfl))) ?_
  rintro _ h25 ⟨rfl, g25⟩
  replace S_x := S_x.growL g25
  replace S_y := S_y.growL g25
  replace S_z := S_z.growL g25
  replace S_m := S_m.growL g25
  replace S_xy := S_xy.growL g25
  replace S_m2 := S_m2.growL g25
  replace S_j := S_j.growL g25
  replace S_jj := S_jj.growL g25
  replace S_j2 := S_j2.growL g25
  replace S_le := S_le.growL g25
  replace S_ny := S_ny.growL g25
  replace S_al := S_al.growL g25
  replace S_nx := S_nx.growL g25
  replace S_nz := S_nz.growL g25
  replace S_nt := S_nt.growL g25
  replace S_ag := S_ag.growL g25
  replace S_no := S_no.growL g25
  replace S_nw := S_nw.growL g25
  replace S_an := S_an.growL g25
  have ro25 := g25.ro'.trans ro24
  simp []
  refine got_call (alike_m ro25 S_le c_le S_al c_al (fun i hi => by have := 0; have ele := b_le i hi; have eal := b_al i hi; have eny := b_ny i hi; first | (simp only [ele, eal, eny]; done) | (simp only [ele, eal, eny]; cases bit w_x i <;> cases bit w_y i <;> cases bit w_z i <;> rfl))) ?_
  rintro _ h26 ⟨rfl, g26⟩
  replace S_x := S_x.growL g26
  replace S_y := S_y.growL g26
  replace S_z := S_z.growL g26
  replace S_m := S_m.growL g26
  replace S_xy := S_xy.growL g26
  replace S_m2 := S_m2.growL g26
  replace S_j := S_j.growL g26
  replace S_jj := S_jj.growL g26
  replace S_j2 := S_j2.growL g26
  replace S_le := S_le.growL g26
  replace S_ny := S_ny.growL g26
  replace S_al := S_al.growL g26
  replace S_nx := S_nx.growL g26
  replace S_nz := S_nz.growL g26
  replace S_nt := S_nt.growL g26
  replace S_ag := S_ag.growL g26
  replace S_no := S_no.growL g26
  replace S_nw := S_nw.growL g26
  replace S_an := S_an.growL g26
  have ro26 := g26.ro'.trans ro25
  simp []
  refine got_call (Not_s ro26 S_jj c_jj) ?_
  rintro v_nj h27 ⟨w_nj, p_nj, q_nj, S_nj, c_nj, b_nj, g27, -, -⟩
  replace S_x := S_x.growL g27
  replace S_y := S_y.growL g27
  replace S_z := S_z.growL g27
  replace S_m := S_m.growL g27
  replace S_xy := S_xy.growL g27
  replace S_m2 := S_m2.growL g27
  replace S_j := S_j.growL g27
  replace S_jj := S_jj.growL g27
  replace S_j2 := S_j2.growL g27
  replace S_le := S_le.growL g27
  replace S_ny := S_ny.growL g27
  replace S_al := S_al.growL g27
  replace S_nx := S_nx.growL g27
  replace S_nz := S_nz.growL g27
  replace S_nt := S_nt.growL g27
  replace S_ag := S_ag.growL g27
  replace S_no := S_no.growL g27
  replace S_nw := S_nw.growL g27
  replace S_an := S_an.growL g27
  have ro27 := g27.ro'.trans ro26
  clear g27
  have G_nj := S_nj.good
  simp []
  refine got_call (alike_m ro27 S_nt c_nt S_nj c_nj (fun i hi => by have := 0; have ent := b_nt i hi; have enj := b_nj i hi; have ejj := b_jj i hi; have enx := b_nx i hi; have enz := b_nz i hi; first | (simp only [ent, enj, ejj, enx, enz]; done) | (simp only [ent, enj, ejj, enx, enz]; cases bit w_x i <;> cases bit w_y i <;> cases bit w_z i <;> rfl))) ?_
  rintro _ h28 ⟨rfl, g28⟩
  replace S_x := S_x.growL g28
  replace S_y := S_y.growL g28
  replace S_z := S_z.growL g28
  replace S_m := S_m.growL g28
  replace S_xy := S_xy.growL g28
  replace S_m2 := S_m2.growL g28
  replace S_j := S_j.growL g28
  replace S_jj := S_jj.growL g28
  replace S_j2 := S_j2.growL g28
  replace S_le := S_le.growL g28
  replace S_ny := S_ny.growL g28
  replace S_al := S_al.growL g28
  replace S_nx := S_nx.growL g28
  replace S_nz := S_nz.growL g28
  replace S_nt := S_nt.growL g28
  replace S_ag := S_ag.growL g28
  replace S_no := S_no.growL g28
  replace S_nw := S_nw.growL g28
  replace S_an := S_an.growL g28
  replace S_nj := S_nj.growL g28
  have ro28 := g28.ro'.trans ro27
  simp []
  refine got_count S_xy c_xy fun h29 g29 => ?_
  replace S_x := S_x.growL g29.l
  replace S_y := S_y.growL g29.l
  replace S_z := S_z.growL g29.l
  replace S_m := S_m.growL g29.l
  replace S_xy := S_xy.growL g29.l
  replace S_m2 := S_m2.growL g29.l
  replace S_j := S_j.growL g29.l
  replace S_jj := S_jj.growL g29.l
  replace S_j2 := S_j2.growL g29.l
  replace S_le := S_le.growL g29.l
  replace S_ny := S_ny.growL g29.l
  replace S_al := S_al.growL g29.l
  replace S_nx := S_nx.growL g29.l
  replace S_nz := S_nz.growL g29.l
  replace S_nt := S_nt.growL g29.l
  replace S_ag := S_ag.growL g29.l
  replace S_no := S_no.growL g29.l
  replace S_nw := S_nw.growL g29.l
  replace S_an := S_an.growL g29.l
  replace S_nj := S_nj.growL g29.l
  have ro29 := g29.ro.trans ro28
  simp
  refine got_count S_jj c_jj fun h30 g30 => ?_
  replace S_x := S_x.growL g30.l
  replace S_y := S_y.growL g30.l
  replace S_z := S_z.growL g30.l
  replace S_m := S_m.growL g30.l
  replace S_xy := S_xy.growL g30.l
  replace S_m2 := S_m2.growL g30.l
  replace S_j := S_j.growL g30.l
  replace S_jj := S_jj.growL g30.l
  replace S_j2 := S_j2.growL g30.l
  replace S_le := S_le.growL g30.l
  replace S_ny := S_ny.growL g30.l
  replace S_al := S_al.growL g30.l
  replace S_nx := S_nx.growL g30.l
  replace S_nz := S_nz.growL g30.l
  replace S_nt := S_nt.growL g30.l
  replace S_ag := S_ag.growL g30.l
  replace S_no := S_no.growL g30.l
  replace S_nw := S_nw.growL g30.l
  replace S_an := S_an.growL g30.l
  replace S_nj := S_nj.growL g30.l
  have ro30 := g30.ro.trans ro29
  simp
  refine got_count S_x c_x fun h31 g31 => ?_
  replace S_x := S_x.growL g31.l
  replace S_y := S_y.growL g31.l
  replace S_z := S_z.growL g31.l
  replace S_m := S_m.growL g31.l
  replace S_xy := S_xy.growL g31.l
  replace S_m2 := S_m2.growL g31.l
  replace S_j := S_j.growL g31.l
  replace S_jj := S_jj.growL g31.l
  replace S_j2 := S_j2.growL g31.l
  replace S_le := S_le.growL g31.l
  replace S_ny := S_ny.growL g31.l
  replace S_al := S_al.growL g31.l
  replace S_nx := S_nx.growL g31.l
  replace S_nz := S_nz.growL g31.l
  replace S_nt := S_nt.growL g31.l
  replace S_ag := S_ag.growL g31.l
  replace S_no := S_no.growL g31.l
  replace S_nw := S_nw.growL g31.l
  replace S_an := S_an.growL g31.l
  replace S_nj := S_nj.growL g31.l
  have ro31 := g31.ro.trans ro30
  simp
  refine got_count S_y c_y fun h32 g32 => ?_
  replace S_x := S_x.growL g32.l
  replace S_y := S_y.growL g32.l
  replace S_z := S_z.growL g32.l
  replace S_m := S_m.growL g32.l
  replace S_xy := S_xy.growL g32.l
  replace S_m2 := S_m2.growL g32.l
  replace S_j := S_j.growL g32.l
  replace S_jj := S_jj.growL g32.l
  replace S_j2 := S_j2.growL g32.l
  replace S_le := S_le.growL g32.l
  replace S_ny := S_ny.growL g32.l
  replace S_al := S_al.growL g32.l
  replace S_nx := S_nx.growL g32.l
  replace S_nz := S_nz.growL g32.l
  replace S_nt := S_nt.growL g32.l
  replace S_ag := S_ag.growL g32.l
  replace S_no := S_no.growL g32.l
  replace S_nw := S_nw.growL g32.l
  replace S_an := S_an.growL g32.l
  replace S_nj := S_nj.growL g32.l
  have ro32 := g32.ro.trans ro31
  have hco : cnt (bit w_xy) n + cnt (bit w_jj) n = cnt (bit w_x) n + cnt (bit w_y) n := cnt_and_or (bit w_x) (bit w_y) (bit w_xy) (bit w_jj) (fun i => by
    by_cases hi : i < n
    · rw [b_xy i hi, Bool.and_comm]
    · rw [c_xy.out i (by omega), c_x.out i (by omega)]; rfl) (fun i => by
    by_cases hi : i < n
    · rw [b_jj i hi]
    · rw [c_jj.out i (by omega), c_x.out i (by omega), c_y.out i (by omega)]; rfl) n
  have cx := cnt_le (bit w_x) n
  have cy := cnt_le (bit w_y) n
  have u1 : IntKind.i64.wrap ((cnt (bit w_xy) n : Int) + cnt (bit w_jj) n) = ((cnt (bit w_x) n + cnt (bit w_y) n : Nat) : Int) := by rw [wrap_i64 (by omega) (by omega)]; omega
  have u2 : IntKind.i64.wrap ((cnt (bit w_x) n : Int) + cnt (bit w_y) n) = ((cnt (bit w_x) n + cnt (bit w_y) n : Nat) : Int) := by rw [wrap_i64 (by omega) (by omega)]; omega
  simp [u1, u2]
  have e_ag : ∀ i, i < n → bit w_ag i = bit w_x i := fun i hi => by
    have e := b_ag i hi
    simp only at e
    rw [e]
    by_cases hb : bit w_x i = true
    · rw [hb]; exact decide_eq_true (filt_mem.2 ⟨hi, hb⟩)
    · have h2 : bit w_x i = false := by
        cases h : bit w_x i
        · rfl
        · exact absurd h hb
      rw [h2]; exact decide_eq_false fun h => hb (filt_mem.1 h).2
  refine got_call (alike_m ro32 S_ag c_ag S_x c_x (fun i hi => by exact e_ag i hi)) ?_
  rintro _ h33 ⟨rfl, g33⟩
  replace S_x := S_x.growL g33
  replace S_y := S_y.growL g33
  replace S_z := S_z.growL g33
  replace S_m := S_m.growL g33
  replace S_xy := S_xy.growL g33
  replace S_m2 := S_m2.growL g33
  replace S_j := S_j.growL g33
  replace S_jj := S_jj.growL g33
  replace S_j2 := S_j2.growL g33
  replace S_le := S_le.growL g33
  replace S_ny := S_ny.growL g33
  replace S_al := S_al.growL g33
  replace S_nx := S_nx.growL g33
  replace S_nz := S_nz.growL g33
  replace S_nt := S_nt.growL g33
  replace S_ag := S_ag.growL g33
  replace S_no := S_no.growL g33
  replace S_nw := S_nw.growL g33
  replace S_an := S_an.growL g33
  replace S_nj := S_nj.growL g33
  have ro33 := g33.ro'.trans ro32
  simp []
  refine got_bits S_x c_x fun pb qb h34 sb g34 _ _ => ?_
  replace S_x := S_x.growL g34.l
  replace S_y := S_y.growL g34.l
  replace S_z := S_z.growL g34.l
  replace S_m := S_m.growL g34.l
  replace S_xy := S_xy.growL g34.l
  replace S_m2 := S_m2.growL g34.l
  replace S_j := S_j.growL g34.l
  replace S_jj := S_jj.growL g34.l
  replace S_j2 := S_j2.growL g34.l
  replace S_le := S_le.growL g34.l
  replace S_ny := S_ny.growL g34.l
  replace S_al := S_al.growL g34.l
  replace S_nx := S_nx.growL g34.l
  replace S_nz := S_nz.growL g34.l
  replace S_nt := S_nt.growL g34.l
  replace S_ag := S_ag.growL g34.l
  replace S_no := S_no.growL g34.l
  replace S_nw := S_nw.growL g34.l
  replace S_an := S_an.growL g34.l
  replace S_nj := S_nj.growL g34.l
  have ro34 := g34.ro.trans ro33
  simp
  refine got_call (Make_s ro34 sb c_x) ?_
  rintro v_mb h35 ⟨w_mb, p_mb, q_mb, S_mb, c_mb, b_mb, g35, -, -⟩
  replace S_x := S_x.growL g35
  replace S_y := S_y.growL g35
  replace S_z := S_z.growL g35
  replace S_m := S_m.growL g35
  replace S_xy := S_xy.growL g35
  replace S_m2 := S_m2.growL g35
  replace S_j := S_j.growL g35
  replace S_jj := S_jj.growL g35
  replace S_j2 := S_j2.growL g35
  replace S_le := S_le.growL g35
  replace S_ny := S_ny.growL g35
  replace S_al := S_al.growL g35
  replace S_nx := S_nx.growL g35
  replace S_nz := S_nz.growL g35
  replace S_nt := S_nt.growL g35
  replace S_ag := S_ag.growL g35
  replace S_no := S_no.growL g35
  replace S_nw := S_nw.growL g35
  replace S_an := S_an.growL g35
  replace S_nj := S_nj.growL g35
  have ro35 := g35.ro'.trans ro34
  clear g35
  have G_mb := S_mb.good
  simp []
  refine got_call (alike_m ro35 S_mb c_mb S_x c_x (fun i hi => by exact b_mb i hi)) ?_
  rintro _ h36 ⟨rfl, g36⟩
  replace S_x := S_x.growL g36
  replace S_y := S_y.growL g36
  replace S_z := S_z.growL g36
  replace S_m := S_m.growL g36
  replace S_xy := S_xy.growL g36
  replace S_m2 := S_m2.growL g36
  replace S_j := S_j.growL g36
  replace S_jj := S_jj.growL g36
  replace S_j2 := S_j2.growL g36
  replace S_le := S_le.growL g36
  replace S_ny := S_ny.growL g36
  replace S_al := S_al.growL g36
  replace S_nx := S_nx.growL g36
  replace S_nz := S_nz.growL g36
  replace S_nt := S_nt.growL g36
  replace S_ag := S_ag.growL g36
  replace S_no := S_no.growL g36
  replace S_nw := S_nw.growL g36
  replace S_an := S_an.growL g36
  replace S_nj := S_nj.growL g36
  replace S_mb := S_mb.growL g36
  have ro36 := g36.ro'.trans ro35
  simp []
  refine got_call (Not_s ro36 S_x c_x) ?_
  rintro v_n1 h37 ⟨w_n1, p_n1, q_n1, S_n1, c_n1, b_n1, g37, -, -⟩
  replace S_x := S_x.growL g37
  replace S_y := S_y.growL g37
  replace S_z := S_z.growL g37
  replace S_m := S_m.growL g37
  replace S_xy := S_xy.growL g37
  replace S_m2 := S_m2.growL g37
  replace S_j := S_j.growL g37
  replace S_jj := S_jj.growL g37
  replace S_j2 := S_j2.growL g37
  replace S_le := S_le.growL g37
  replace S_ny := S_ny.growL g37
  replace S_al := S_al.growL g37
  replace S_nx := S_nx.growL g37
  replace S_nz := S_nz.growL g37
  replace S_nt := S_nt.growL g37
  replace S_ag := S_ag.growL g37
  replace S_no := S_no.growL g37
  replace S_nw := S_nw.growL g37
  replace S_an := S_an.growL g37
  replace S_nj := S_nj.growL g37
  replace S_mb := S_mb.growL g37
  have ro37 := g37.ro'.trans ro36
  clear g37
  have G_n1 := S_n1.good
  simp []
  refine got_call (Not_s ro37 S_n1 c_n1) ?_
  rintro v_n2 h38 ⟨w_n2, p_n2, q_n2, S_n2, c_n2, b_n2, g38, -, -⟩
  replace S_x := S_x.growL g38
  replace S_y := S_y.growL g38
  replace S_z := S_z.growL g38
  replace S_m := S_m.growL g38
  replace S_xy := S_xy.growL g38
  replace S_m2 := S_m2.growL g38
  replace S_j := S_j.growL g38
  replace S_jj := S_jj.growL g38
  replace S_j2 := S_j2.growL g38
  replace S_le := S_le.growL g38
  replace S_ny := S_ny.growL g38
  replace S_al := S_al.growL g38
  replace S_nx := S_nx.growL g38
  replace S_nz := S_nz.growL g38
  replace S_nt := S_nt.growL g38
  replace S_ag := S_ag.growL g38
  replace S_no := S_no.growL g38
  replace S_nw := S_nw.growL g38
  replace S_an := S_an.growL g38
  replace S_nj := S_nj.growL g38
  replace S_mb := S_mb.growL g38
  replace S_n1 := S_n1.growL g38
  have ro38 := g38.ro'.trans ro37
  clear g38
  have G_n2 := S_n2.good
  simp []
  refine got_call (alike_m ro38 S_n2 c_n2 S_x c_x (fun i hi => by have := 0; have en2 := b_n2 i hi; have en1 := b_n1 i hi; first | (simp only [en2, en1]; done) | (simp only [en2, en1]; cases bit w_x i <;> cases bit w_y i <;> cases bit w_z i <;> rfl))) ?_
  rintro _ h39 ⟨rfl, g39⟩
  replace S_x := S_x.growL g39
  replace S_y := S_y.growL g39
  replace S_z := S_z.growL g39
  replace S_m := S_m.growL g39
  replace S_xy := S_xy.growL g39
  replace S_m2 := S_m2.growL g39
  replace S_j := S_j.growL g39
  replace S_jj := S_jj.growL g39
  replace S_j2 := S_j2.growL g39
  replace S_le := S_le.growL g39
  replace S_ny := S_ny.growL g39
  replace S_al := S_al.growL g39
  replace S_nx := S_nx.growL g39
  replace S_nz := S_nz.growL g39
  replace S_nt := S_nt.growL g39
  replace S_ag := S_ag.growL g39
  replace S_no := S_no.growL g39
  replace S_nw := S_nw.growL g39
  replace S_an := S_an.growL g39
  replace S_nj := S_nj.growL g39
  replace S_mb := S_mb.growL g39
  replace S_n1 := S_n1.growL g39
  replace S_n2 := S_n2.growL g39
  have ro39 := g39.ro'.trans ro38
  simp []
  refine got_call (None_s ro39 (n := n) (by omega)) ?_
  rintro v_nn h40 ⟨w_nn, p_nn, q_nn, S_nn, c_nn, b_nn, g40, -, -⟩
  replace S_x := S_x.growL g40
  replace S_y := S_y.growL g40
  replace S_z := S_z.growL g40
  replace S_m := S_m.growL g40
  replace S_xy := S_xy.growL g40
  replace S_m2 := S_m2.growL g40
  replace S_j := S_j.growL g40
  replace S_jj := S_jj.growL g40
  replace S_j2 := S_j2.growL g40
  replace S_le := S_le.growL g40
  replace S_ny := S_ny.growL g40
  replace S_al := S_al.growL g40
  replace S_nx := S_nx.growL g40
  replace S_nz := S_nz.growL g40
  replace S_nt := S_nt.growL g40
  replace S_ag := S_ag.growL g40
  replace S_no := S_no.growL g40
  replace S_nw := S_nw.growL g40
  replace S_an := S_an.growL g40
  replace S_nj := S_nj.growL g40
  replace S_mb := S_mb.growL g40
  replace S_n1 := S_n1.growL g40
  replace S_n2 := S_n2.growL g40
  have ro40 := g40.ro'.trans ro39
  clear g40
  have G_nn := S_nn.good
  simp []
  refine got_call (alike_m ro40 S_no c_no S_nn c_nn (fun i hi => by have := 0; have eno := b_no i hi; have enn := b_nn i hi; first | (simp only [eno, enn]; done) | (simp only [eno, enn]; cases bit w_x i <;> cases bit w_y i <;> cases bit w_z i <;> rfl))) ?_
  rintro _ h41 ⟨rfl, g41⟩
  replace S_x := S_x.growL g41
  replace S_y := S_y.growL g41
  replace S_z := S_z.growL g41
  replace S_m := S_m.growL g41
  replace S_xy := S_xy.growL g41
  replace S_m2 := S_m2.growL g41
  replace S_j := S_j.growL g41
  replace S_jj := S_jj.growL g41
  replace S_j2 := S_j2.growL g41
  replace S_le := S_le.growL g41
  replace S_ny := S_ny.growL g41
  replace S_al := S_al.growL g41
  replace S_nx := S_nx.growL g41
  replace S_nz := S_nz.growL g41
  replace S_nt := S_nt.growL g41
  replace S_ag := S_ag.growL g41
  replace S_no := S_no.growL g41
  replace S_nw := S_nw.growL g41
  replace S_an := S_an.growL g41
  replace S_nj := S_nj.growL g41
  replace S_mb := S_mb.growL g41
  replace S_n1 := S_n1.growL g41
  replace S_n2 := S_n2.growL g41
  replace S_nn := S_nn.growL g41
  have ro41 := g41.ro'.trans ro40
  simp []
  refine got_call (Whole_s ro41 (n := n) (by omega)) ?_
  rintro v_ww h42 ⟨w_ww, p_ww, q_ww, S_ww, c_ww, b_ww, g42, -, -⟩
  replace S_x := S_x.growL g42
  replace S_y := S_y.growL g42
  replace S_z := S_z.growL g42
  replace S_m := S_m.growL g42
  replace S_xy := S_xy.growL g42
  replace S_m2 := S_m2.growL g42
  replace S_j := S_j.growL g42
  replace S_jj := S_jj.growL g42
  replace S_j2 := S_j2.growL g42
  replace S_le := S_le.growL g42
  replace S_ny := S_ny.growL g42
  replace S_al := S_al.growL g42
  replace S_nx := S_nx.growL g42
  replace S_nz := S_nz.growL g42
  replace S_nt := S_nt.growL g42
  replace S_ag := S_ag.growL g42
  replace S_no := S_no.growL g42
  replace S_nw := S_nw.growL g42
  replace S_an := S_an.growL g42
  replace S_nj := S_nj.growL g42
  replace S_mb := S_mb.growL g42
  replace S_n1 := S_n1.growL g42
  replace S_n2 := S_n2.growL g42
  replace S_nn := S_nn.growL g42
  have ro42 := g42.ro'.trans ro41
  clear g42
  have G_ww := S_ww.good
  simp []
  refine got_call (alike_m ro42 S_an c_an S_ww c_ww (fun i hi => by have e1 : bit w_an i = (bit w_x i || bit w_nw i) := b_an i hi; have e2 : bit w_nw i = !bit w_x i := b_nw i hi; have e3 : bit w_ww i = true := b_ww i hi; rw [e1, e2, e3]; cases bit w_x i <;> rfl)) ?_
  rintro _ h43 ⟨rfl, g43⟩
  replace S_x := S_x.growL g43
  replace S_y := S_y.growL g43
  replace S_z := S_z.growL g43
  replace S_m := S_m.growL g43
  replace S_xy := S_xy.growL g43
  replace S_m2 := S_m2.growL g43
  replace S_j := S_j.growL g43
  replace S_jj := S_jj.growL g43
  replace S_j2 := S_j2.growL g43
  replace S_le := S_le.growL g43
  replace S_ny := S_ny.growL g43
  replace S_al := S_al.growL g43
  replace S_nx := S_nx.growL g43
  replace S_nz := S_nz.growL g43
  replace S_nt := S_nt.growL g43
  replace S_ag := S_ag.growL g43
  replace S_no := S_no.growL g43
  replace S_nw := S_nw.growL g43
  replace S_an := S_an.growL g43
  replace S_nj := S_nj.growL g43
  replace S_mb := S_mb.growL g43
  replace S_n1 := S_n1.growL g43
  replace S_n2 := S_n2.growL g43
  replace S_nn := S_nn.growL g43
  replace S_ww := S_ww.growL g43
  have ro43 := g43.ro'.trans ro42
  simp []
  exact hQ _ _ rfl

end Go.Ax
