/- Seat sel: what is made of selections. -/
import Derived.Test.YtahllahgeldjcaaDoorSE
namespace Go.Ax
open Go.Proofs
set_option linter.unusedVariables false
set_option linter.unusedSimpArgs false
set_option maxRecDepth 100000

/-- A selection made anew: of n rows, these of them. -/
def Made (h h' : Heap) (v : Value) (n : Nat) (B : Nat → Bool) : Prop :=
  ∃ w p q, SelV h' v n w (fewB w n) p q ∧ Canon n w ∧ (∀ i, i < n → bit w i = B i) ∧ GrowL h h' ∧ h.dyn.length ≤ p ∧ h.dyn.length ≤ q

theorem GrowL.ro' {a b : Heap} (g : GrowL a b) : b.ro = a.ro := g.ro

theorem canon_len' {n : Nat} {ws : List (BitVec 64)} (c : Canon n ws) : ws.length ≤ 16777216 := by have := c.len; have := c.le; omega

theorem own_made {h0 h : Heap} {L : Nat → Nat → Option Value} (hro : h.ro = roBlk tabG L) {p q n : Nat} {ws : List (BitVec 64)} (s : SetAt h p q n ws) (cn : Canon n ws) (g : GrowL h0 h) (hp : h0.dyn.length ≤ p) (hq : h0.dyn.length ≤ q) {B : Nat → Bool} (hB : ∀ i, i < n → bit ws i = B i) :
    Gives P T (.fn F_sel_own) [ptr p] h fun v h' => Made h0 h' v n B := by
  refine (own_spec hro s cn).mono ?_
  rintro v h' ⟨p', q', S, g', d⟩
  have := g.len'
  exact ⟨ws, p', q', S, cn, hB, g.trans g', by omega, by omega⟩

theorem Meet_spec {h : Heap} {L : Nat → Nat → Option Value} (hro : h.ro = roBlk tabG L) {v vm : Value} {n p q : Nat} {ws : List (BitVec 64)} {f : Bool} (S : SelV h v n ws f p q) (cn : Canon n ws) {l : List SelD} (r : Reads h vm (l.map (·.v))) (hs : ∀ d ∈ l, d.ok h) (hl : l.length ≤ 1000000000) (hn : ∀ d ∈ l, d.n = n) :
    Gives P T (.fn F_sel_Meet) [v, vm] h fun t h' => ∃ v', t = .tuple #[v', .int .i64 0] ∧ Made h h' v' n (fun i => bit ws i && l.all fun d => bit d.ws i) := by
  refine gives_by t_sel_Meet (by simp [c_sel_Meet]) fun Q hQ => ?_
  simp [c_sel_Meet]
  refine got_call (look_spec S r hs hl hn) ?_
  rintro _ h1 ⟨rfl, g1⟩
  simp
  refine got_bits (S.growL g1.l) cn fun p2 q2 h2 s2 g2 hp2 hq2 => ?_
  obtain ⟨b, c, rfl, hr⟩ := r.shape
  simp only [List.length_map] at hr
  obtain ⟨N, hN⟩ : ∃ N, l.length = N := ⟨_, rfl⟩
  have l1 := g1.len
  simp only [List.length_map, hN] at hr ⊢
  rw [hN] at hl
  simp [ptr]
  refine go_loopK (fun kk ks h3 => ∃ (i pi qi : Nat) (wi : List (BitVec 64)), kk = N - i ∧ i ≤ N ∧ ks = [(7, ptr pi), (18, .slice b N c), (19, .int .i64 N), (20, .int .i64 i)] ∧ SetAt h3 pi qi n wi ∧ Canon n wi ∧ (∀ j, bit wi j = (bit ws j && (l.take i).all fun d => bit d.ws j)) ∧ Grow h h3 ∧ h.dyn.length ≤ pi ∧ h.dyn.length ≤ qi) (n := N)
    ⟨0, p2, q2, ws, rfl, by omega, rfl, s2, cn, fun j => by simp, g1.trans g2, by omega, by omega⟩ (by simp [ptr]) ?_
  rintro I hI kk ks e h3 ⟨i, pi, qi, wi, rfl, hi, rfl, s3, c3, hb3, g3, hp3, hq3⟩
  simp
  refine branch_dec (fun hlt => ?_) (fun hge => ?_)
  · have hiN : i < N := by omega
    have e4 : IntKind.i64.wrap ((i : Int) + 1) = ((i + 1 : Nat) : Int) := by rw [wrap_i64 (by omega) (by omega)]; omega
    obtain ⟨a, rfl, hla⟩ := hr i (by omega)
    obtain ⟨d, hd⟩ : ∃ d, l[i]? = some d := ⟨_, List.getElem?_eq_getElem (by omega)⟩
    have ld := hload_grow g3 (hla i d.v (by rw [List.getElem?_map, hd]; rfl))
    have hm := List.mem_of_getElem? hd
    obtain ⟨Sd, cd⟩ := hs d hm
    have dn := hn d hm
    rw [dn] at Sd cd
    simp [hiN, ld]
    refine got_call (set_spec (Sd.growL g3.l) cd) ?_
    rintro _ h4 ⟨p4, q4, rfl, s4, g4⟩
    simp
    refine got_call (And_spec (s3.grow g4) s4 c3 cd) ?_
    rintro _ h5 ⟨p5, q5, w5, rfl, s5, c5, hb5, g5, hp5, hq5⟩
    have l3 := g3.len
    have l4 := g4.len
    have htk : l.take (i + 1) = l.take i ++ [d] := by rw [List.take_add_one, hd]; rfl
    simp [e4]
    exact ⟨N - (i + 1), by omega, hI _ _ _ _ ⟨i + 1, p5, q5, w5, rfl, by omega, rfl, s5, c5, fun j => by rw [hb5, hb3, htk]; simp [Bool.and_assoc, Bool.or_assoc], (g3.trans g4).trans g5, by omega, by omega⟩ (by simp [ptr])⟩
  have hiN : i = N := by omega
  simp
  refine got_call (own_made (g3.ro.trans hro) s3 c3 g3.l hp3 hq3 (B := fun i => bit ws i && l.all fun d => bit d.ws i) (fun j _ => by rw [hb3, hiN, ← hN, List.take_length])) ?_
  rintro v' h6 m6
  obtain ⟨w6, p6, q6, S6, c6, hb6, g6, hp6, hq6⟩ := m6
  simp
  exact hQ _ _ ⟨v', rfl, w6, p6, q6, S6, c6, hb6, g6, hp6, hq6⟩

theorem Join_spec {h : Heap} {L : Nat → Nat → Option Value} (hro : h.ro = roBlk tabG L) {v vm : Value} {n p q : Nat} {ws : List (BitVec 64)} {f : Bool} (S : SelV h v n ws f p q) (cn : Canon n ws) {l : List SelD} (r : Reads h vm (l.map (·.v))) (hs : ∀ d ∈ l, d.ok h) (hl : l.length ≤ 1000000000) (hn : ∀ d ∈ l, d.n = n) :
    Gives P T (.fn F_sel_Join) [v, vm] h fun t h' => ∃ v', t = .tuple #[v', .int .i64 0] ∧ Made h h' v' n (fun i => bit ws i || l.any fun d => bit d.ws i) := by
  refine gives_by t_sel_Join (by simp [c_sel_Join]) fun Q hQ => ?_
  simp [c_sel_Join]
  refine got_call (look_spec S r hs hl hn) ?_
  rintro _ h1 ⟨rfl, g1⟩
  simp
  refine got_bits (S.growL g1.l) cn fun p2 q2 h2 s2 g2 hp2 hq2 => ?_
  obtain ⟨b, c, rfl, hr⟩ := r.shape
  simp only [List.length_map] at hr
  obtain ⟨N, hN⟩ : ∃ N, l.length = N := ⟨_, rfl⟩
  have l1 := g1.len
  simp only [List.length_map, hN] at hr ⊢
  rw [hN] at hl
  simp [ptr]
  refine go_loopK (fun kk ks h3 => ∃ (i pi qi : Nat) (wi : List (BitVec 64)), kk = N - i ∧ i ≤ N ∧ ks = [(7, ptr pi), (18, .slice b N c), (19, .int .i64 N), (20, .int .i64 i)] ∧ SetAt h3 pi qi n wi ∧ Canon n wi ∧ (∀ j, bit wi j = (bit ws j || (l.take i).any fun d => bit d.ws j)) ∧ Grow h h3 ∧ h.dyn.length ≤ pi ∧ h.dyn.length ≤ qi) (n := N)
    ⟨0, p2, q2, ws, rfl, by omega, rfl, s2, cn, fun j => by simp, g1.trans g2, by omega, by omega⟩ (by simp [ptr]) ?_
  rintro I hI kk ks e h3 ⟨i, pi, qi, wi, rfl, hi, rfl, s3, c3, hb3, g3, hp3, hq3⟩
  simp
  refine branch_dec (fun hlt => ?_) (fun hge => ?_)
  · have hiN : i < N := by omega
    have e4 : IntKind.i64.wrap ((i : Int) + 1) = ((i + 1 : Nat) : Int) := by rw [wrap_i64 (by omega) (by omega)]; omega
    obtain ⟨a, rfl, hla⟩ := hr i (by omega)
    obtain ⟨d, hd⟩ : ∃ d, l[i]? = some d := ⟨_, List.getElem?_eq_getElem (by omega)⟩
    have ld := hload_grow g3 (hla i d.v (by rw [List.getElem?_map, hd]; rfl))
    have hm := List.mem_of_getElem? hd
    obtain ⟨Sd, cd⟩ := hs d hm
    have dn := hn d hm
    rw [dn] at Sd cd
    simp [hiN, ld]
    refine got_call (set_spec (Sd.growL g3.l) cd) ?_
    rintro _ h4 ⟨p4, q4, rfl, s4, g4⟩
    simp
    refine got_call (Or_spec (s3.grow g4) s4 c3 cd) ?_
    rintro _ h5 ⟨p5, q5, w5, rfl, s5, c5, hb5, g5, hp5, hq5⟩
    have l3 := g3.len
    have l4 := g4.len
    have htk : l.take (i + 1) = l.take i ++ [d] := by rw [List.take_add_one, hd]; rfl
    simp [e4]
    exact ⟨N - (i + 1), by omega, hI _ _ _ _ ⟨i + 1, p5, q5, w5, rfl, by omega, rfl, s5, c5, fun j => by rw [hb5, hb3, htk]; simp [Bool.and_assoc, Bool.or_assoc], (g3.trans g4).trans g5, by omega, by omega⟩ (by simp [ptr])⟩
  have hiN : i = N := by omega
  simp
  refine got_call (own_made (g3.ro.trans hro) s3 c3 g3.l hp3 hq3 (B := fun i => bit ws i || l.any fun d => bit d.ws i) (fun j _ => by rw [hb3, hiN, ← hN, List.take_length])) ?_
  rintro v' h6 m6
  obtain ⟨w6, p6, q6, S6, c6, hb6, g6, hp6, hq6⟩ := m6
  simp
  exact hQ _ _ ⟨v', rfl, w6, p6, q6, S6, c6, hb6, g6, hp6, hq6⟩

theorem Less_s {h : Heap} {L : Nat → Nat → Option Value} (hro : h.ro = roBlk tabG L) {v v2 : Value} {n p q p2 q2 : Nat} {ws ws2 : List (BitVec 64)} {f f2 : Bool} (S : SelV h v n ws f p q) (cn : Canon n ws) (S2 : SelV h v2 n ws2 f2 p2 q2) (cn2 : Canon n ws2) :
    Gives P T (.fn F_sel_Less) [v, v2] h fun t h' => ∃ v', t = .tuple #[v', .int .i64 0] ∧ Made h h' v' n (fun i => bit ws i && !bit ws2 i) := by
  refine gives_by t_sel_Less (by simp [c_sel_Less]) fun Q hQ => ?_
  obtain ⟨h1, hh1⟩ : ∃ x, x = hnew h [v2] 1 := ⟨_, rfl⟩
  have g1 : Grow h h1 := by rw [hh1]; exact Grow.new _ _ _
  have row : RowAt h1 h.dyn.length 0 1 [v2] := by rw [hh1]; exact RowAt.new _ _ _
  simp [c_sel_Less, S2.good, ← hh1]
  have rd : Reads h1 (.slice (some ⟨h.dyn.length, 0, some 0⟩) 1 1) (([⟨v2, n, ws2, f2, p2, q2⟩] : List SelD).map (·.v)) := .inr ⟨⟨h.dyn.length, 0, some 0⟩, 1, by simp, fun i x hx => by simpa using row.get (by simpa using hx)⟩
  refine got_call (look_spec (S.growL g1.l) rd (by
    simp only [List.mem_cons, List.not_mem_nil, or_false]
    rintro d rfl
    exact ⟨S2.growL g1.l, cn2⟩) (by simp) (by simp)) ?_
  rintro _ h2 ⟨rfl, g2⟩
  simp
  refine got_call (set_spec ((S.growL g1.l).growL g2.l) cn) ?_
  rintro _ h3 ⟨p3, q3, rfl, s3, g3⟩
  simp
  refine got_call (set_spec (((S2.growL g1.l).growL g2.l).growL g3.l) cn2) ?_
  rintro _ h4 ⟨p4, q4, rfl, s4, g4⟩
  simp
  refine got_call (Less_spec (s3.grow g4) s4 cn cn2) ?_
  rintro _ h5 ⟨p5, q5, w5, rfl, s5, c5, hb5, g5, hp5, hq5⟩
  have G := (((g1.trans g2).trans g3).trans g4).trans g5
  have l4 := ((((g1.trans g2).trans g3).trans g4)).len
  simp
  refine got_call (own_made (G.ro.trans hro) s5 c5 G.l (by omega) (by omega) (B := fun i => bit ws i && !bit ws2 i) (fun j _ => hb5 j)) ?_
  rintro v' h6 m6
  obtain ⟨w6, p6, q6, S6, c6, hb6, g6, hp6, hq6⟩ := m6
  simp
  exact hQ _ _ ⟨v', rfl, w6, p6, q6, S6, c6, hb6, g6, hp6, hq6⟩

theorem Not_s {h : Heap} {L : Nat → Nat → Option Value} (hro : h.ro = roBlk tabG L) {v : Value} {n p q : Nat} {ws : List (BitVec 64)} {f : Bool} (S : SelV h v n ws f p q) (cn : Canon n ws) :
    Gives P T (.fn F_sel_Not) [v] h fun v' h' => Made h h' v' n (fun i => !bit ws i) := by
  refine gives_by t_sel_Not (by simp [c_sel_Not]) fun Q hQ => ?_
  obtain ⟨s0, c0, ev⟩ := S.isI
  have en : ∀ x y, abinop P h .eql 25 (.iface true) x y v .nilIface = some (.bool false) := fun x y => by rw [ev]; simp
  simp [c_sel_Not, en]
  refine got_call (set_spec S cn) ?_
  rintro _ h3 ⟨p3, q3, rfl, s3, g3⟩
  simp
  refine got_call (Not_spec s3 cn) ?_
  rintro _ h5 ⟨p5, q5, w5, rfl, s5, c5, hb5, g5, hp5, hq5⟩
  have G := g3.trans g5
  have l3 := g3.len
  simp
  refine got_call (own_made (G.ro.trans hro) s5 c5 G.l (by omega) (by omega) (B := fun i => !bit ws i) (fun j hj => by rw [hb5]; simp [hj])) ?_
  rintro v' h6 m6
  simp
  exact hQ _ _ m6

theorem Make_s {h : Heap} {L : Nat → Nat → Option Value} (hro : h.ro = roBlk tabG L) {n p q : Nat} {ws : List (BitVec 64)} (s : SetAt h p q n ws) (cn : Canon n ws) :
    Gives P T (.fn F_sel_Make) [ptr p] h fun v' h' => Made h h' v' n (bit ws) := by
  refine gives_by t_sel_Make (by simp [c_sel_Make]) fun Q hQ => ?_
  have hl := canon_len' cn
  simp [c_sel_Make, ptr]
  refine got_call (Clone_spec s hl) ?_
  rintro _ h5 ⟨p5, q5, rfl, s5, g5, hp5, hq5⟩
  simp
  refine got_call (own_made (g5.ro.trans hro) s5 cn g5.l hp5 hq5 (B := bit ws) (fun j hj => rfl)) ?_
  rintro v' h6 m6
  simp
  exact hQ _ _ m6

theorem None_s {h : Heap} {L : Nat → Nat → Option Value} (hro : h.ro = roBlk tabG L) {n : Nat} (hn : n ≤ 16777216) :
    Gives P T (.fn F_sel_None) [.int .i64 n] h fun v' h' => Made h h' v' n (fun _ => false) := by
  refine gives_by t_sel_None (by simp [c_sel_None]) fun Q hQ => ?_
  obtain ⟨cz, bz⟩ := canon_zero hn
  simp [c_sel_None]
  refine got_call (new_spec hn) ?_
  rintro _ h5 ⟨p5, q5, rfl, s5, g5, hp5, hq5⟩
  simp
  refine got_call (Make_s (g5.ro.trans hro) s5 cz) ?_
  rintro v' h6 ⟨w6, p6, q6, S6, c6, hb6, g6, hp6, hq6⟩
  have l5 := g5.len
  simp
  exact hQ _ _ ⟨w6, p6, q6, S6, c6, fun i hi => (hb6 i hi).trans (bz i), g5.l.trans g6, by omega, by omega⟩

theorem Whole_s {h : Heap} {L : Nat → Nat → Option Value} (hro : h.ro = roBlk tabG L) {n : Nat} (hn : n ≤ 16777216) :
    Gives P T (.fn F_sel_Whole) [.int .i64 n] h fun v' h' => Made h h' v' n (fun _ => true) := by
  refine gives_by t_sel_Whole (by simp [c_sel_Whole]) fun Q hQ => ?_
  simp [c_sel_Whole]
  refine got_call (None_s hro hn) ?_
  rintro v5 h5 ⟨w5, p5, q5, S5, c5, hb5, g5, hp5, hq5⟩
  simp
  refine got_call (Not_s (g5.ro'.trans hro) S5 c5) ?_
  rintro v' h6 ⟨w6, p6, q6, S6, c6, hb6, g6, hp6, hq6⟩
  have l5 := g5.len'
  simp
  exact hQ _ _ ⟨w6, p6, q6, S6, c6, fun i hi => by
    have e5 : bit w5 i = false := hb5 i hi
    have e6 : bit w6 i = !bit w5 i := hb6 i hi
    rw [e6, e5]; rfl, g5.trans g6, by omega, by omega⟩

end Go.Ax
