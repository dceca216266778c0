/- Seat sel: selections compared; a selection of a list. -/
import Derived.Test.YtahllahgeldjcaaDoorSF
namespace Go.Ax
open Go.Proofs
set_option linter.unusedVariables false
set_option linter.unusedSimpArgs false
set_option maxRecDepth 100000

theorem sameI_spec {h : Heap} {v v' : Value} {xs : List Nat} (r : Reads h v (iL xs)) (r' : Reads h v' (iL xs)) (hl : xs.length ≤ 1000000000000) :
    Gives P T (.fn F_colonnadelaw04_sameInts) [v, v'] h fun r h' => r = .bool true ∧ h' = h := by
  obtain ⟨b, c, rfl, hr⟩ := r.shape
  obtain ⟨b', c', rfl, hr'⟩ := r'.shape
  simp only [iL_len] at hr hr' ⊢
  obtain ⟨N, hN⟩ : ∃ N, xs.length = N := ⟨_, rfl⟩
  rw [hN] at hr hr' hl ⊢
  refine gives_by t_colonnadelaw04_sameInts (by simp [c_colonnadelaw04_sameInts]) fun Q hQ => ?_
  simp [c_colonnadelaw04_sameInts]
  refine go_loopK (fun kk ks h2 => ∃ (i : Nat), kk = N - i ∧ i ≤ N ∧ ks = [(0, .slice b N c), (1, .slice b' N c'), (5, .int .i64 i)] ∧ h2 = h) (n := N) ⟨0, rfl, by omega, rfl, rfl⟩ (by simp) ?_
  rintro I hI kk ks e h3 ⟨i, rfl, hi, rfl, rfl⟩
  simp
  refine branch_dec (fun hlt => ?_) (fun hge => ?_)
  · have hil : i < N := by omega
    have e4 : IntKind.i64.wrap ((i : Int) + 1) = ((i + 1 : Nat) : Int) := by rw [wrap_i64 (by omega) (by omega)]; omega
    obtain ⟨a, rfl, hla⟩ := hr i hil
    obtain ⟨a', rfl, hla'⟩ := hr' i hil
    have hld := hla i _ (iL_get (by omega))
    have hld' := hla' i _ (iL_get (by omega))
    simp [hil, hld, hld', e4]
    exact ⟨N - (i + 1), by omega, hI _ _ _ _ ⟨i + 1, rfl, by omega, rfl, rfl⟩ (by simp)⟩
  · have hil : i = N := by omega
    subst hil
    simp
    exact hQ _ _ ⟨rfl, rfl⟩

theorem equal_spec {h : Heap} {v v' : Value} {xs : List Nat} (r : Reads h v (iL xs)) (r' : Reads h v' (iL xs)) (hl : xs.length ≤ 1000000000000) :
    Gives P T (.fn F_slices_Equal_int_int) [v, v'] h fun r h' => r = .bool true ∧ h' = h := by
  obtain ⟨b, c, rfl, hr⟩ := r.shape
  obtain ⟨b', c', rfl, hr'⟩ := r'.shape
  simp only [iL_len] at hr hr' ⊢
  obtain ⟨N, hN⟩ : ∃ N, xs.length = N := ⟨_, rfl⟩
  rw [hN] at hr hr' hl ⊢
  refine gives_by t_slices_Equal_int_int (by simp [c_slices_Equal_int_int]) fun Q hQ => ?_
  simp [c_slices_Equal_int_int]
  refine go_loopK (fun kk ks h2 => ∃ (i : Nat), kk = N - i ∧ i ≤ N ∧ ks = [(0, .slice b N c), (1, .slice b' N c'), (12, .int .i64 N), (13, .int .i64 i)] ∧ h2 = h) (n := N) ⟨0, rfl, by omega, rfl, rfl⟩ (by simp) ?_
  rintro I hI kk ks e h3 ⟨i, rfl, hi, rfl, rfl⟩
  simp
  refine branch_dec (fun hlt => ?_) (fun hge => ?_)
  · have hil : i < N := by omega
    have e4 : IntKind.i64.wrap ((i : Int) + 1) = ((i + 1 : Nat) : Int) := by rw [wrap_i64 (by omega) (by omega)]; omega
    obtain ⟨a, rfl, hla⟩ := hr i hil
    obtain ⟨a', rfl, hla'⟩ := hr' i hil
    have hld := hla i _ (iL_get (by omega))
    have hld' := hla' i _ (iL_get (by omega))
    simp [hil, hld, hld', e4]
    exact ⟨N - (i + 1), by omega, hI _ _ _ _ ⟨i + 1, rfl, by omega, rfl, rfl⟩ (by simp)⟩
  · have hil : i = N := by omega
    subst hil
    simp
    exact hQ _ _ ⟨rfl, rfl⟩

theorem Same_s {h : Heap} {L : Nat → Nat → Option Value} (hro : h.ro = roBlk tabG L) {v v2 : Value} {n p q p2 q2 : Nat} {ws : List (BitVec 64)} {f f2 : Bool} (S : SelV h v n ws f p q) (cn : Canon n ws) (S2 : SelV h v2 n ws f2 p2 q2) :
    Gives P T (.fn F_sel_Same) [v, v2] h fun r h' => r = .bool true ∧ GrowL h h' := by
  obtain ⟨s0, c0, ev⟩ := S.isI
  obtain ⟨s1, c1, ev2⟩ := S2.isI
  have en : ∀ x y, abinop P h .eql 25 (.iface true) x y v .nilIface = some (.bool false) := fun x y => by rw [ev]; simp
  have en2 : ∀ x y, abinop P h .eql 25 (.iface true) x y v2 .nilIface = some (.bool false) := fun x y => by rw [ev2]; simp
  have hfl := filt_le (bit ws) n
  have hn := cn.le
  refine gives_by t_sel_Same (by simp [c_sel_Same]) fun Q hQ => ?_
  simp [c_sel_Same, en, en2]
  refine got_len S fun h1 g1 => ?_
  simp
  refine got_len (S2.growL g1.l) fun h2 g2 => ?_
  simp
  refine got_count ((S.growL g1.l).growL g2.l) cn fun h3 g3 => ?_
  simp
  have G3 := (g1.trans g2).trans g3
  refine got_count (S2.growL G3.l) cn fun h4 g4 => ?_
  simp
  have G4 := G3.trans g4
  refine got_list (L := L) (G4.ro.trans hro) (S.growL G4.l) cn fun u q5 h5 o5 g5 _ _ => ?_
  simp
  have G5 : GrowL h h5 := G4.l.trans g5
  refine got_list (L := L) (G5.ro'.trans hro) (S2.growL G5) cn fun u2 q6 h6 o6 g6 _ _ => ?_
  simp
  refine got_call (equal_spec (o5.growL g6).reads o6.reads (by omega)) ?_
  rintro _ _ ⟨rfl, rfl⟩
  simp
  exact hQ _ _ ⟨rfl, GrowL.trans G5 g6⟩

theorem store_new2 {h : Heap} {a b x y : Value} (gx : goodC x = true) (gy : goodC y = true) : ∃ h', storeN (hnew h [a, b] 0) ⟨h.dyn.length, 0, some 0⟩ [x, y] = some h' ∧ Grow h h' := by
  obtain ⟨h1, e1, r1, c1, n1⟩ := (RowAt.new h [a, b] 0).store (i := 0) (x := x) (by simp) gx
  obtain ⟨h2, e2, r2, c2, n2⟩ := r1.store (i := 1) (x := y) (by simp) gy
  refine ⟨h2, ?_, (Grow.new h [a, b] 0).after (c1.trans c2) fun n hn e => by omega⟩
  simp only [storeN, e1, aadd, Nat.zero_add, e2]

theorem SelV.asrt {h : Heap} {v : Value} {n p q : Nat} {ws : List (BitVec 64)} {f : Bool} (S : SelV h v n ws f p q) : ∃ a b, goodC a = true ∧ goodC b = true ∧
    ∀ (cf : CF) (t : List Value) (h : Heap) (x : Operand), evalT t x = v → runOp P cf (.asrt x 80 none (.agg #[.int .i64 0, .slice none 0 0]) true) t h = some (.tuple #[.agg #[a, b], .bool f], h) := by
  rcases S with ⟨rfl, rfl, s⟩ | ⟨rfl, _, sl, rfl, o⟩
  · exact ⟨.int .i64 0, .slice none 0 0, by simp, by simp, fun cf t h x hx => asrt_miss hx (by decide)⟩
  · exact ⟨.int .i64 n, sl, by simp, o.good, fun cf t h x hx => asrt_hit hx⟩

theorem alike_s {h : Heap} {L : Nat → Nat → Option Value} (hro : h.ro = roBlk tabG L) {v v2 : Value} {n p q p2 q2 : Nat} {ws : List (BitVec 64)} {f : Bool} (S : SelV h v n ws f p q) (cn : Canon n ws) (S2 : SelV h v2 n ws f p2 q2) :
    Gives P T (.fn F_colonnadelaw04_alike) [v, v2] h fun r h' => r = .bool true ∧ GrowL h h' := by
  obtain ⟨s0, c0, ev⟩ := S.isI
  obtain ⟨s1, c1, ev2⟩ := S2.isI
  have en : ∀ x y, abinop P h .eql 25 (.iface true) x y v .nilIface = some (.bool false) := fun x y => by rw [ev]; simp
  have en2 : ∀ x y, abinop P h .eql 25 (.iface true) x y v2 .nilIface = some (.bool false) := fun x y => by rw [ev2]; simp
  obtain ⟨a1, b1, ga1, gb1, as1⟩ := S.asrt
  obtain ⟨a2, b2, ga2, gb2, as2⟩ := S2.asrt
  have hfl := filt_le (bit ws) n
  have hn := cn.le
  obtain ⟨h1, e1, g1⟩ := store_new2 (h := h) (a := .int .i64 0) (b := .slice none 0 0) ga1 gb1
  obtain ⟨h2, e2, g2⟩ := store_new2 (h := h1) (a := .int .i64 0) (b := .slice none 0 0) ga2 gb2
  have G2 := g1.trans g2
  refine gives_by t_colonnadelaw04_alike (by simp [c_colonnadelaw04_alike]) fun Q hQ => ?_
  simp [c_colonnadelaw04_alike, en, en2, as1, as2, e1, e2]
  refine got_len (S.growL G2.l) fun h3 g3 => ?_
  simp
  have G3 := G2.trans g3
  refine got_len (S2.growL G3.l) fun h4 g4 => ?_
  simp
  have G4 := G3.trans g4
  refine got_count (S.growL G4.l) cn fun h5 g5 => ?_
  simp
  have G5 := G4.trans g5
  refine got_count (S2.growL G5.l) cn fun h6 g6 => ?_
  simp
  have G6 := G5.trans g6
  refine got_list (L := L) (G6.ro.trans hro) (S.growL G6.l) cn fun u q7 h7 o7 g7 _ _ => ?_
  simp
  have G7 : GrowL h h7 := G6.l.trans g7
  refine got_list (L := L) (G7.ro'.trans hro) (S2.growL G7) cn fun u2 q8 h8 o8 g8 _ _ => ?_
  simp
  have G8 : GrowL h h8 := G7.trans g8
  refine got_call (sameI_spec (o7.growL g8).reads o8.reads (by omega)) ?_
  rintro _ _ ⟨rfl, rfl⟩
  rename_i h8
  simp
  refine got_call (Same_s (G8.ro'.trans hro) (S.growL G8) cn (S2.growL G8)) ?_
  rintro _ h9 ⟨rfl, g9⟩
  simp
  exact hQ _ _ ⟨rfl, GrowL.trans G8 g9⟩

/-- Two that were made anew, of the same rows, are alike. -/
theorem made_alike {h0 h1 h2 h : Heap} {L : Nat → Nat → Option Value} (hro : h.ro = roBlk tabG L) {v v2 : Value} {n : Nat} {B B2 : Nat → Bool} (m : Made h0 h1 v n B) (m2 : Made h0 h2 v2 n B2) (g1 : GrowL h1 h) (g2 : GrowL h2 h) (hB : ∀ i, i < n → B i = B2 i) :
    Gives P T (.fn F_colonnadelaw04_alike) [v, v2] h fun r h' => r = .bool true ∧ GrowL h h' := by
  obtain ⟨w, p, q, S, c, hb, _⟩ := m
  obtain ⟨w2, p2, q2, S2, c2, hb2, _⟩ := m2
  have e : w = w2 := c.ext c2 fun i hi => by rw [hb i hi, hb2 i hi, hB i hi]
  subst e
  exact alike_s hro (S.growL g1) c (S2.growL g2)

theorem filt_sorted (f : Nat → Bool) (n : Nat) : (filt f n).Pairwise (· < ·) := by unfold filt; exact List.Pairwise.filter _ List.pairwise_lt_range

theorem At_s {h : Heap} {L : Nat → Nat → Option Value} (hro : h.ro = roBlk tabG L) {vl : Value} {n : Nat} (hn : n ≤ 16777216) {xs : List Nat} (r : Reads h vl (iL xs)) (hlen : xs.length ≤ 1000000000) (hs : xs.Pairwise (· < ·)) (hb : ∀ x ∈ xs, x < n) :
    Gives P T (.fn F_sel_At) [.int .i64 n, vl] h fun t h' => ∃ v', t = .tuple #[v', .int .i64 0] ∧ Made h h' v' n (fun i => decide (i ∈ xs)) := by
  refine gives_by t_sel_At (by simp [c_sel_At]) fun Q hQ => ?_
  obtain ⟨cz, bz⟩ := canon_zero hn
  obtain ⟨b, c, rfl, hr⟩ := r.shape
  simp only [iL_len] at hr ⊢
  obtain ⟨N, hN⟩ : ∃ N, xs.length = N := ⟨_, rfl⟩
  rw [hN] at hr hlen ⊢
  simp [c_sel_At]
  refine got_call (new_spec hn) ?_
  rintro _ h2 ⟨p2, q2, rfl, s2, g2, hp2, hq2⟩
  simp [ptr]
  refine go_loopK (fun kk ks h3 => ∃ (i : Nat) (wi : List (BitVec 64)), kk = N - i ∧ i ≤ N ∧ ks = [(1, .slice b N c), (6, ptr p2), (13, .slice b N c), (14, .int .i64 N), (15, .int .i64 i)] ∧ SetAt h3 p2 q2 n wi ∧ Canon n wi ∧ (∀ j, bit wi j = decide (j ∈ xs.take i)) ∧ Grow h h3) (n := N)
    ⟨0, _, rfl, by omega, rfl, s2, cz, fun j => by rw [bz]; simp, g2⟩ (by simp [ptr]) ?_
  rintro I hI kk ks e h3 ⟨i, wi, rfl, hi, rfl, s3, c3, hb3, g3⟩
  simp
  refine branch_dec (fun hlt => ?_) (fun hge => ?_)
  · have hiN : i < N := by omega
    have e4 : IntKind.i64.wrap ((i : Int) + 1) = ((i + 1 : Nat) : Int) := by rw [wrap_i64 (by omega) (by omega)]; omega
    obtain ⟨a, rfl, hla⟩ := hr i hiN
    obtain ⟨x, hx⟩ : ∃ x, xs[i]? = some x := ⟨_, List.getElem?_eq_getElem (by omega)⟩
    have ld := hload_grow g3 (hla i (.int .i64 (x : Nat)) (by unfold iL; rw [List.getElem?_map, hx]; rfl))
    have hxn := hb x (List.mem_of_getElem? hx)
    have htk : xs.take (i + 1) = xs.take i ++ [x] := by rw [List.take_add_one, hx]; rfl
    have fin : ∀ h4 w4, SetAt h4 p2 q2 n w4 → Canon n w4 → (∀ j, bit w4 j = if j = x then true else bit wi j) → Chg (· = q2) h3 h4 →
        ∃ (i' : Nat) (wi : List (BitVec 64)), N - (i + 1) = N - i' ∧ i' ≤ N ∧ [(1, Value.slice (some a) N c), (6, ptr p2), (13, .slice (some a) N c), (14, .int .i64 N), (15, .int .i64 (i + 1 : Nat))] = [(1, Value.slice (some a) N c), (6, ptr p2), (13, .slice (some a) N c), (14, .int .i64 N), (15, .int .i64 (i' : Nat))] ∧ SetAt h4 p2 q2 n wi ∧ Canon n wi ∧ (∀ j, bit wi j = decide (j ∈ xs.take i')) ∧ Grow h h4 := fun h4 w4 s4 c4 hb4 ch4 => by
      refine ⟨i + 1, w4, rfl, by omega, rfl, s4, c4, fun j => ?_, g3.after ch4 fun n hn e => by omega⟩
      rw [hb4, hb3, htk]
      by_cases hj : j = x
      · subst hj; simp
      · simp [hj]
    by_cases hz : 0 < i
    · obtain ⟨y, hy⟩ : ∃ y, xs[i - 1]? = some y := ⟨_, List.getElem?_eq_getElem (by omega)⟩
      have ldy := hload_grow g3 (hla (i - 1) (.int .i64 (y : Nat)) (by unfold iL; rw [List.getElem?_map, hy]; rfl))
      have hyx : y < x := by
        obtain ⟨h1, e1⟩ := List.getElem?_eq_some_iff.1 hx
        obtain ⟨h2, e2⟩ := List.getElem?_eq_some_iff.1 hy
        have := List.pairwise_iff_getElem.1 hs (i - 1) i h2 h1 (by omega)
        omega
      have hz' : (0 : Int) < i := by omega
      have e3 : IntKind.i64.wrap ((i : Int) - 1) = ((i - 1 : Nat) : Int) := by rw [wrap_i64 (by omega) (by omega)]; omega
      have hi1 : i - 1 < N := by omega
      have hc : ¬ (x : Int) ≤ y := by omega
      have hc' : ¬ x ≤ y := by omega
      simp [hiN, ld, hz, hz', e3, hi1, ldy, hc, hc', skipV]
      refine got_call (Put_spec s3 c3 hxn true) ?_
      rintro _ h4 ⟨rfl, w4, s4, c4, hb4, ch4⟩
      simp [e4]
      exact ⟨N - (i + 1), by omega, hI _ _ _ _ (fin h4 w4 s4 c4 hb4 ch4) (by simp [ptr])⟩
    · have hz' : ¬ (0 : Int) < i := by omega
      simp [hiN, ld, hz, hz', skipV]
      refine got_call (Put_spec s3 c3 hxn true) ?_
      rintro _ h4 ⟨rfl, w4, s4, c4, hb4, ch4⟩
      simp [e4]
      exact ⟨N - (i + 1), by omega, hI _ _ _ _ (fin h4 w4 s4 c4 hb4 ch4) (by simp [ptr])⟩
  have hiN : i = N := by omega
  simp
  refine got_call (own_made (g3.ro.trans hro) s3 c3 g3.l hp2 hq2 (B := fun i => decide (i ∈ xs)) (fun j _ => by rw [hb3, hiN, ← hN, List.take_length])) ?_
  rintro v' h6 m6
  obtain ⟨w6, p6, q6, S6, c6, hb6, g6, hp6, hq6⟩ := m6
  simp
  exact hQ _ _ ⟨v', rfl, w6, p6, q6, S6, c6, hb6, g6, hp6, hq6⟩

end Go.Ax
