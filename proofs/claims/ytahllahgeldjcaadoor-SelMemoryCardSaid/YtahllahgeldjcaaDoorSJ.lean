/- Seat sel: Cut; selections of unlike lengths; thinned lists; the iterator over a list and the rule for its loop; the same selection in both forms; walks; words compared; a number looked for in a list; Has. -/
import Derived.Test.YtahllahgeldjcaaDoorSI
namespace Go.Ax
open Go.Proofs
set_option linter.unusedVariables false
set_option linter.unusedSimpArgs false
set_option maxRecDepth 100000

theorem Cut_s {h : Heap} {L : Nat → Nat → Option Value} (hro : h.ro = roBlk tabG L) {v : Value} {n p q : Nat} {ws : List (BitVec 64)} {f : Bool} (S : SelV h v n ws f p q) (cn : Canon n ws) (from_ to_ : Int) {a t : Nat} (ha : min (max from_ 0) (n : Int) = a) (ht : max (min to_ (n : Int)) a = t) :
    Gives P T (.fn F_sel_Cut) [v, .int .i64 from_, .int .i64 to_] h fun v' h' => Made h h' v' (t - a) (fun i => bit ws (a + i)) := by
  refine gives_by t_sel_Cut (by simp [c_sel_Cut]) fun Q hQ => ?_
  have en := no_nil S
  simp [c_sel_Cut, en]
  refine got_call (set_spec S cn) ?_
  rintro _ h3 ⟨p3, q3, rfl, s3, g3⟩
  simp
  refine got_call (slice_spec s3 cn from_ to_ ha ht) ?_
  rintro _ h5 ⟨p5, q5, w5, rfl, s5, c5, hb5, g5, hp5, hq5⟩
  have G := g3.trans g5
  have l3 := g3.len
  simp
  refine got_call (own_made (G.ro.trans hro) s5 c5 G.l (by omega) (by omega) (B := fun i => bit ws (a + i)) (fun j hj => by rw [hb5]; simp [hj])) ?_
  rintro v' h6 m6
  simp
  exact hQ _ _ m6

theorem iad0 {h : Heap} {es len c : Nat} {a : Addr} {kd : IntKind} (hj : 0 < len) : iadR h es (.slice (some a) len c) (.int kd 0) = some (.pointer (some (aadd a (0 * es))), h) := iad_nat (j := 0) hj

theorem look_unlike {h : Heap} {v v2 : Value} {n m p q p2 q2 : Nat} {ws w2 : List (BitVec 64)} {f f2 : Bool} (S : SelV h v n ws f p q) (S2 : SelV h v2 m w2 f2 p2 q2) (c2 : Canon m w2) (hnm : m ≠ n) :
    Gives P T (.fn F_sel_look) [v, .slice (some ⟨h.dyn.length, 0, some 0⟩) 1 1] (hnew h [v2] 1) fun v h' => v = .int .i64 11 ∧ Grow h h' := by
  have g1 := Grow.new h [v2] 1
  have row := RowAt.new h [v2] 1
  have rd : Reads (hnew h [v2] 1) (.slice (some ⟨h.dyn.length, 0, some 0⟩) 1 1) (([⟨v2, m, w2, f2, p2, q2⟩] : List SelD).map (·.v)) := .inr ⟨⟨h.dyn.length, 0, some 0⟩, 1, by simp, fun i x hx => by simpa using row.get (by simpa using hx)⟩
  have hix := index_nil rd (by
    simp only [List.mem_cons, List.not_mem_nil, or_false]
    rintro d rfl
    exact ⟨S2.growL g1.l, c2⟩) (by simp)
  refine gives_by t_sel_look (by simp [c_sel_look]) fun Q hQ => ?_
  have en := no_nil S
  simp [c_sel_look, en]
  refine got_call hix ?_
  rintro _ _ ⟨rfl, rfl⟩
  simp
  refine go_loopK (fun kk ks h2 => kk = 1 ∧ ks = [(0, v), (13, .slice (some ⟨h.dyn.length, 0, some 0⟩) 1 1), (14, .int .i64 1), (15, .int .i64 0)] ∧ h2 = hnew h [v2] 1) (n := 1) ⟨rfl, rfl, rfl⟩ (by simp) ?_
  rintro I hI kk ks e h2 ⟨rfl, rfl, rfl⟩
  have ld := row.get (i := 0) rfl
  simp [iad0, ld]
  refine got_len (S2.growL g1.l) fun h3 g3 => ?_
  simp
  refine got_len ((S.growL g1.l).growL g3.l) fun h4 g4 => ?_
  have hmn : ¬ (m : Int) = n := by omega
  simp [hmn, hnm]
  exact hQ _ _ ⟨rfl, (g1.trans g3).trans g4⟩

theorem Meet_unlike {h : Heap} {v v2 : Value} {n m p q p2 q2 : Nat} {ws w2 : List (BitVec 64)} {f f2 : Bool} (S : SelV h v n ws f p q) (S2 : SelV h v2 m w2 f2 p2 q2) (c2 : Canon m w2) (hnm : m ≠ n) :
    Gives P T (.fn F_sel_Meet) [v, .slice (some ⟨h.dyn.length, 0, some 0⟩) 1 1] (hnew h [v2] 1) fun t h' => t = .tuple #[.nilIface, .int .i64 11] ∧ Grow h h' := by
  refine gives_by t_sel_Meet (by simp [c_sel_Meet]) fun Q hQ => ?_
  simp [c_sel_Meet]
  refine got_call (look_unlike S S2 c2 hnm) ?_
  rintro _ h1 ⟨rfl, g1⟩
  simp
  exact hQ _ _ ⟨rfl, g1⟩

theorem one_boolS (bs : List Bool) : (bs.map Value.bool).all goodC = true := by rw [List.all_eq_true]; intro x hx; rw [List.mem_map] at hx; obtain ⟨y, _, rfl⟩ := hx; simp

theorem thinned_spec {h : Heap} {v0 : Value} {bs : List Bool} (r : Reads h v0 (bs.map .bool)) (hl : bs.length ≤ 65536) (hro : ∀ h', h'.ro = h.ro → Reads h' v0 (bs.map .bool)) :
    Gives P T (.fn F_colonnadelaw04_thinned) [v0] h fun v h' => ∃ R q, R.length = bs.length ∧ 32 * cnt (hold R) bs.length ≤ bs.length ∧ Own h' v q (R.map .bool) ∧ Grow h h' ∧ h.dyn.length ≤ q := by
  obtain ⟨b, c, rfl, _⟩ := r.shape
  simp only [List.length_map] at hro ⊢
  obtain ⟨n, hn⟩ : ∃ n, bs.length = n := ⟨_, rfl⟩
  rw [hn] at hl hro ⊢
  refine gives_by t_colonnadelaw04_thinned (by simp [c_colonnadelaw04_thinned]) fun Q hQ => ?_
  have hmk : ∀ h : Heap, mkSR h 1 1 [.bool false] (.int .i64 n) (.int .i64 n) = some (.slice (some (hnext h)) n n, hnew h (List.replicate n (.bool false)) 1) := fun h => mkS_nat (by omega) (by omega)
  obtain ⟨h1, hh1⟩ : ∃ x, x = hnew h (List.replicate n (.bool false)) 1 := ⟨_, rfl⟩
  have g1 : Grow h h1 := by rw [hh1]; exact Grow.new _ _ _
  have row : RowAt h1 h.dyn.length 0 1 (List.replicate n (.bool false)) := by rw [hh1]; exact RowAt.new _ _ _
  simp [c_colonnadelaw04_thinned, hmk, ← hh1]
  refine go_loopK (fun kk ks h2 => ∃ (i k : Nat) (R : List Bool), kk = n - i ∧ i ≤ n ∧ ks = [(0, .slice b n c), (3, .slice (some ⟨h.dyn.length, 0, some 0⟩) n n), (4, .int .i64 k), (5, .int .i64 i)] ∧ R.length = n ∧ cnt (hold R) i = k ∧ 32 * k ≤ n ∧ (∀ j, i ≤ j → hold R j = false) ∧ RowAt h2 h.dyn.length 0 1 (R.map .bool) ∧ Grow h h2) (n := n)
    ⟨0, 0, List.replicate n false, rfl, by omega, rfl, by simp, rfl, by omega, fun j _ => by
      unfold hold
      rw [List.getD_eq_getElem?_getD, List.getElem?_replicate]
      split <;> rfl, by simpa using row, g1⟩ (by simp) ?_
  rintro I hI kk ks e h2 ⟨i, k, R, rfl, hi, rfl, hR, hk, hk2, hz, row2, g2⟩
  simp
  refine branch_dec (fun hlt => ?_) (fun hge => ?_)
  · have hin : i < n := by omega
    have e4 : IntKind.i64.wrap ((i : Int) + 1) = ((i + 1 : Nat) : Int) := by rw [wrap_i64 (by omega) (by omega)]; omega
    obtain ⟨bb, cc, ev, hr⟩ := (hro h2 g2.ro).shape
    simp only [List.length_map, hn, Value.slice.injEq] at ev hr
    obtain ⟨rfl, -, rfl⟩ := ev
    obtain ⟨a, rfl, hla⟩ := hr i hin
    obtain ⟨x, hx⟩ : ∃ x, bs[i]? = some x := ⟨_, List.getElem?_eq_getElem (by omega)⟩
    have ld := hla i (.bool x) (by rw [List.getElem?_map, hx]; rfl)
    have hno : ∀ (h2 : Heap), Grow h h2 → RowAt h2 h.dyn.length 0 1 (R.map .bool) → ∃ (i' k' : Nat) (R' : List Bool), n - (i + 1) = n - i' ∧ i' ≤ n ∧ [(0, Value.slice (some a) n c), (3, .slice (some ⟨h.dyn.length, 0, some 0⟩) n n), (4, .int .i64 k), (5, .int .i64 (i + 1 : Nat))] = [(0, Value.slice (some a) n c), (3, .slice (some ⟨h.dyn.length, 0, some 0⟩) n n), (4, .int .i64 (k' : Nat)), (5, .int .i64 (i' : Nat))] ∧ R'.length = n ∧ cnt (hold R') i' = k' ∧ 32 * k' ≤ n ∧ (∀ j, i' ≤ j → hold R' j = false) ∧ RowAt h2 h.dyn.length 0 1 (R'.map .bool) ∧ Grow h h2 := fun h2 g2 row2 =>
      ⟨i + 1, k, R, rfl, by omega, rfl, hR, by rw [cnt_step, hz i (Nat.le_refl _), hk]; rfl, hk2, fun j hj => hz j (by omega), row2, g2⟩
    cases x with
    | false =>
      simp [hin, ld, e4]
      exact ⟨n - (i + 1), by omega, hI _ _ _ _ (hno h2 g2 row2) (by simp)⟩
    | true =>
      have hki : k ≤ i := by rw [← hk]; exact cnt_le _ _
      have e5 : IntKind.i64.wrap ((k : Int) + 1) = ((k + 1 : Nat) : Int) := by rw [wrap_i64 (by omega) (by omega)]; omega
      have e6 : IntKind.i64.wrap (32 * ((k + 1 : Nat) : Int)) = ((32 * (k + 1) : Nat) : Int) := by rw [wrap_i64 (by omega) (by omega)]; omega
      have e6' : IntKind.i64.wrap (32 * ((k : Int) + 1)) = ((32 * (k + 1) : Nat) : Int) := by rw [wrap_i64 (by omega) (by omega)]; omega
      by_cases hfit : 32 * (k + 1) ≤ n
      · have hfit' : 32 * ((k : Int) + 1) ≤ n := by omega
        obtain ⟨h3, e3, row3, c3, n3⟩ := row2.store (i := i) (x := .bool true) (by simp; omega) (by simp)
        have hset : (R.map Value.bool).set i (.bool true) = (R.set i true).map .bool := by rw [List.map_set]
        rw [hset] at row3
        simp [hin, ld, e4, e5, e6, e6', hfit, hfit', e3]
        refine ⟨n - (i + 1), by omega, hI _ _ _ _ ⟨i + 1, k + 1, R.set i true, rfl, by omega, rfl, by simp [hR], ?_, hfit, fun j hj => ?_, row3, g2.after c3 fun b hb e => by omega⟩ (by simp)⟩
        · rw [cnt_step, cnt_congr (f := hold (R.set i true)) (g := hold R) _ (fun j hj => by
            unfold hold
            rw [List.getD_eq_getElem?_getD, List.getD_eq_getElem?_getD, List.getElem?_set_ne (by omega)]), hk]
          have : hold (R.set i true) i = true := by
            unfold hold
            rw [List.getD_eq_getElem?_getD, List.getElem?_set_self (by omega)]; rfl
          rw [this]; rfl
        · have := hz j (by omega)
          unfold hold at this ⊢
          rw [List.getD_eq_getElem?_getD, List.getElem?_set_ne (by omega), ← List.getD_eq_getElem?_getD]; exact this
      · have hfit' : ¬ 32 * ((k : Int) + 1) ≤ n := by omega
        simp [hin, ld, e4, e5, e6, e6', hfit, hfit']
        exact ⟨n - (i + 1), by omega, hI _ _ _ _ (hno h2 g2 row2) (by simp)⟩
  have hin : i = n := by omega
  simp
  refine hQ _ _ ⟨R, h.dyn.length, hR, by rw [← hin, hk, hin]; exact hk2, .inr (.inr ⟨0, [], by simp [hR], by unfold gcap; simp [hR]; omega, by simpa using row2⟩), g2, Nat.le_refl _⟩

theorem Values1_spec {h : Heap} {y : Nat} {box : Addr} {sl : Value} {xs : List Nat} (hbox : hload h box = some sl) (r : Reads h sl (iL xs)) (hl : xs.length ≤ 1000000000) {J : Nat → Heap → Prop} {stop : Heap → Prop} (start : J 0 h) (hJ : ∀ i h', J i h' → h'.ro = h.ro ∧ Reads h' sl (iL xs))
    (step : ∀ i x h', xs[i]? = some x → J i h' → Gives P T (.yield y) [.int .i64 (x : Nat)] h' fun v h2 => v = .bool true ∧ J (i + 1) h2 ∨ v = .bool false ∧ stop h2 ∧ h2.ro = h.ro) :
    Gives P T (.fn F_slices_Values_int_int_1) [.func (.yield y) #[] #[], .pointer (some box)] h fun _ h' => h'.ro = h.ro ∧ (J xs.length h' ∨ stop h') := by
  obtain ⟨b, c, rfl, _⟩ := r.shape
  simp only [iL_len] at hbox hJ ⊢
  obtain ⟨N, hN⟩ : ∃ N, xs.length = N := ⟨_, rfl⟩
  rw [hN] at hbox hl hJ ⊢
  refine gives_by t_slices_Values_int_int_1 (by simp [c_slices_Values_int_int_1]) fun Q hQ => ?_
  simp [c_slices_Values_int_int_1, hbox]
  refine go_loopK (fun kk ks h2 => ∃ (i : Nat), kk = N - i ∧ i ≤ N ∧ ks = [(0, .func (.yield y) #[] #[]), (5, .slice b N c), (6, .int .i64 N), (7, .int .i64 i)] ∧ J i h2) (n := N) ⟨0, rfl, by omega, rfl, start⟩ (by simp) ?_
  rintro I hI kk ks e h2 ⟨i, rfl, hi, rfl, j⟩
  simp
  refine branch_dec (fun hlt => ?_) (fun hge => ?_)
  · have hiN : i < N := by omega
    have e4 : IntKind.i64.wrap ((i : Int) + 1) = ((i + 1 : Nat) : Int) := by rw [wrap_i64 (by omega) (by omega)]; omega
    obtain ⟨bb, cc, ev, hr⟩ := (hJ i h2 j).2.shape
    simp only [iL_len, hN, Value.slice.injEq] at ev hr
    obtain ⟨rfl, -, rfl⟩ := ev
    obtain ⟨a, rfl, hla⟩ := hr i hiN
    obtain ⟨x, hx⟩ : ∃ x, xs[i]? = some x := ⟨_, List.getElem?_eq_getElem (by omega)⟩
    have ld := hla i (.int .i64 (x : Nat)) (by unfold iL; rw [List.getElem?_map, hx]; rfl)
    simp [hiN, ld]
    refine got_call (step i x h2 hx j) ?_
    rintro _ h3 (⟨rfl, j3⟩ | ⟨rfl, st, r3⟩)
    · simp [e4]
      exact ⟨N - (i + 1), by omega, hI _ _ _ _ ⟨i + 1, rfl, by omega, rfl, j3⟩ (by simp)⟩
    · simp
      exact hQ _ _ ⟨r3, .inr st⟩
  have hiN : i = N := by omega
  subst hiN
  simp
  exact hQ _ _ ⟨(hJ i h2 j).1, .inl j⟩

theorem go_walkL {N d : Nat} {l : List (Nat × Value)} {asn bd : AC} {f : Operand} {k : Cont} {h : Heap} {box : Addr} {sl : Value} {xs : List Nat}
    (hf : evalT (envT N l) f = .func (.func F_slices_Values_int_int_1) #[] #[.pointer (some box)]) (hbox : hload h box = some sl) (rd : Reads h sl (iL xs)) (hl : xs.length ≤ 1000000000)
    (J : Nat → Heap → Prop) (Stop : Ex → Heap → Prop) (hJl : ∀ k h m, J k h → J k (hlps h m)) (hS : ∀ e h m, Stop e h → Stop e (hlps h m))
    (hJ : ∀ i h', J i h' → h'.ro = h.ro ∧ Reads h' sl (iL xs)) (start : J 0 h)
    (pre : Value → List (Nat × Value)) (asg : ∀ x h', Go P T asn (envT N ((d, x) :: l)) h' (.of fun e t1 h1 => e = .normal ∧ h1 = h' ∧ t1 = envT N (pre x ++ l)))
    (step : ∀ i x h', xs[i]? = some x → J i h' → h'.ro = h.ro → LP h h' → h.lps.length < h'.lps.length →
      Go P T bd (envT N (pre (.int .i64 (x : Nat)) ++ l)) h' (.of fun e _ h3 => h3.ro = h'.ro ∧ LP h' h3 ∧ (e = .normal ∧ J (i + 1) h3 ∨ e ≠ .normal ∧ Stop e h3)))
    (fin : ∀ h', J xs.length h' → LP h h' → h'.ro = h.ro → k.meets P T .normal (envT N l) h')
    (fin2 : ∀ e h', e ≠ .normal → Stop e h' → LP h h' → h'.ro = h.ro → k.meets P T e (envT N l) h') :
    Go P T (.rangeF f [d] asn bd) (envT N l) h k := by
  refine go_range (f' := F_slices_Values_int_int_1) (args := [.func (.yield h.lps.length) #[] #[], .pointer (some box)]) (by rw [hf]; rfl) (by kernel_rfl) ?_
  obtain ⟨y, hy⟩ : ∃ y, h.lps.length = y := ⟨_, rfl⟩
  rw [hy]
  have hlen : (hlps h (h.lps ++ [⟨.ready, none, envT N l, [d], asn, bd⟩])).lps.length = y + 1 := by simp [hy]
  have base := Values1_spec (h := hlps h (h.lps ++ [⟨.ready, none, envT N l, [d], asn, bd⟩])) (y := y) (box := box) (sl := sl) (xs := xs) hbox (rd.lps _) hl
    (J := fun k h' => J k h' ∧ LP h h' ∧ h'.lps[y]? = some ⟨.ready, none, envT N l, [d], asn, bd⟩)
    (stop := fun h' => ∃ e, e ≠ .normal ∧ Stop e h' ∧ LP h h' ∧ h'.lps[y]? = some ⟨.done, some e, envT N l, [d], asn, bd⟩)
    ⟨hJl _ _ _ start, LP.app h _, by rw [hlps_lps, ← hy, List.getElem?_append_right (Nat.le_refl _)]; simp⟩
    (fun i h' j => hJ i h' j.1)
    (fun i x h' hx ⟨j, lp, ly⟩ => by
      have r := (hJ i h' j).1
      have hyl : y < h'.lps.length := (List.getElem?_eq_some_iff.1 ly).1
      refine gives_yield ly (Does.mono (asg (.int .i64 (x : Nat)) h') ?_)
      rintro e t1 h1 ⟨rfl, rfl, rfl⟩
      rw [meets_of]
      refine ⟨rfl, rfl, ?_⟩
      refine Does.mono (step i x (hlps h1 (h1.lps.set y ⟨.busy, none, envT N l, [d], asn, bd⟩)) hx (hJl _ _ _ j) r (lp.set (by omega) _) (by simpa [hy] using hyl)) ?_
      rintro e t3 h3 ⟨r3, l3, hq⟩
      rw [meets_of]
      have hy3 : h3.lps[y]? = some ⟨.busy, none, envT N l, [d], asn, bd⟩ := by
        rw [l3.2 y (by simpa using hyl), hlps_lps, List.getElem?_set_self hyl]
      have hy3l : y < h3.lps.length := (List.getElem?_eq_some_iff.1 hy3).1
      have lp3 : LP h h3 := (lp.set (by omega) _).trans l3
      refine ⟨_, hy3, ?_⟩
      rcases hq with ⟨rfl, j3⟩ | ⟨hne, s3⟩
      · rw [if_pos rfl]
        exact .inl ⟨rfl, hJl _ _ _ j3, lp3.set (by omega) _, by rw [hlps_lps, List.getElem?_set_self hy3l]⟩
      · rw [if_neg hne]
        exact .inr ⟨rfl, ⟨e, hne, hS _ _ _ s3, lp3.set (by omega) _, by rw [hlps_lps, List.getElem?_set_self hy3l]⟩, r3.trans r⟩)
  refine base.mono ?_
  rintro v h2 ⟨r2, ⟨j, lp, ly⟩ | ⟨e, hne, st, lp, ly⟩⟩
  · refine ⟨_, ly, by simp, ?_⟩
    exact fin _ (hJl _ _ _ j) (lp.set (by omega) _) r2
  · refine ⟨_, ly, by simp, ?_⟩
    exact fin2 e _ hne (hS _ _ _ st) (lp.set (by omega) _) r2

theorem SelV.chgN {T0 : Nat → Prop} {h h' : Heap} {v : Value} {n p q : Nat} {ws : List (BitVec 64)} (S : SelV h v n ws true p q) (k : Chg T0 h h') (hq : q < h.dyn.length → ¬ T0 q) : SelV h' v n ws true p q := by
  rcases S with ⟨e, _⟩ | ⟨e, e2, sl, e3, o⟩
  · cases e
  · exact .inr ⟨e, e2, sl, e3, o.chgN k fun hv => hq (o.lt' hv)⟩

theorem SelV.norm {h : Heap} {v : Value} {n p q : Nat} {ws : List (BitVec 64)} (S : SelV h v n ws true p q) (k : Nat) : ∃ q', SelV h v n ws true q' q' ∧ (q' < h.dyn.length ∨ q' = k) := by
  rcases S with ⟨e, _⟩ | ⟨e, e2, sl, e3, o⟩
  · cases e
  · obtain ⟨q', o', d⟩ := o.at k
    refine ⟨q', .inr ⟨rfl, rfl, sl, e3, o'⟩, ?_⟩
    rcases d with ⟨hv, rfl⟩ | ⟨_, hk⟩
    · exact .inl (o.lt' hv)
    · exact .inr hk

theorem dense_of {h : Heap} {v : Value} {n p q : Nat} {ws : List (BitVec 64)} {f : Bool} (S : SelV h v n ws f p q) (hf : f = false) : v = .iface 53 (.agg #[ptr p]) ∧ SetAt h p q n ws := by
  rcases S with ⟨_, e, s⟩ | ⟨e, _⟩
  · exact ⟨e, s⟩
  · rw [hf] at e; cases e

theorem few_false {ws : List (BitVec 64)} {n : Nat} (hn : 0 < n) (h : ∀ i, i < n → bit ws i = true) : fewB ws n = false := by
  unfold fewB
  rw [cnt_all h]
  exact decide_eq_false (by omega)

theorem twins_spec {h : Heap} {L : Nat → Nat → Option Value} (hro : h.ro = roBlk tabG L) {v0 : Value} {bs : List Bool} (r : ∀ h', GrowL h h' → Reads h' v0 (bs.map .bool)) (h0 : 0 < bs.length) (hl : bs.length ≤ 65536) (few : 32 * cnt (hold bs) bs.length ≤ bs.length) :
    Gives P T (.fn F_colonnadelaw04_twins) [v0] h fun t h' => ∃ vx vy w px qx py qy, t = .tuple #[vx, vy, .bool true] ∧ SelV h' vx bs.length w true px qx ∧ SelV h' vy bs.length w false py qy ∧ Canon bs.length w ∧ (∀ i, i < bs.length → bit w i = hold bs i) ∧ GrowL h h' := by
  obtain ⟨b, c, ev, _⟩ := (r h (Chg.refl _)).shape
  simp only [List.length_map] at ev
  obtain ⟨n, hn⟩ : ∃ n, bs.length = n := ⟨_, rfl⟩
  rw [hn] at h0 hl few ev ⊢
  subst ev
  refine gives_by t_colonnadelaw04_twins (by simp [c_colonnadelaw04_twins]) fun Q hQ => ?_
  simp [c_colonnadelaw04_twins]
  refine got_call (Of_spec (r h (Chg.refl _)) (by omega)) ?_
  rintro _ h1 ⟨p1, q1, w1, rfl, s1, c1, hb1, g1, _, _⟩
  rw [hn] at s1 c1
  simp
  refine got_call (Make_s (g1.ro.trans hro) s1 c1) ?_
  rintro vx h2 ⟨w, px, qx, S2, c2, hb2, g2, _, _⟩
  have hfw : fewB w n = true := by
    unfold fewB
    have e : cnt (bit w) n = cnt (hold bs) n := cnt_congr n fun i hi => by rw [hb2 i hi, hb1]
    rw [e]
    exact decide_eq_true few
  rw [hfw] at S2
  obtain ⟨qn, Sn, hqn⟩ := S2.norm 0
  obtain ⟨a1, b1, ga1, gb1, as1⟩ := S2.asrt
  obtain ⟨h3, e3, g3⟩ := store_new2 (h := h2) (a := .int .i64 0) (b := .slice none 0 0) ga1 gb1
  have G2 : GrowL h h2 := GrowL.trans g1.l g2
  have G3 : GrowL h h3 := GrowL.trans G2 g3.l
  simp [as1, e3]
  refine got_call (Whole_s (n := n) (G3.ro'.trans hro) (by omega)) ?_
  rintro vy h4 ⟨w4, p4, q4, S4, c4, hb4, g4, hp4, hq4⟩
  have hf4 := few_false h0 hb4
  obtain ⟨rfl, s4⟩ := dense_of S4 hf4
  obtain ⟨h5, e5, rb5, k5, n5⟩ := (RowAt.new h4 [.pointer none] 0).put (y := ptr p4) (by simp [ptr])
  have g5 : Grow h4 h5 := (Grow.new h4 [.pointer none] 0).after k5 fun b hb e => by omega
  have l4 := g4.len'
  have l3 := g3.len
  have l2 := G2.len'
  simp only [ptr] at e5 rb5
  simp [ptr, storeN_one e5, rb5.get (i := 0) rfl]
  have G5 : GrowL h h5 := GrowL.trans (GrowL.trans G3 g4) g5.l
  have S5 := (Sn.growL g3.l).growL (GrowL.trans g4 g5.l)
  have hS5 : qx < h5.dyn.length ∨ True := .inr trivial
  obtain ⟨d, hd⟩ : ∃ d, h4.dyn.length = d := ⟨_, rfl⟩
  rw [hd] at rb5
  obtain ⟨q5, s5', q5l, hq5⟩ := s4.norm'
  have s5 := s5'.grow g5
  have p4l := s4.pl
  have q4l := s4.ql
  simp [hd]
  refine go_loopK (fun kk ks h6 => ∃ (i : Nat) (wi : List (BitVec 64)), kk = n - i ∧ i ≤ n ∧ ks = [(0, .slice b n c), (5, vx), (8, .pointer (some ⟨d, 0, some 0⟩)), (10, .int .i64 i)] ∧ SetAt h6 p4 q5 n wi ∧ Canon n wi ∧ (∀ j, bit wi j = if j < i then hold bs j else decide (j < n)) ∧ Chg (· = q5) h5 h6) (n := n)
    ⟨0, w4, rfl, by omega, rfl, s5, c4, fun j => by
      by_cases hj : j < n
      · simp [hj, hb4 j hj]
      · simp [hj, c4.out j (by omega)], Chg.refl _⟩ (by simp) ?_
  rintro I hI kk ks e h6 ⟨i, wi, rfl, hi, rfl, s6, c6, hb6, k6⟩
  have r6 : RowAt h6 d 0 0 [ptr p4] := by
    refine rb5.chgL k6.l fun e => ?_
    omega
  simp
  refine branch_dec (fun hlt => ?_) (fun hge => ?_)
  · have hin : i < n := by omega
    have e4 : IntKind.i64.wrap ((i : Int) + 1) = ((i + 1 : Nat) : Int) := by rw [wrap_i64 (by omega) (by omega)]; omega
    obtain ⟨bb, cc, ev, hr⟩ := (r h6 (GrowL.after G5 k6 fun m hm e => by omega)).shape
    simp only [List.length_map, hn, Value.slice.injEq] at ev hr
    obtain ⟨rfl, -, rfl⟩ := ev
    obtain ⟨a, rfl, hla⟩ := hr i hin
    obtain ⟨x, hx⟩ : ∃ x, bs[i]? = some x := ⟨_, List.getElem?_eq_getElem (by omega)⟩
    have ld := hla i (.bool x) (by rw [List.getElem?_map, hx]; rfl)
    have hbx : hold bs i = x := by unfold hold; rw [List.getD_eq_getElem?_getD, hx]; rfl
    simp [r6.get (i := 0) rfl, hin, ld]
    refine got_call (Put_spec s6 c6 hin x) ?_
    rintro _ h7 ⟨rfl, w7, s7, c7, hb7, k7⟩
    simp [e4]
    exact ⟨n - (i + 1), by omega, hI _ _ _ _ ⟨i + 1, w7, rfl, by omega, rfl, s7, c7, fun j => by
      rw [hb7]
      by_cases hj : j = i
      · subst hj; rw [if_pos rfl, if_pos (by omega), hbx]
      · rw [if_neg hj, hb6]
        by_cases hj2 : j < i
        · rw [if_pos hj2, if_pos (by omega)]
        · rw [if_neg hj2, if_neg (by omega)], k6.trans k7⟩ (by simp)⟩
  have hin : i = n := by omega
  subst hin
  have l6 := loadN_row_all r6 (n := 1) rfl
  simp only [ptr] at l6
  simp [l6, r6.get (i := 0) rfl]
  have hwi : wi = w := Canon.ext c6 c2 fun j hj => by rw [hb6, if_pos hj, hb2 j hj, hb1]
  refine hQ _ _ ⟨_, _, w, qn, qn, p4, q5, rfl, ?_, .inl ⟨rfl, rfl, hwi ▸ s6⟩, c2, fun j hj => by rw [hb2 j hj, hb1], ?_⟩
  · refine S5.chgN k6 fun hh e => ?_
    have s1l := s1.pl
    have l2'' := g2.len'
    omega
  · exact GrowL.after G5 k6 fun m hm e => by omega

theorem filt_pos (f : Nat → Bool) : ∀ {n x : Nat}, x < n → f x = true → (filt f n)[cnt f x]? = some x
  | 0, x, h, _ => by omega
  | n + 1, x, h, hx => by
    rw [filt_step]
    by_cases e : x = n
    · subst e
      rw [if_pos hx, ← filt_len, List.getElem?_append_right (Nat.le_refl _)]
      simp
    · have ih := filt_pos f (n := n) (x := x) (by omega) hx
      have hl := (List.getElem?_eq_some_iff.1 ih).1
      split
      · rw [List.getElem?_append_left hl, ih]
      · exact ih

/-- What is walked: all, or the first. -/
def wl (m : Nat) (xs : List Nat) : List Nat := if m = 1 then xs.take 1 else xs

theorem take_push {xs : List Nat} {k x : Nat} (h : xs[k]? = some x) : iL (xs.take k) ++ [Value.int .i64 (x : Nat)] = iL (xs.take (k + 1)) := by
  rw [← iL_app, List.take_add_one, h]; rfl

theorem load0_grow {h h' : Heap} (g : GrowL h h') {a : Addr} {x : Value} (e : hload h a = some x) : hload h' a = some x := hload_growL g e

theorem walkedD {h : Heap} {L : Nat → Nat → Option Value} (hro : h.ro = roBlk tabG L) {p q n m : Nat} {ws : List (BitVec 64)} (s : SetAt h p q n ws) (cn : Canon n ws) (hm : m = 0 ∨ m = 1) :
    Gives P T (.fn F_colonnadelaw04_walked) [.iface 53 (.agg #[ptr p]), .int .i64 m] h fun v h' => ∃ q', Own h' v q' (iL (wl m (filt (bit ws) n))) ∧ GrowL h h' := by
  have hn16 := cn.le
  have hfl := filt_le (bit ws) n
  obtain ⟨v, hv⟩ : ∃ v, v = Value.iface 53 (.agg #[ptr p]) := ⟨_, rfl⟩
  have S : SelV h v n ws false p q := .inl ⟨rfl, hv, s⟩
  have gv : goodC v = true := S.good
  rw [← hv]
  refine gives_by t_colonnadelaw04_walked (by simp [c_colonnadelaw04_walked]) fun Q hQ => ?_
  obtain ⟨xs, hxs⟩ : ∃ xs, filt (bit ws) n = xs := ⟨_, rfl⟩
  rw [hxs] at hfl hQ
  have rva := RowAt.new h [v] 0
  have ga := Grow.new h [v] 0
  obtain ⟨ha, hha⟩ : ∃ x, x = hnew h [v] 0 := ⟨_, rfl⟩
  rw [← hha] at rva ga
  have rma := RowAt.new ha [.int .i64 m] 0
  have gb := Grow.new ha [.int .i64 m] 0
  obtain ⟨hb, hhb⟩ : ∃ x, x = hnew ha [.int .i64 m] 0 := ⟨_, rfl⟩
  rw [← hhb] at rma gb
  have rvb := rva.grow gb
  simp [c_colonnadelaw04_walked, gv, ← hha, ← hhb, rvb.get (i := 0) rfl]
  rw [hv]
  simp [ptr]
  refine got_call (All_spec (by simp)) ?_
  rintro _ hc ⟨rfl, hhc⟩
  have rbx := RowAt.new hb [ptr p] 0
  have gc := Grow.new hb [ptr p] 0
  simp only [ptr] at rbx gc
  rw [← hhc] at rbx gc
  obtain ⟨d, hd⟩ : ∃ d, hc.dyn.length = d := ⟨_, rfl⟩
  obtain ⟨h1, hh1⟩ : ∃ x, x = hnew hc [.slice none 0 0] 0 := ⟨_, rfl⟩
  have g1 : Grow hc h1 := by rw [hh1]; exact Grow.new _ _ _
  have rb : RowAt h1 d 0 0 [nilS] := by rw [hh1, ← hd]; exact RowAt.new _ _ _
  have n1 : h1.dyn.length = d + 1 := by rw [hh1]; simp [hd]
  have gab := ((ga.trans gb).trans gc).trans g1
  have ro1 : h1.ro = roBlk tabG L := gab.ro.trans hro
  have hl1 := gab.len
  have hl0 := ((ga.trans gb).trans gc).len
  have rv : hload hc ⟨h.dyn.length, 0, some 0⟩ = some v := (rvb.grow gc).get (i := 0) rfl
  have rm : hload hc ⟨ha.dyn.length, 0, some 0⟩ = some (.int .i64 m) := (rma.grow gc).get (i := 0) rfl
  simp [hd, ← hh1]
  refine go_walk (L := L) ro1 (p := p) (q := q) (n := n) (ws := ws) (box := ⟨hb.dyn.length, 0, some 0⟩) (by simp) ((rbx.grow g1).get (i := 0) rfl) (s.grow gab) cn
    (fun w k h' => h'.ro = roBlk tabG L ∧ (ws ≠ [] → w < h'.dyn.length) ∧ d < w ∧ ∃ u q2, RowAt h' d 0 0 [u] ∧ Own h' u q2 (iL (xs.take k)) ∧ GrowL h h' ∧ GrowL hc h' ∧ (m = 1 → k = 0) ∧ (u ≠ nilS → d < q2) ∧ (u ≠ nilS → q2 ≠ w))
    (fun e h' => e = .exit 0 ∧ m = 1 ∧ h'.ro = roBlk tabG L ∧ ∃ u q2, RowAt h' d 0 0 [u] ∧ Own h' u q2 (iL (xs.take 1)) ∧ GrowL h h')
    (fun w k h' y ⟨j1, j2, j3, u, q2, j5, j6, j7, j7', j8, j9, j10⟩ => ⟨j1, j2, j3, u, q2, (j5.lps y), (j6.lps y), j7.trans (growL_lps _ _), j7'.trans (growL_lps _ _), j8, j9, j10⟩)
    (fun e h' y ⟨j0, j1, j2, u, q2, j3, j4, j5⟩ => ⟨j0, j1, j2, u, q2, j3.lps y, j4.lps y, j5.trans (growL_lps _ _)⟩)
    (fun w h' g hw hwl => ⟨g.ro.trans ro1, hwl, by omega, nilS, 0, (rb.lps []).chg g id |>.unlps, .inl ⟨rfl, rfl⟩, gab.l.trans g, g1.l.trans g, fun _ => rfl, fun h => absurd rfl h, fun h => absurd rfl h⟩) (fun x => [(7, x), (14, x)]) (fun x h' => by simp) ?_ ?_ ?_
  · rintro w k x h' hw hxn hbx hck ⟨ro', hwl, hdw, u, q2, rb', ou, gg, gg1, hmk, hdu, hlw⟩ ro'' lp lpl
    have hwsne : ws ≠ [] := by
      rintro rfl
      simp [bit, word] at hbx
    have hxk : xs[k]? = some x := by rw [← hxs, ← hck]; exact filt_pos _ hxn hbx
    have hk : k < xs.length := (List.getElem?_eq_some_iff.1 hxk).1
    have hl0 : (iL (xs.take k)).length ≤ 1000000000 := by rw [iL_len, List.length_take]; omega
    obtain ⟨u', h2, h3, q3, e2, gu, e3, rb3, o3, c3, hd3, hl3, d3⟩ := cell_push (x := .int .i64 (x : Nat)) rb' ou hdu (by simp) hl0
    rw [take_push hxk] at o3
    have gl := gg.len'
    have k3 := c3.len
    have ro3 := c3.ro.trans ro'
    have gg3 : GrowL h h3 := gg.after c3 fun b hb e => by
      rcases e with ⟨h4, h5⟩ | h4
      · have := hdu h5; omega
      · omega
    have G3 : GrowL hc h3 := gg1.after c3 fun b hb e => by
      rcases e with ⟨h4, h5⟩ | h4
      · have := hdu h5; omega
      · omega
    have hwl := hwl hwsne
    have hq2w : u' ≠ nilS → q3 ≠ w := fun _ e => by
      rcases d3 with ⟨h4, h5⟩ | h4
      · exact hlw h5 (by omega)
      · omega
    have w3 : h3.dyn[w]? = h'.dyn[w]? := c3.same w hwl (by
      rintro (⟨h4, h5⟩ | h4)
      · exact hlw h5 h4.symm
      · omega)
    have hlt : (iL (xs.take (k + 1))).length = k + 1 := by rw [iL_len, List.length_take]; omega
    obtain ⟨b', c', ev, _⟩ := o3.shape
    rw [hlt] at ev
    subst ev
    have S3 := S.growL gg3
    have l2 := load0_grow G3 rv
    have l3 := load0_grow G3 rm
    have l2' := load0_grow gg1 rv
    have l3' := load0_grow gg1 rm
    have en := rb3.get (i := 0) rfl
    by_cases hm1 : m = 1
    · have hk0 := hmk hm1
      subst hk0
      subst hm1
      simp [rb'.get (i := 0) rfl, e2, gu, e3, l2, l3, l2', l3', en]
      exact ⟨ro3.trans ro'.symm, w3, LP.of c3, ro3, _, rb3, ⟨q3, o3⟩, gg3⟩
    · have hm0 : m = 0 := by omega
      subst hm0
      have h1' : ¬ ((k : Int) + 1 = 0) := by omega
      simp [rb'.get (i := 0) rfl, e2, gu, e3, l2, l3, l2', l3', en, h1']
      refine got_len S3 ?_
      intro h4 g4
      have en4 := (rb3.grow g4).get (i := 0) rfl
      have h2' : ¬ ((n : Int) < (k : Int) + 1) := by omega
      simp [en, en4, h2', pushP_in]
      exact ⟨(g4.ro.trans ro3).trans ro'.symm, (g4.same w (by omega) id).trans w3, LP.of (c3.trans g4.chg), (g4.ro.trans ro3), fun _ => by have := g4.len; omega, hdw, _, rb3.grow g4, q3, o3.grow g4, gg3.trans g4.l, G3.trans g4.l, fun _ => hd3, hq2w⟩
  · rintro w h2 ⟨ro2, -, -, u, q2, rb2, ou, gg, -, hmk, -, -⟩ lp2 _
    simp [rb2.get (i := 0) rfl]
    refine hQ _ _ ⟨q2, ?_, gg⟩
    have hxl : xs.length = cnt (bit ws) n := by rw [← hxs, filt_len]
    rw [← hxl, List.take_length] at ou
    rw [← hxl] at hmk
    unfold wl
    split
    · rename_i e
      rw [List.length_eq_zero_iff.1 (hmk e)] at ou ⊢
      exact ou
    · exact ou
  · rintro e h2 _ ⟨rfl, rfl, ro2, u, q2, rb2, ou, gg⟩ lp2 _
    simp [rb2.get (i := 0) rfl]
    exact hQ _ _ ⟨q2, ou, gg⟩

theorem all_sparse {h : Heap} {n : Nat} {sl : Value} (hg : goodC sl = true) : Gives P T (.fn F_sel_Sparse_All) [.agg #[.int .i64 n, sl]] h fun r h' => ∃ box, r = .func (.func F_slices_Values_int_int_1) #[] #[.pointer (some box)] ∧ hload h' box = some sl ∧ Grow h h' := by
  refine gives_by t_sel_Sparse_All (by simp [c_sel_Sparse_All]) fun Q hQ => ?_
  have r1 := (RowAt.new h [.int .i64 n, sl] 0).get (i := 1) rfl
  simp [c_sel_Sparse_All, sparseC, hg, r1]
  refine got_call (R := fun r h' => r = .func (.func F_slices_Values_int_int_1) #[] #[.pointer (some ⟨h.dyn.length + 1, 0, some 0⟩)] ∧ h' = hnew (hnew h [.int .i64 n, sl] 0) [sl] 0) ?_ ?_
  · refine gives_by t_slices_Values_int_int (by simp [c_slices_Values_int_int]) fun Q hQ => ?_
    simp [c_slices_Values_int_int, hg]
    exact hQ _ _ ⟨rfl, rfl⟩
  · rintro _ _ ⟨rfl, rfl⟩
    simp
    have r2 := (RowAt.new (hnew h [.int .i64 n, sl] 0) [sl] 0).get (i := 0) rfl
    simp at r2
    exact hQ _ _ ⟨_, rfl, r2, (Grow.new _ _ _).trans (Grow.new _ _ _)⟩

theorem walkedL {h : Heap} {L : Nat → Nat → Option Value} (hro : h.ro = roBlk tabG L) {sl : Value} {q n m : Nat} {ws : List (BitVec 64)} (o : Own h sl q (iL (filt (bit ws) n))) (cn : Canon n ws) (hm : m = 0 ∨ m = 1) :
    Gives P T (.fn F_colonnadelaw04_walked) [.iface 80 (.agg #[.int .i64 n, sl]), .int .i64 m] h fun v h' => ∃ q', Own h' v q' (iL (wl m (filt (bit ws) n))) ∧ GrowL h h' := by
  have hn16 := cn.le
  have hfl := filt_le (bit ws) n
  obtain ⟨v, hv⟩ : ∃ v, v = Value.iface 80 (.agg #[.int .i64 n, sl]) := ⟨_, rfl⟩
  have gsl := o.good
  have S : SelV h v n ws true q q := .inr ⟨rfl, rfl, sl, hv, o⟩
  have gv : goodC v = true := S.good
  rw [← hv]
  refine gives_by t_colonnadelaw04_walked (by simp [c_colonnadelaw04_walked]) fun Q hQ => ?_
  obtain ⟨xs, hxs⟩ : ∃ xs, filt (bit ws) n = xs := ⟨_, rfl⟩
  rw [hxs] at hfl hQ
  have rva := RowAt.new h [v] 0
  have ga := Grow.new h [v] 0
  obtain ⟨ha, hha⟩ : ∃ x, x = hnew h [v] 0 := ⟨_, rfl⟩
  rw [← hha] at rva ga
  have rma := RowAt.new ha [.int .i64 m] 0
  have gb := Grow.new ha [.int .i64 m] 0
  obtain ⟨hb, hhb⟩ : ∃ x, x = hnew ha [.int .i64 m] 0 := ⟨_, rfl⟩
  rw [← hhb] at rma gb
  have rvb := rva.grow gb
  simp [c_colonnadelaw04_walked, gv, ← hha, ← hhb, rvb.get (i := 0) rfl]
  rw [hv]
  simp
  refine got_call (all_sparse gsl) ?_
  rintro _ hc ⟨box, rfl, rbx, gc⟩
  obtain ⟨d, hd⟩ : ∃ d, hc.dyn.length = d := ⟨_, rfl⟩
  obtain ⟨h1, hh1⟩ : ∃ x, x = hnew hc [.slice none 0 0] 0 := ⟨_, rfl⟩
  have g1 : Grow hc h1 := by rw [hh1]; exact Grow.new _ _ _
  have rb : RowAt h1 d 0 0 [nilS] := by rw [hh1, ← hd]; exact RowAt.new _ _ _
  have n1 : h1.dyn.length = d + 1 := by rw [hh1]; simp [hd]
  have gab := ((ga.trans gb).trans gc).trans g1
  have ro1 : h1.ro = roBlk tabG L := gab.ro.trans hro
  have hl1 := gab.len
  have hl0 := ((ga.trans gb).trans gc).len
  have rv : hload hc ⟨h.dyn.length, 0, some 0⟩ = some v := (rvb.grow gc).get (i := 0) rfl
  have rm : hload hc ⟨ha.dyn.length, 0, some 0⟩ = some (.int .i64 m) := (rma.grow gc).get (i := 0) rfl
  simp [hd, ← hh1]
  have og := o.growL gab.l
  rw [hxs] at og
  refine go_walkL (box := box) (sl := sl) (xs := xs) (by simp) (hload_grow g1 rbx) og.reads (by omega)
    (fun k h' => h'.ro = roBlk tabG L ∧ ∃ u q2, RowAt h' d 0 0 [u] ∧ Own h' u q2 (iL (xs.take k)) ∧ GrowL h h' ∧ GrowL hc h' ∧ (m = 1 → k = 0) ∧ (u ≠ nilS → d < q2))
    (fun e h' => e = .exit 0 ∧ m = 1 ∧ h'.ro = roBlk tabG L ∧ ∃ u q2, RowAt h' d 0 0 [u] ∧ Own h' u q2 (iL (xs.take 1)) ∧ GrowL h h')
    (fun k h' y ⟨j1, u, q2, j5, j6, j7, j7', j8, j9⟩ => ⟨j1, u, q2, (j5.lps y), (j6.lps y), j7.trans (growL_lps _ _), j7'.trans (growL_lps _ _), j8, j9⟩)
    (fun e h' y ⟨j0, j1, j2, u, q2, j3, j4, j5⟩ => ⟨j0, j1, j2, u, q2, j3.lps y, j4.lps y, j5.trans (growL_lps _ _)⟩)
    (fun i h' ⟨j1, u, q2, j5, j6, j7, _⟩ => ⟨j1.trans ro1.symm, by have := o.growL j7; rw [hxs] at this; exact this.reads⟩)
    ⟨ro1, nilS, 0, rb, .inl ⟨rfl, rfl⟩, gab.l, g1.l, fun _ => rfl, fun h => absurd rfl h⟩ (fun x => [(7, x), (14, x)]) (fun x h' => by simp) ?_ ?_ ?_
  · rintro k x h' hxk ⟨ro', u, q2, rb', ou, gg, gg1, hmk, hdu⟩ ro'' lp lpl
    have hk : k < xs.length := (List.getElem?_eq_some_iff.1 hxk).1
    have hl0 : (iL (xs.take k)).length ≤ 1000000000 := by rw [iL_len, List.length_take]; omega
    obtain ⟨u', h2, h3, q3, e2, gu, e3, rb3, o3, c3, hd3, hl3, d3⟩ := cell_push (x := .int .i64 (x : Nat)) rb' ou hdu (by simp) hl0
    rw [take_push hxk] at o3
    have gl := gg.len'
    have k3 := c3.len
    have ro3 := c3.ro.trans ro'
    have gg3 : GrowL h h3 := gg.after c3 fun b hb e => by
      rcases e with ⟨h4, h5⟩ | h4
      · have := hdu h5; omega
      · omega
    have G3 : GrowL hc h3 := gg1.after c3 fun b hb e => by
      rcases e with ⟨h4, h5⟩ | h4
      · have := hdu h5; omega
      · omega
    have hlt : (iL (xs.take (k + 1))).length = k + 1 := by rw [iL_len, List.length_take]; omega
    obtain ⟨b', c', ev, _⟩ := o3.shape
    rw [hlt] at ev
    subst ev
    have S3 := S.growL gg3
    have l2 := load0_grow G3 rv
    have l3 := load0_grow G3 rm
    have l2' := load0_grow gg1 rv
    have l3' := load0_grow gg1 rm
    have en := rb3.get (i := 0) rfl
    by_cases hm1 : m = 1
    · have hk0 := hmk hm1
      subst hk0
      subst hm1
      simp [rb'.get (i := 0) rfl, e2, gu, e3, l2, l3, l2', l3', en]
      exact ⟨ro3.trans ro'.symm, LP.of c3, ro3, _, rb3, ⟨q3, o3⟩, gg3⟩
    · have hm0 : m = 0 := by omega
      subst hm0
      have h1' : ¬ ((k : Int) + 1 = 0) := by omega
      simp [rb'.get (i := 0) rfl, e2, gu, e3, l2, l3, l2', l3', en, h1']
      refine got_len S3 ?_
      intro h4 g4
      have en4 := (rb3.grow g4).get (i := 0) rfl
      have h2' : ¬ ((n : Int) < (k : Int) + 1) := by omega
      simp [en, en4, h2', pushP_in]
      exact ⟨(g4.ro.trans ro3).trans ro'.symm, LP.of (c3.trans g4.chg), (g4.ro.trans ro3), _, rb3.grow g4, q3, o3.grow g4, gg3.trans g4.l, G3.trans g4.l, fun _ => hd3⟩
  · rintro h2 ⟨ro2, u, q2, rb2, ou, gg, -, hmk, -⟩ lp2 _
    simp [rb2.get (i := 0) rfl]
    refine hQ _ _ ⟨q2, ?_, gg⟩
    rw [List.take_length] at ou
    unfold wl
    split
    · rename_i e
      rw [List.length_eq_zero_iff.1 (hmk e)] at ou ⊢
      exact ou
    · exact ou
  · rintro e h2 _ ⟨rfl, rfl, ro2, u, q2, rb2, ou, gg⟩ lp2 _
    simp [rb2.get (i := 0) rfl]
    exact hQ _ _ ⟨q2, ou, gg⟩

theorem walked_s {h : Heap} {L : Nat → Nat → Option Value} (hro : h.ro = roBlk tabG L) {v : Value} {n p q m : Nat} {ws : List (BitVec 64)} {f : Bool} (S : SelV h v n ws f p q) (cn : Canon n ws) (hm : m = 0 ∨ m = 1) :
    Gives P T (.fn F_colonnadelaw04_walked) [v, .int .i64 m] h fun v h' => ∃ q', Own h' v q' (iL (wl m (filt (bit ws) n))) ∧ GrowL h h' := by
  rcases S with ⟨_, rfl, s⟩ | ⟨_, _, sl, rfl, o⟩
  · exact walkedD hro s cn hm
  · exact walkedL hro o cn hm

theorem sameW_spec {h : Heap} {v v' : Value} {ws : List (BitVec 64)} (r : Reads h v (ws.map wv)) (r' : Reads h v' (ws.map wv)) (hl : ws.length ≤ 1000000000000) :
    Gives P T (.fn F_colonnadelaw04_sameWords) [v, v'] h fun r h' => r = .bool true ∧ h' = h := by
  obtain ⟨b, c, rfl, hr⟩ := r.shape
  obtain ⟨b', c', rfl, hr'⟩ := r'.shape
  simp only [List.length_map] at hr hr' ⊢
  obtain ⟨N, hN⟩ : ∃ N, ws.length = N := ⟨_, rfl⟩
  rw [hN] at hr hr' hl ⊢
  refine gives_by t_colonnadelaw04_sameWords (by simp [c_colonnadelaw04_sameWords]) fun Q hQ => ?_
  simp [c_colonnadelaw04_sameWords]
  refine go_loopK (fun kk ks h2 => ∃ (i : Nat), kk = N - i ∧ i ≤ N ∧ ks = [(0, .slice b N c), (1, .slice b' N c'), (5, .int .i64 i)] ∧ h2 = h) (n := N) ⟨0, rfl, by omega, rfl, rfl⟩ (by simp) ?_
  rintro I hI kk ks e h3 ⟨i, rfl, hi, rfl, rfl⟩
  simp
  refine branch_dec (fun hlt => ?_) (fun hge => ?_)
  · have hil : i < N := by omega
    have e4 : IntKind.i64.wrap ((i : Int) + 1) = ((i + 1 : Nat) : Int) := by rw [wrap_i64 (by omega) (by omega)]; omega
    obtain ⟨a, rfl, hla⟩ := hr i hil
    obtain ⟨a', rfl, hla'⟩ := hr' i hil
    have hld := hla i _ (wv_get (by omega))
    have hld' := hla' i _ (wv_get (by omega))
    simp [hil, hld, hld', e4]
    exact ⟨N - (i + 1), by omega, hI _ _ _ _ ⟨i + 1, rfl, by omega, rfl, rfl⟩ (by simp)⟩
  · have hil : i = N := by omega
    subst hil
    simp
    exact hQ _ _ ⟨rfl, rfl⟩

theorem less_i {h : Heap} {a b : Int} : Gives P T (.fn F_cmp_Less_int) [.int .i64 a, .int .i64 b] h fun r h' => r = .bool (decide (a < b)) ∧ h' = h := by
  refine gives_by t_cmp_Less_int (by simp [c_cmp_Less_int]) fun Q hQ => ?_
  simp [c_cmp_Less_int]
  refine got_call (R := fun r h' => r = .bool false ∧ h' = h) ?_ ?_
  · refine gives_by t_cmp_isNaN_int (by simp [c_cmp_isNaN_int]) fun Q hQ => ?_
    simp [c_cmp_isNaN_int]
    exact hQ _ _ ⟨rfl, rfl⟩
  rintro _ _ ⟨rfl, rfl⟩
  simp
  exact hQ _ _ ⟨rfl, rfl⟩

theorem mid_u {n : Nat} (hn : n < 18446744073709551616) : abin .shr .u64 (n : Int) 1 = some (.int .u64 ((n / 2 : Nat) : Int)) := by
  have e : (n : Int) = wi (BitVec.ofNat 64 n) := by unfold wi; rw [BitVec.toNat_ofNat]; omega
  rw [e, ab64_shr (by omega)]
  unfold wi
  rw [BitVec.toNat_ushiftRight, BitVec.toNat_ofNat, Nat.shiftRight_eq_div_pow]
  congr 3
  rw [show (2 : Nat) ^ 64 = 18446744073709551616 from rfl, Nat.mod_eq_of_lt hn]
  rfl

theorem search_spec {h : Heap} {v : Value} {xs : List Nat} {t : Int} (r : Reads h v (iL xs)) (hl : xs.length ≤ 1000000000) (hs : xs.Pairwise (· < ·)) :
    Gives P T (.fn F_slices_BinarySearch_int_int) [v, .int .i64 t] h fun w h' => ∃ i : Int, w = .tuple #[.int .i64 i, .bool (xs.any fun x => decide ((x : Int) = t))] ∧ h' = h := by
  obtain ⟨b, c, rfl, hr⟩ := r.shape
  simp only [iL_len] at hr ⊢
  obtain ⟨N, hN⟩ : ∃ N, xs.length = N := ⟨_, rfl⟩
  have hm : ∀ i j, i < j → j < N → xs.getD i 0 < xs.getD j 0 := fun i j hij hj => by
    have := List.pairwise_iff_getElem.1 hs i j (by omega) (by omega) hij
    simpa [List.getD_eq_getElem?_getD, List.getElem?_eq_getElem (show i < xs.length by omega), List.getElem?_eq_getElem (show j < xs.length by omega)] using this
  rw [hN] at hr hl ⊢
  refine gives_by t_slices_BinarySearch_int_int (by simp [c_slices_BinarySearch_int_int]) fun Q hQ => ?_
  simp [c_slices_BinarySearch_int_int]
  refine go_loopK (fun kk ks h2 => ∃ (lo hi : Nat), kk = hi - lo ∧ lo ≤ hi ∧ hi ≤ N ∧ ks = [(0, .slice b N c), (1, .int .i64 t), (6, .int .i64 N), (7, .int .i64 lo), (8, .int .i64 hi)] ∧ h2 = h ∧ (∀ j, j < lo → ((xs.getD j 0 : Nat) : Int) < t) ∧ (∀ j, hi ≤ j → j < N → t ≤ ((xs.getD j 0 : Nat) : Int))) (n := N)
    ⟨0, N, rfl, by omega, by omega, rfl, rfl, fun j hj => by omega, fun j h1 h2 => by omega⟩ (by simp) ?_
  rintro I hI kk ks e h3 ⟨lo, hi, rfl, hlh, hhN, rfl, rfl, hlo, hhi⟩
  simp
  refine branch_dec (fun hlt => ?_) (fun hge => ?_)
  · have hil : lo < hi := by omega
    obtain ⟨m, hmid⟩ : ∃ m, (lo + hi) / 2 = m := ⟨_, rfl⟩
    have e1 : IntKind.i64.wrap ((lo : Int) + hi) = ((lo + hi : Nat) : Int) := by rw [wrap_i64 (by omega) (by omega)]; omega
    have e2 : IntKind.u64.wrap ((lo + hi : Nat) : Int) = ((lo + hi : Nat) : Int) := wrap_u64 (by omega) (by omega)
    have e2' : IntKind.u64.wrap ((lo : Int) + hi) = ((lo + hi : Nat) : Int) := by rw [wrap_u64 (by omega) (by omega)]; omega
    have e3 := mid_u (n := lo + hi) (by omega)
    rw [hmid] at e3
    have e3' : abin .shr .u64 ((lo : Int) + hi) 1 = some (.int .u64 (m : Nat)) := by rw [← e3]; congr 1
    have e4 : IntKind.i64.wrap (m : Int) = m := wrap_i64 (by omega) (by omega)
    have e5 : IntKind.i64.wrap ((m : Int) + 1) = ((m + 1 : Nat) : Int) := by rw [wrap_i64 (by omega) (by omega)]; omega
    have hmN : m < N := by omega
    obtain ⟨a, rfl, hla⟩ := hr m hmN
    have hld := hla m _ (iL_get (by omega))
    simp [e1, e2, e2', e3, e3', e4, hmN, hld]
    refine got_call less_i ?_
    rintro _ _ ⟨rfl, rfl⟩
    simp
    refine branch_dec (fun h1 => ?_) (fun h1 => ?_) <;> rw [← List.getD_eq_getElem?_getD] at h1
    · simp [e5]
      exact ⟨hi - (m + 1), by omega, hI _ _ _ _ ⟨m + 1, hi, rfl, by omega, hhN, rfl, rfl, fun j hj => by
        by_cases e : j = m
        · subst e; exact h1
        · have := hm j m (by omega) hmN; omega, hhi⟩ (by simp)⟩
    · simp
      exact ⟨m - lo, by omega, hI _ _ _ _ ⟨lo, m, rfl, by omega, by omega, rfl, rfl, hlo, fun j h2 h3 => by
        by_cases e : j = m
        · subst e; omega
        · have := hm m j (by omega) h3; omega⟩ (by simp)⟩
  · have hil : lo = hi := by omega
    subst hil
    by_cases hN2 : lo < N
    · obtain ⟨a, rfl, hla⟩ := hr lo hN2
      have hld := hla lo _ (iL_get (by omega))
      have hmem : xs.getD lo 0 ∈ xs := by
        rw [List.getD_eq_getElem?_getD, List.getElem?_eq_getElem (by omega)]
        exact List.getElem_mem _
      by_cases heq : ((xs.getD lo 0 : Nat) : Int) = t
      · have ea : (xs.any fun x => decide ((x : Int) = t)) = true := List.any_eq_true.2 ⟨_, hmem, by simpa using heq⟩
        rw [ea] at hQ
        simp only [List.getD_eq_getElem?_getD] at hld heq
        simp [hN2, hld, heq, skipV]
        exact hQ _ _ ⟨_, rfl, rfl⟩
      · have ea : (xs.any fun x => decide ((x : Int) = t)) = false := by
          rw [List.any_eq_false]
          intro x hx
          obtain ⟨j, hj, rfl⟩ := List.getElem_of_mem hx
          have ej : xs.getD j 0 = xs[j] := by rw [List.getD_eq_getElem?_getD, List.getElem?_eq_getElem hj]; rfl
          rw [← ej]
          simp only [decide_eq_true_eq]
          intro e
          by_cases h1 : j < lo
          · have := hlo j h1; omega
          · by_cases h2 : j = lo
            · subst h2; exact heq e
            · have := hm lo j (by omega) (by omega)
              have := hhi lo (Nat.le_refl _) hN2
              omega
        rw [ea] at hQ
        simp only [List.getD_eq_getElem?_getD] at hld heq
        simp [hN2, hld, heq]
        refine got_call (R := fun r h' => r = .bool false ∧ h' = h3) ?_ ?_
        · refine gives_by t_slices_isNaN_int (by simp [c_slices_isNaN_int]) fun Q hQ => ?_
          simp [c_slices_isNaN_int]
          exact hQ _ _ ⟨rfl, rfl⟩
        rintro _ _ ⟨rfl, rfl⟩
        simp
        exact hQ _ _ ⟨_, rfl, rfl⟩
    · have ea : (xs.any fun x => decide ((x : Int) = t)) = false := by
        rw [List.any_eq_false]
        intro x hx
        obtain ⟨j, hj, rfl⟩ := List.getElem_of_mem hx
        have ej : xs.getD j 0 = xs[j] := by rw [List.getD_eq_getElem?_getD, List.getElem?_eq_getElem hj]; rfl
        rw [← ej]
        simp only [decide_eq_true_eq]
        have := hlo j (by omega)
        omega
      rw [ea] at hQ
      simp [hN2, skipV]
      exact hQ _ _ ⟨_, rfl, rfl⟩

section
variable {h : Heap} {v : Value} {n p q : Nat} {ws : List (BitVec 64)} {f : Bool} {K : Value → Heap → Prop}

theorem got_has {i : Int} (S : SelV h v n ws f p q) (cn : Canon n ws) (k : ∀ h', Grow h h' → K (.bool (decide (0 ≤ i) && bit ws i.toNat)) h') : got (callR (acallW P T) h (inv P h "Has" v [.int .i64 i])) K := by
  have hfl := filt_le (bit ws) n
  have hn := cn.le
  rcases S with ⟨_, rfl, s⟩ | ⟨_, _, sl, rfl, o⟩
  · simp [ptr]
    refine got_call (R := fun v h' => v = .bool (decide (0 ≤ i) && bit ws i.toNat) ∧ Grow h h') ?_ ?_
    · refine gives_by t_sel_Dense_Has (by simp [c_sel_Dense_Has]) fun Q hQ => ?_
      have g1 := Grow.new h [ptr p] 0
      have r := (RowAt.new h [ptr p] 0).get (i := 0) rfl
      simp only [ptr] at r
      simp [c_sel_Dense_Has, ptr, r]
      refine got_call (get_spec (s.grow g1) cn i) ?_
      rintro _ _ ⟨rfl, rfl⟩
      simp
      exact hQ _ _ ⟨rfl, g1⟩
    · rintro _ h' ⟨rfl, g⟩
      exact k _ g
  · have hg := o.good
    simp
    refine got_call (R := fun v h' => v = .bool (decide (0 ≤ i) && bit ws i.toNat) ∧ Grow h h') ?_ ?_
    · refine gives_by t_sel_Sparse_Has (by simp [c_sel_Sparse_Has]) fun Q hQ => ?_
      have g1 := Grow.new h [.int .i64 n, sl] 0
      have r := (RowAt.new h [.int .i64 n, sl] 0).get (i := 1) rfl
      simp [c_sel_Sparse_Has, sparseC, hg, r]
      refine got_call (search_spec (t := i) (o.grow g1).reads (by omega) (filt_sorted _ _)) ?_
      rintro _ _ ⟨y, rfl, rfl⟩
      simp
      refine hQ _ _ ⟨?_, g1⟩
      congr 1
      rw [Bool.eq_iff_iff, List.any_eq_true, Bool.and_eq_true, decide_eq_true_eq]
      constructor
      · rintro ⟨x, hx, hxe⟩
        rw [decide_eq_true_eq] at hxe
        subst hxe
        exact ⟨by omega, by simpa using (filt_mem.1 hx).2⟩
      · rintro ⟨h0, hb⟩
        exact ⟨i.toNat, filt_mem.2 ⟨cn.bits hb, hb⟩, by rw [decide_eq_true_eq]; omega⟩
    · rintro _ h' ⟨rfl, g⟩
      exact k _ g
end

end Go.Ax
