/- Seat bits: the law BitsPieces, over the abstract machine. -/
import Derived.Test.YtpemffaclmpnnaaDoorYO
import Derived.Test.YtpemffaclmpnnaaDoorYG
import Derived.Test.YtpemffaclmpnnaaDoorMH
namespace Go.Ax
set_option linter.unusedVariables false
set_option linter.unusedSimpArgs false

theorem pick_spec {h : Heap} (k : Int) {n : Nat} (hn : 0 < n) (hn2 : n ≤ 1000000000000) :
    Gives P T (.fn F_colonnadelaw01_pick) [.int .i64 k, .int .i64 n] h fun v h' => v = .int .i64 (k % n) ∧ h' = h := by
  refine gives_by t_colonnadelaw01_pick (by simp [c_colonnadelaw01_pick]) fun Q hQ => ?_
  obtain ⟨h1, h2, h3⟩ := tmod_range k hn
  obtain ⟨r, hr⟩ : ∃ r, k.tmod n = r := ⟨_, rfl⟩
  rw [hr] at h1 h2 h3
  have hx : ¬ ((n : Int) < 1) := by omega
  have hz : ¬ (n : Int) = 0 := by omega
  have hz' : ¬ n = 0 := by omega
  by_cases hk : r < 0
  · have e : IntKind.i64.wrap (r + n) = r + n := wrap_i64 (by omega) (by omega)
    simp [c_colonnadelaw01_pick, hx, hz, hz', hr, hk, e]
    rw [if_pos hk] at h3
    exact hQ _ _ ⟨by rw [h3], rfl⟩
  · simp [c_colonnadelaw01_pick, hx, hz, hz', hr, hk]
    rw [if_neg hk] at h3
    exact hQ _ _ ⟨by rw [h3], rfl⟩

theorem sumN_app (a b : List SetD) : sumN (a ++ b) = sumN a + sumN b := by
  induction a with
  | nil => simp [sumN]
  | cons x r ih => simp only [List.cons_append, sumN, ih]; omega

theorem joinB_app (a b : List SetD) (i : Nat) : joinB (a ++ b) i = if i < sumN a then joinB a i else joinB b (i - sumN a) := by
  induction a generalizing i with
  | nil => simp [sumN]
  | cons x r ih =>
    have e : sumN (x :: r) = x.n + sumN r := rfl
    rw [e]
    simp only [List.cons_append, joinB]
    by_cases h : i < x.n
    · have : i < x.n + sumN r := by omega
      simp [h, this]
    · simp only [h, if_false, ih]
      by_cases h2 : i - x.n < sumN r
      · have : i < x.n + sumN r := by omega
        simp [h2, this]
      · have : ¬ i < x.n + sumN r := by omega
        simp only [h2, this, if_false]
        congr 1; omega

theorem SetAt.norm {h : Heap} {p q n : Nat} {ws : List (BitVec 64)} (s : SetAt h p q n ws) : ∃ q', SetAt h p q' n ws ∧ q' < h.dyn.length ∧ (q' = q ∨ q' = p) := by
  obtain ⟨b, c, r, w⟩ := s.ex
  rcases w with ⟨rfl, rfl, rfl⟩ | ⟨v, rfl, r2, h3⟩
  · exact ⟨p, ⟨⟨none, 0, r, .inl ⟨rfl, rfl, rfl⟩⟩, fun h => absurd rfl h⟩, r.lt, .inr rfl⟩
  · exact ⟨q, s, r2.lt, .inl rfl⟩

theorem SetAt.lt {h : Heap} {p q n : Nat} {ws : List (BitVec 64)} (s : SetAt h p q n ws) : p < h.dyn.length := by
  obtain ⟨b, c, r, w⟩ := s.ex
  exact r.lt

/-- The pieces cut so far, and the list that holds them. -/
structure PInv (h0 h : Heap) (bs : List Bool) (v : Value) (q : Nat) (sets : List SetD) (at_ : Nat) : Prop where
  own : Own h v q (sets.map fun s => ptr s.p)
  sum : sumN sets = at_
  ok : ∀ s ∈ sets, s.ok h ∧ s.p ≠ q ∧ s.q ≠ q ∧ s.q < h.dyn.length
  bits : ∀ j, j < at_ → joinB sets j = hold bs j
  grow : Grow h0 h
  base : v = .slice none 0 0 ∨ h0.dyn.length ≤ q

theorem PInv.step {h0 h h1 : Heap} {bs : List Bool} {v : Value} {q : Nat} {sets : List SetD} {at_ : Nat} (I : PInv h0 h bs v q sets at_) {p2 q2 n2 : Nat} {ws2 : List (BitVec 64)} (g : Grow h h1) (sat : SetAt h1 p2 q2 n2 ws2) (cn : Canon n2 ws2) (f1 : h.dyn.length ≤ p2) (f2 : h.dyn.length ≤ q2)
    (hb : ∀ i, i < n2 → bit ws2 i = hold bs (at_ + i)) (hlen : (sets.length + 1) * 8 ≤ 140737488355328) :
    ∃ v' h', aappend (hnew h1 [ptr p2] 1) 1 8 [.pointer none] v (.slice (some ⟨h1.dyn.length, 0, some 0⟩) 1 1) = some (v', h') ∧ ∃ q' q2', PInv h0 h' bs v' q' (sets ++ [⟨p2, q2', n2, ws2⟩]) (at_ + n2) := by
  obtain ⟨v', h', q', e, o, c, l, d⟩ := (I.own.grow g).push (x := ptr p2) (bytes := 8) (z := .pointer none) (by simp [ptr]) (by simp; omega) (by simp; omega)
  have hq : v ≠ .slice none 0 0 → q < h.dyn.length := fun hv => by
    rcases I.own.lt with ⟨h1, _⟩ | h1
    · exact absurd h1 hv
    · exact h1
  have hsp : p2 < h1.dyn.length := sat.lt
  have gl := g.len
  have Il := I.grow.len
  have cl := c.len
  obtain ⟨q2', sat', k1, k2⟩ := sat.norm
  refine ⟨v', h', e, q', q2', by simpa using o, by rw [sumN_app, I.sum]; simp [sumN], ?_, ?_, (I.grow.trans g).after c ?_, ?_⟩
  · intro t ht
    rw [List.mem_append, List.mem_singleton] at ht
    rcases ht with ht | rfl
    · obtain ⟨⟨tok, tc⟩, tp, tq, tl⟩ := I.ok t ht
      have tp1 := tok.lt
      refine ⟨⟨(tok.grow g).chg c (fun e => tp e.1) (fun e => tq e.1), tc⟩, ?_, ?_, by omega⟩
      · rcases d with ⟨rfl, _⟩ | rfl
        · exact tp
        · omega
      · rcases d with ⟨rfl, _⟩ | rfl
        · exact tq
        · omega
    · refine ⟨⟨sat'.chg c (fun e => ?_) (fun e => ?_), cn⟩, ?_, ?_, by simp only; omega⟩
      · have := hq e.2; have := e.1; omega
      · have := hq e.2; have := e.1; omega
      · simp only
        rcases d with ⟨rfl, hv⟩ | rfl
        · have := hq hv; omega
        · omega
      · simp only
        rcases d with ⟨rfl, hv⟩ | rfl
        · have := hq hv; omega
        · omega
  · intro j hj
    rw [joinB_app, I.sum]
    split
    · exact I.bits j (by assumption)
    · have : j - at_ < n2 := by omega
      simp only [joinB]
      rw [if_pos this, hb _ this]
      congr 1; omega
  · intro b hb' hs
    obtain ⟨rfl, hv⟩ := hs
    rcases I.base with h2 | h2
    · exact hv h2
    · omega
  · right
    rcases d with ⟨rfl, hv⟩ | rfl
    · rcases I.base with h2 | h2
      · exact absurd h2 hv
      · exact h2
    · omega

theorem pieces_spec (L : Nat → Nat → Option Value) {v0 v1 : Value} {bs : List Bool} {cs : List Int} (r0 : ArgS (heap0 (roBlk tabG L)) v0 (bs.map .bool)) (r1 : ArgS (heap0 (roBlk tabG L)) v1 (cs.map (.int .i64))) (hcs : cs.length * 8 ≤ 140737488351232) :
    Gives P T (.fn F_colonnadelaw01_BitsPieces) [v0, v1] (heap0 (roBlk tabG L)) fun v _ => v = .bool true := by
  refine gives_by t_colonnadelaw01_BitsPieces (by simp [c_colonnadelaw01_BitsPieces]) fun Q hQ => ?_
  obtain ⟨n, hn⟩ : ∃ n, bs.length = n := ⟨_, rfl⟩
  obtain ⟨b0, c0, e0, hr0⟩ := r0.reads.shape
  simp only [List.length_map, hn] at e0 hr0
  simp [c_colonnadelaw01_BitsPieces]
  refine got_call (awake_spec L) ?_
  rintro _ h ⟨rfl, hro⟩
  simp
  by_cases hb : n ≤ 16777216
  case neg =>
    refine got_call (Of_big (r0.ro hro).reads (by omega)) ?_
    rintro _ _ ⟨rfl, rfl⟩
    have hx : (16777216 : Int) < n := by omega
    simp [e0, hx]
    exact hQ _ _ rfl
  refine got_call (Of_spec (r0.ro hro).reads (by omega)) ?_
  rintro _ h1 ⟨p, q, ws, rfl, s, cn, hbit, g, _, _⟩
  rw [hn] at s cn
  have hro1 : h1.ro = roBlk tabG L := g.ro.trans hro
  simp [ptr, e0]
  have hl := cn.len
  refine got_call (Words_spec s (by omega)) ?_
  rintro _ h2 ⟨b', c', q', rfl, w, g2, f2⟩
  simp
  refine got_call (load_spec w cn) ?_
  rintro _ h3 ⟨p3, q3, rfl, s3, g3, f3, f4⟩
  have s' := (s.grow g2).grow g3
  simp
  refine got_call (alike_spec s3 s' (by omega) (by omega)) ?_
  rintro _ h4 ⟨rfl, g4⟩
  have s4 := s'.grow g4
  have hro4 : h4.ro = roBlk tabG L := by rw [g4.ro, g3.ro, g2.ro, hro1]
  simp
  obtain ⟨b1, c1, e1, hr1⟩ := (r1.ro hro4).reads.shape
  simp only [List.length_map] at e1 hr1
  obtain ⟨m, hm⟩ : ∃ m, cs.length = m := ⟨_, rfl⟩
  rw [hm] at e1 hr1 hcs
  subst e0 e1
  refine go_loopK (fun k ks h5 => ∃ (i at_ : Nat) (v : Value) (q : Nat) (sets : List SetD), k = m - i ∧ i ≤ m ∧ ks = [(0, .slice b0 n c0), (1, .slice b1 m c1), (5, ptr p), (8, v), (9, .int .i64 at_), (10, .int .i64 i)] ∧
    at_ ≤ n ∧ sets.length = i ∧ PInv h4 h5 bs v q sets at_) (n := m) ⟨0, 0, .slice none 0 0, 0, [], rfl, by omega, rfl, by omega, rfl, ⟨Own.nil _ _, rfl, by simp, by simp, Chg.refl _, .inl rfl⟩⟩ (by simp [ptr]) ?_
  · rintro I hI k ks e h5 ⟨i, at_, v, q8, sets, rfl, hi, rfl, hat, hsl, PI⟩
    simp
    refine branch_dec (fun hlt => ?_) (fun hge => ?_)
    · have hil : i < m := by omega
      have hw1 : IntKind.i64.wrap ((i : Int) + 1) = ((i + 1 : Nat) : Int) := by rw [wrap_i64 (by omega) (by omega)]; omega
      obtain ⟨a1, rfl, ha1⟩ := hr1 i hil
      obtain ⟨ci, hci⟩ : ∃ ci, cs[i]? = some ci := ⟨_, List.getElem?_eq_getElem (by omega)⟩
      have hld := ha1 i (.int .i64 ci) (by rw [List.getElem?_map, hci]; rfl)
      have hld := hload_grow PI.grow hld
      have w1 : IntKind.i64.wrap ((n : Int) - at_) = ((n - at_ : Nat) : Int) := by rw [wrap_i64 (by omega) (by omega)]; omega
      have w2 : IntKind.i64.wrap (((n - at_ : Nat) : Int) + 1) = ((n - at_ + 1 : Nat) : Int) := by rw [wrap_i64 (by omega) (by omega)]; omega
      obtain ⟨r, hr⟩ : ∃ r, n - at_ + 1 = r := ⟨_, rfl⟩
      rw [hr] at w2
      simp [hil, hld, w1, w2]
      refine got_call (pick_spec ci (n := r) (by omega) (by omega)) ?_
      rintro _ _ ⟨rfl, rfl⟩
      obtain ⟨j, hj, hjr⟩ : ∃ j : Nat, ci % r = j ∧ j < r := ⟨(ci % r).toNat, by have := Int.emod_nonneg ci (show (r : Int) ≠ 0 by omega); omega, by have := Int.emod_lt_of_pos ci (show (0 : Int) < r by omega); omega⟩
      have w3 : IntKind.i64.wrap ((at_ : Int) + j) = ((at_ + j : Nat) : Int) := by rw [wrap_i64 (by omega) (by omega)]; omega
      obtain ⟨to_, hto⟩ : ∃ to_, at_ + j = to_ := ⟨_, rfl⟩
      rw [hto] at w3
      rename_i h5
      simp [hj, w3]
      refine got_call (slice_spec (s4.grow PI.grow) cn at_ to_ (f := at_) (t := to_) (by omega) (by omega)) ?_
      rintro _ h6 ⟨p6, q6, ws6, rfl, s6, cn6, hb6, g6, f6, f7⟩
      obtain ⟨v', h', e8, q8', q6', PI'⟩ := PI.step g6 s6 cn6 f6 f7 (fun i hi => by rw [hb6, hbit]; simp [hi]) (by omega)
      simp [ptr] at e8 ⊢
      rw [e8]
      simp [hw1]
      have h9 : at_ + (to_ - at_) = to_ := by omega
      rw [h9] at PI'
      exact ⟨m - (i + 1), by omega, hI _ _ _ _ ⟨i + 1, to_, v', q8', _, rfl, by omega, rfl, by omega, by simp [hsl], PI'⟩ (by simp [ptr])⟩
    · have hie : i = m := by omega
      subst hie
      simp
      refine got_call (slice_spec (s4.grow PI.grow) cn at_ n (f := at_) (t := n) (by omega) (by omega)) ?_
      rintro _ h6 ⟨p6, q6, ws6, rfl, s6, cn6, hb6, g6, f6, f7⟩
      obtain ⟨v', h', e8, q8', q6', PI'⟩ := PI.step g6 s6 cn6 f6 f7 (fun i hi => by rw [hb6, hbit]; simp [hi]) (by omega)
      simp [ptr] at e8 ⊢
      rw [e8]
      simp
      have h9 : at_ + (n - at_) = n := by omega
      rw [h9] at PI'
      obtain ⟨sets', hsets⟩ : ∃ x, sets ++ [{ p := p6, q := q6', n := n - at_, ws := ws6 }] = x := ⟨_, rfl⟩
      rw [hsets] at PI'
      have hlen' : sets'.length = i + 1 := by rw [← hsets]; simp [hsl]
      have hsum := PI'.sum
      refine got_call (join_spec PI'.own.reads (fun s hs => (PI'.ok s hs).1) (by omega) (by omega)) ?_
      rintro _ h7 ⟨p7, q7, ws7, rfl, s7, cn7, hb7, g7, f8, f9⟩
      rw [hsum] at s7 cn7
      simp [ptr]
      have hext : ws7 = ws := cn7.ext cn fun i hi => by rw [hb7, PI'.bits i hi, hbit]
      subst hext
      refine got_call (alike_spec s7 ((s4.grow PI'.grow).grow g7) (by omega) (by omega)) ?_
      rintro _ h8 ⟨rfl, g8⟩
      have s8 := s7.grow g8
      simp
      have g78 := g7.trans g8
      have own8 := PI'.own.grow g78
      have hro8 : h8.ro = roBlk tabG L := by rw [g78.ro, PI'.grow.ro, hro4]
      obtain ⟨b8, c8, e9, hr8⟩ := own8.shape
      simp only [List.length_map, hlen'] at e9 hr8
      subst e9
      have hr0' := (r0.ro hro8).reads
      obtain ⟨M, hM⟩ : ∃ M, i + 1 = M := ⟨_, rfl⟩
      have hMb : M ≤ 100000000000000 := by omega
      rw [hM] at own8 hr8 hlen' ⊢
      have ok' : ∀ s ∈ sets', s.ok h8 := fun s hs => ⟨((PI'.ok s hs).1.1).grow g78, (PI'.ok s hs).1.2⟩
      have bits' := PI'.bits
      clear PI PI' e8 hI r1 hr1 s3 s' s4 w s cn6 hb6 s6 s7 hM
      refine go_loopK (fun k ks h9 => ∃ (j at_ : Nat), k = M - j ∧ j ≤ M ∧ ks = [(0, .slice b0 n c0), (8, .slice b8 M c8), (12, ptr p7), (14, .int .i64 at_), (15, .int .i64 j)] ∧ at_ = sumN (sets'.take j) ∧ Grow h8 h9) (n := M)
        ⟨0, 0, rfl, by omega, rfl, by simp [sumN], Chg.refl _⟩ (by simp [ptr]) ?_
      rintro I hI k ks e h9 ⟨j, at_, rfl, hj, rfl, rfl, g9⟩
      simp
      refine branch_dec (fun hlt => ?_) (fun hge => ?_)
      · have hjM : j < M := by omega
        have hsa : sets'[j]? = some sets'[j] := List.getElem?_eq_getElem (by omega)
        obtain ⟨t, htd⟩ : ∃ t, sets'[j] = t := ⟨_, rfl⟩
        rw [htd] at hsa
        obtain ⟨u, rest, rfl, r8⟩ := hr8 j hjM
        have hld8 := r8.get (i := j) (x := ptr t.p) (by rw [List.getElem?_append_left (by simp; omega), List.getElem?_map, hsa]; rfl)
        have hld9 := hload_grow g9 hld8
        obtain ⟨st, ct⟩ := ok' t (List.mem_of_getElem? hsa)
        have hsumt := sumN_take sets' hsa
        have hle := sumN_take_le sets' (j + 1)
        have hjat := joinB_at sets' hsa
        obtain ⟨at_, hat⟩ : ∃ x, sumN (sets'.take j) = x := ⟨_, rfl⟩
        rw [hat] at hsumt hjat
        rw [hat]
        have w1 : IntKind.i64.wrap ((at_ : Int) + t.n) = ((at_ + t.n : Nat) : Int) := by rw [wrap_i64 (by omega) (by omega)]; omega
        have w2 : IntKind.i64.wrap ((j : Int) + 1) = ((j + 1 : Nat) : Int) := by rw [wrap_i64 (by omega) (by omega)]; omega
        simp only [ptr] at hld9
        simp [hjM, hld9]
        refine got_call (len_spec (st.grow g9)) ?_
        rintro _ _ ⟨rfl, rfl⟩
        rename_i h9
        obtain ⟨e9, he9⟩ : ∃ x, at_ + t.n = x := ⟨_, rfl⟩
        rw [he9] at w1
        simp [w1]
        refine got_call (slice_spec (s8.grow g9) cn at_ e9 (f := at_) (t := e9) (by omega) (by omega)) ?_
        rintro _ h10 ⟨p10, q10, ws10, rfl, s10, cn10, hb10, g10, _, _⟩
        have hld10 := hload_grow g10 hld9
        have hn10 : e9 - at_ = t.n := by omega
        rw [hn10] at s10 cn10
        have hext : ws10 = t.ws := cn10.ext ct fun i hi => by rw [hb10, hb7, hjat i hi]; simp; omega
        subst hext
        simp [ptr, hjM, hld9, hld10]
        have g11 := g9.trans g10
        refine got_call (alike_spec s10 (st.grow g11) (by have := ct.len; have := ct.le; omega) (by have := ct.len; have := ct.le; omega)) ?_
        rintro _ h11 ⟨rfl, g12⟩
        have g13 := g11.trans g12
        have hld13 := hload_grow g13 hld8
        simp only [ptr] at hld13
        simp
        refine go_loopK (fun k ks h12 => ∃ (jj : Nat), k = t.n - jj ∧ jj ≤ t.n ∧ ks = [(0, .slice b0 n c0), (8, .slice (some ⟨q8', 0, some u⟩) M c8), (12, ptr p7), (14, .int .i64 at_), (15, .int .i64 j), (16, .int .i64 jj)] ∧ h12 = h11) (n := t.n)
          ⟨0, rfl, by omega, rfl, rfl⟩ (by simp [ptr]) ?_
        rintro I2 hI2 k2 ks2 e2 h12 ⟨jj, rfl, hjj, rfl, rfl⟩
        simp [hjM, hld13]
        refine got_call (len_spec (st.grow g13)) ?_
        rintro _ _ ⟨rfl, rfl⟩
        rename_i h12
        simp
        refine branch_dec (fun hlt2 => ?_) (fun hge2 => ?_)
        · have hjjt : jj < t.n := by omega
          have hro12 : h12.ro = roBlk tabG L := by rw [g13.ro, hro8]
          obtain ⟨a0, cc, e0, hl0⟩ := r0.at (h' := h12) hro12 (i := at_ + jj) (hold_get (by omega))
          simp only [Value.slice.injEq] at e0
          obtain ⟨rfl, _, _⟩ := e0
          have w3 : IntKind.i64.wrap ((at_ : Int) + jj) = ((at_ + jj : Nat) : Int) := by rw [wrap_i64 (by omega) (by omega)]; omega
          have w4 : IntKind.i64.wrap ((jj : Int) + 1) = ((jj + 1 : Nat) : Int) := by rw [wrap_i64 (by omega) (by omega)]; omega
          simp [hjjt, hjM, hld13]
          refine got_call (get_spec (st.grow g13) ct jj) ?_
          rintro _ _ ⟨rfl, rfl⟩
          obtain ⟨k3, hk3⟩ : ∃ x, at_ + jj = x := ⟨_, rfl⟩
          have hk3n : k3 < n := by omega
          have hbt : bit t.ws jj = hold bs k3 := by rw [← hjat jj hjjt, bits' _ (by omega), hk3]
          rw [hk3] at w3 hl0
          simp [w3, w4, hk3n, hl0, hbt]
          exact ⟨t.n - (jj + 1), by omega, hI2 _ _ _ _ ⟨jj + 1, rfl, by omega, rfl, rfl⟩ (by simp [ptr])⟩
        · have hjjt : jj = t.n := by omega
          subst hjjt
          simp [hjM, hld13]
          refine got_call (len_spec (st.grow g13)) ?_
          rintro _ _ ⟨rfl, rfl⟩
          simp [w1, w2]
          exact ⟨M - (j + 1), by omega, hI _ _ _ _ ⟨j + 1, e9, rfl, by omega, rfl, by omega, g13⟩ (by simp [ptr])⟩
      · have hjM : j = M := by omega
        subst hjM
        rw [List.take_of_length_le (by omega), hsum]
        simp
        exact hQ _ _ rfl
end Go.Ax
