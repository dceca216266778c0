/- Seat bits: walks and Puts (the law BitsWalks). -/
import Derived.Test.YtpemffaclmpnnaaDoorYU
import Derived.Test.YtpemffaclmpnnaaDoorMW
namespace Go.Ax
open Go.Proofs
set_option linter.unusedVariables false
set_option linter.unusedSimpArgs false
set_option maxRecDepth 1000000

theorem awake3_run (L : Nat → Nat → Option Value) (x y : Value) : (acallN P T 60 (.fn F_colonnadelaw01_awake) [] (hnew (hnew (hnew (heap0 (roBlk tabG L)) [x] 0) [y] 0) [.bool false] 0)).map (fun r => (r.1, r.2.ro, r.2.dyn.take 3)) =
    some (.bool true, roBlk tabG L, (hnew (hnew (hnew (heap0 (roBlk tabG L)) [x] 0) [y] 0) [.bool false] 0).dyn) := by kernel_rfl

theorem awake3_spec (L : Nat → Nat → Option Value) (x y : Value) : Gives P T (.fn F_colonnadelaw01_awake) [] (hnew (hnew (hnew (heap0 (roBlk tabG L)) [x] 0) [y] 0) [.bool false] 0) fun v h' => v = .bool true ∧ h'.ro = roBlk tabG L ∧ RowAt h' 0 0 0 [x] ∧ RowAt h' 1 0 0 [y] ∧ RowAt h' 2 0 0 [.bool false] := by
  have h := awake3_run L x y
  rw [Option.map_eq_some_iff] at h
  obtain ⟨r, h1, h2⟩ := h
  simp only [Prod.mk.injEq] at h2
  obtain ⟨h3, h4, h5⟩ := h2
  have hd : ∀ i, i < 3 → r.2.dyn[i]? = (hnew (hnew (hnew (heap0 (roBlk tabG L)) [x] 0) [y] 0) [.bool false] 0).dyn[i]? := fun i hi => by
    rw [← h5, List.getElem?_take, if_pos hi]
  have r0 := RowAt.new (heap0 (roBlk tabG L)) [x] 0
  have r1 := RowAt.new (hnew (heap0 (roBlk tabG L)) [x] 0) [y] 0
  have r2 := RowAt.new (hnew (hnew (heap0 (roBlk tabG L)) [x] 0) [y] 0) [.bool false] 0
  exact gives_closed h1 ⟨h3, h4, ((r0.grow (Grow.new _ _ _)).grow (Grow.new _ _ _)).same (hd 0 (by omega)), (r1.grow (Grow.new _ _ _)).same (hd 1 (by omega)), r2.same (hd 2 (by omega))⟩

theorem res_cell {t : List Value} {h : Heap} {i : Nat} {a : Addr} {v : Value} (ht : t.getD i undef = .pointer (some a)) (hl : hload h a = some v) : resVals t h [.cell i none] = some [v] := by
  simp only [resVals, ht, aload, hl]

theorem pickW_spec {h : Heap} (k : Int) {n : Nat} (hn : 0 < n) (hn2 : n ≤ 1000000000000) :
    Gives P T (.fn F_colonnadelaw01_pick) [.int .i64 k, .int .i64 n] h fun v h' => v = .int .i64 ((k % n).toNat : Nat) ∧ h' = h := by
  refine gives_by t_colonnadelaw01_pick (by simp [c_colonnadelaw01_pick]) fun Q hQ => ?_
  obtain ⟨h1, h2, h3⟩ := tmod_range k hn
  obtain ⟨r, hr⟩ : ∃ r, k.tmod n = r := ⟨_, rfl⟩
  rw [hr] at h1 h2 h3
  have hx : ¬ ((n : Int) < 1) := by omega
  have hz : ¬ (n : Int) = 0 := by omega
  have hz' : ¬ n = 0 := by omega
  have hp : 0 ≤ k % n := Int.emod_nonneg _ hz
  by_cases hk : r < 0
  · have e : IntKind.i64.wrap (r + n) = r + n := wrap_i64 (by omega) (by omega)
    simp [c_colonnadelaw01_pick, hx, hz, hz', hr, hk, e]
    rw [if_pos hk] at h3
    exact hQ _ _ ⟨by rw [h3]; congr 1; omega, rfl⟩
  · simp [c_colonnadelaw01_pick, hx, hz, hz', hr, hk]
    rw [if_neg hk] at h3
    exact hQ _ _ ⟨by rw [h3]; congr 1; omega, rfl⟩

/-- Numbers as values. -/
def iL (xs : List Nat) : List Value := xs.map fun x => .int .i64 (x : Nat)

/-- The numbers below n that are held. -/
def filt (f : Nat → Bool) (n : Nat) : List Nat := (List.range n).filter f

theorem filt_step (f : Nat → Bool) (n : Nat) : filt f (n + 1) = if f n then filt f n ++ [n] else filt f n := by
  unfold filt
  rw [List.range_succ, List.filter_append]
  cases h : f n <;> simp [h]

theorem filt_len (f : Nat → Bool) : ∀ n, (filt f n).length = cnt f n
  | 0 => rfl
  | n + 1 => by
    rw [filt_step, cnt_step, ← filt_len f n]
    cases f n <;> simp

theorem filt_gap {f : Nat → Bool} {a b : Nat} (hab : a ≤ b) (h : cnt f a = cnt f b) : filt f a = filt f b := by
  obtain ⟨d, rfl⟩ := Nat.le.dest hab
  induction d with
  | zero => rfl
  | succ d ih =>
    rw [← Nat.add_assoc, cnt_step] at h
    have h1 := cnt_mono f (show a ≤ a + d by omega)
    have h2 : f (a + d) = false := by
      cases hf : f (a + d) with
      | false => rfl
      | true => rw [hf] at h; simp at h; omega
    rw [h2] at h
    rw [← Nat.add_assoc, filt_step, h2]
    simp only [Bool.false_eq_true, if_false]
    exact ih (by omega) (by simpa using h)

theorem filt_eq {f : Nat → Bool} {a b : Nat} (h : cnt f a = cnt f b) : filt f a = filt f b := by
  rcases Nat.le_total a b with hab | hab
  · exact filt_gap hab h
  · exact (filt_gap hab h.symm).symm

theorem filt_congr {f g : Nat → Bool} : ∀ n, (∀ i, i < n → f i = g i) → filt f n = filt g n
  | 0, _ => rfl
  | n + 1, h => by rw [filt_step, filt_step, h n (by omega), filt_congr n fun i hi => h i (by omega)]

theorem iL_len (xs : List Nat) : (iL xs).length = xs.length := by simp [iL]
theorem iL_app (xs : List Nat) (x : Nat) : iL (xs ++ [x]) = iL xs ++ [.int .i64 (x : Nat)] := by simp [iL]
theorem iL_get {xs : List Nat} {i : Nat} (h : i < xs.length) : (iL xs)[i]? = some (.int .i64 (xs.getD i 0 : Nat)) := by
  unfold iL
  rw [List.getElem?_map, List.getElem?_eq_getElem h, List.getD_eq_getElem?_getD, List.getElem?_eq_getElem h]; rfl

theorem sameInts_spec {h : Heap} {v v' : Value} {xs : List Nat} (r : Reads h v (iL xs)) (r' : Reads h v' (iL xs)) (hl : xs.length ≤ 1000000000000) :
    Gives P T (.fn F_colonnadelaw01_sameInts) [v, v'] h fun r h' => r = .bool true ∧ h' = h := by
  obtain ⟨b, c, rfl, hr⟩ := r.shape
  obtain ⟨b', c', rfl, hr'⟩ := r'.shape
  simp only [iL_len] at hr hr' ⊢
  obtain ⟨N, hN⟩ : ∃ N, xs.length = N := ⟨_, rfl⟩
  rw [hN] at hr hr' hl ⊢
  refine gives_by t_colonnadelaw01_sameInts (by simp [c_colonnadelaw01_sameInts]) fun Q hQ => ?_
  simp [c_colonnadelaw01_sameInts]
  refine go_loopK (fun kk ks h2 => ∃ (i : Nat), kk = N - i ∧ i ≤ N ∧ ks = [(0, .slice b N c), (1, .slice b' N c'), (5, .int .i64 i)] ∧ h2 = h) (n := N) ⟨0, rfl, by omega, rfl, rfl⟩ (by simp) ?_
  rintro I hI kk ks e h3 ⟨i, rfl, hi, rfl, rfl⟩
  simp
  refine branch_dec (fun hlt => ?_) (fun hge => ?_)
  · have hil : i < N := by omega
    have e4 : IntKind.i64.wrap ((i : Int) + 1) = ((i + 1 : Nat) : Int) := by rw [wrap_i64 (by omega) (by omega)]; omega
    obtain ⟨a, rfl, hla⟩ := hr i hil
    obtain ⟨a', rfl, hla'⟩ := hr' i hil
    have hld := hla i _ (iL_get (by omega))
    have hld' := hla' i _ (iL_get (by omega))
    simp [hil, hld, hld', e4]
    exact ⟨N - (i + 1), by omega, hI _ _ _ _ ⟨i + 1, rfl, by omega, rfl, rfl⟩ (by simp)⟩
  · have hil : i = N := by omega
    subst hil
    simp
    exact hQ _ _ ⟨rfl, rfl⟩

theorem RowAt.put {h : Heap} {q v es : Nat} {x y : Value} (r : RowAt h q v es [x]) (hg : goodC y = true) : ∃ h', hstore h ⟨q, 0, some v⟩ y = some h' ∧ RowAt h' q v es [y] ∧ Chg (· = q) h h' ∧ h'.dyn.length = h.dyn.length := by
  obtain ⟨h', e, r', c', n'⟩ := r.store (i := 0) (by simp) hg
  exact ⟨h', e, by simpa using r', c', n'⟩

def allV (d : Nat) : Value := .func (.func F_bits_Set_All_1) #[] #[.pointer (some ⟨d, 0, some 0⟩)]

/-- What the law has in memory: its boxes, the set, the two lists. -/
structure WSt (h : Heap) (vb vt : Value) (p q n d5 dc d6 d7 d8 : Nat) (ws : List (BitVec 64)) (ul um : Value) (ql qm : Nat) (ll mm : List Value) : Prop where
  b0 : RowAt h 0 0 0 [vb]
  b1 : RowAt h 1 0 0 [vt]
  b2 : RowAt h 2 0 0 [.bool false]
  b5 : RowAt h d5 0 0 [ptr p]
  bc : RowAt h dc 0 0 [ptr p]
  b6 : RowAt h d6 0 0 [allV dc]
  b7 : RowAt h d7 0 0 [ul]
  b8 : RowAt h d8 0 0 [um]
  s : SetAt h p q n ws
  cn : Canon n ws
  ol : Own h ul ql ll
  om : Own h um qm mm
  o1 : 2 < p
  o2 : 2 < q
  o3 : p < d5
  o4 : q < d5
  o5 : d5 < dc
  o6 : dc < d6
  o7 : d6 < d7
  o8 : d7 < d8
  hul : ul ≠ nilS → d8 < ql
  hum : um ≠ nilS → d8 < qm
  hlm : ul ≠ nilS → um ≠ nilS → ql ≠ qm

theorem WSt.chgL {S : Nat → Prop} {h h' : Heap} {vb vt : Value} {p q n d5 dc d6 d7 d8 : Nat} {ws : List (BitVec 64)} {ul um : Value} {ql qm : Nat} {ll mm : List Value} (w : WSt h vb vt p q n d5 dc d6 d7 d8 ws ul um ql qm ll mm)
    (g : ChgL S h h') (hs : ∀ b, b ≤ d8 → ¬ S b) (hl : ul ≠ nilS → ¬ S ql) (hm : um ≠ nilS → ¬ S qm) : WSt h' vb vt p q n d5 dc d6 d7 d8 ws ul um ql qm ll mm := by
  obtain ⟨b0, b1, b2, b5, bc, b6, b7, b8, s, cn, ol, om, o1, o2, o3, o4, o5, o6, o7, o8, hul, hum, lm⟩ := w
  exact ⟨b0.chgL g (hs _ (by omega)), b1.chgL g (hs _ (by omega)), b2.chgL g (hs _ (by omega)), b5.chgL g (hs _ (by omega)), bc.chgL g (hs _ (by omega)), b6.chgL g (hs _ (by omega)), b7.chgL g (hs _ (by omega)), b8.chgL g (hs _ (by omega)),
    s.chgL g (hs _ (by omega)) (hs _ (by omega)), cn, ((ol.lps []).chgN g hl).unlps, ((om.lps []).chgN g hm).unlps, o1, o2, o3, o4, o5, o6, o7, o8, hul, hum, lm⟩

theorem WSt.growL {h h' : Heap} {vb vt : Value} {p q n d5 dc d6 d7 d8 : Nat} {ws : List (BitVec 64)} {ul um : Value} {ql qm : Nat} {ll mm : List Value} (w : WSt h vb vt p q n d5 dc d6 d7 d8 ws ul um ql qm ll mm) (g : GrowL h h') :
    WSt h' vb vt p q n d5 dc d6 d7 d8 ws ul um ql qm ll mm := w.chgL g (fun _ _ => id) (fun _ => id) (fun _ => id)

theorem growL_lps (h : Heap) (m : List Lp) : GrowL h (hlps h m) := ⟨rfl, rfl, Nat.le_refl _, fun _ _ _ => rfl⟩

theorem WSt.lt {h : Heap} {vb vt : Value} {p q n d5 dc d6 d7 d8 : Nat} {ws : List (BitVec 64)} {ul um : Value} {ql qm : Nat} {ll mm : List Value} (w : WSt h vb vt p q n d5 dc d6 d7 d8 ws ul um ql qm ll mm) : d8 < h.dyn.length := w.b8.lt

/-- A push onto the first list. -/
theorem WSt.pushL {h : Heap} {vb vt : Value} {p q n d5 dc d6 d7 d8 : Nat} {ws : List (BitVec 64)} {ul um : Value} {ql qm : Nat} {ll mm : List Value} (w : WSt h vb vt p q n d5 dc d6 d7 d8 ws ul um ql qm ll mm) {x : Value} (hg : goodC x = true) (hl : ll.length ≤ 1000000000) :
    ∃ u h1 h2 ql2, aappend (hnew h [x] 1) 1 8 [.int .i64 0] ul (.slice (some ⟨h.dyn.length, 0, some 0⟩) 1 1) = some (u, h1) ∧ goodC u = true ∧ hstore h1 ⟨d7, 0, some 0⟩ u = some h2 ∧ WSt h2 vb vt p q n d5 dc d6 d7 d8 ws u um ql2 qm (ll ++ [x]) mm ∧
      Chg (fun b => (b = ql ∧ ul ≠ nilS) ∨ b = d7) h h2 ∧ (ql2 = ql ∧ ul ≠ nilS ∨ h.dyn.length ≤ ql2) := by
  obtain ⟨u, h1, q1, e1, o1, c1, l1, dd⟩ := w.ol.push (bytes := 8) (z := .int .i64 0) hg (by omega) (by omega)
  have dl := own_low dd
  have lt8 := w.lt
  have W := w.hul
  have Wm := w.hum
  have Wlm := w.hlm
  have O8 := w.o8
  have b7 : RowAt h1 d7 0 0 [ul] := w.b7.chg c1 (fun e => by have := W e.2; have := e.1; omega)
  obtain ⟨h2, e2, b7', c2, n2⟩ := b7.put (o1.good)
  have hq1 : d8 < q1 := by
    rcases dl with ⟨h3, h4⟩ | h3
    · have := W h4; omega
    · omega
  have C : Chg (fun b => (b = ql ∧ ul ≠ nilS) ∨ b = d7) h h2 := (c1.mono fun b _ e => .inl e).trans (c2.mono fun b _ e => .inr e)
  have kl := c1.len
  refine ⟨u, h1, h2, q1, e1, o1.good, e2, ?_, C, dl⟩
  obtain ⟨b0, b1, b2, b5, bc, b6, b7o, b8, s, cn, ol, om, k1, k2, k3, k4, k5, k6, k7, k8, hul, hum, lm⟩ := w
  have ns : ∀ b, b ≤ d8 → b ≠ d7 → ¬ ((b = ql ∧ ul ≠ nilS) ∨ b = d7) := fun b hb hb7 e => by
    rcases e with ⟨h3, h4⟩ | h3
    · have := W h4; omega
    · exact hb7 h3
  refine ⟨b0.chg C (ns _ (by omega) (by omega)), b1.chg C (ns _ (by omega) (by omega)), b2.chg C (ns _ (by omega) (by omega)), b5.chg C (ns _ (by omega) (by omega)), bc.chg C (ns _ (by omega) (by omega)), b6.chg C (ns _ (by omega) (by omega)), b7', b8.chg C (ns _ (by omega) (by omega)),
    s.chg C (ns _ (by omega) (by omega)) (ns _ (by omega) (by omega)), cn, o1.chg c2 (by omega), om.chgN C (fun hu e => ?_), k1, k2, k3, k4, k5, k6, k7, k8, fun _ => hq1, hum, fun hu hu2 => ?_⟩
  · rcases e with ⟨h3, h4⟩ | h3
    · exact lm h4 hu h3.symm
    · have := hum hu; omega
  · rcases dl with ⟨h3, h4⟩ | h3
    · rw [h3]; exact lm h4 hu2
    · have := om.lt' hu2; omega

/-- A push onto the second list. -/
theorem WSt.pushM {h : Heap} {vb vt : Value} {p q n d5 dc d6 d7 d8 : Nat} {ws : List (BitVec 64)} {ul um : Value} {ql qm : Nat} {ll mm : List Value} (w : WSt h vb vt p q n d5 dc d6 d7 d8 ws ul um ql qm ll mm) {x : Value} (hg : goodC x = true) (hl : mm.length ≤ 1000000000) :
    ∃ u h1 h2 qm2, aappend (hnew h [x] 1) 1 8 [.int .i64 0] um (.slice (some ⟨h.dyn.length, 0, some 0⟩) 1 1) = some (u, h1) ∧ goodC u = true ∧ hstore h1 ⟨d8, 0, some 0⟩ u = some h2 ∧ WSt h2 vb vt p q n d5 dc d6 d7 d8 ws ul u ql qm2 ll (mm ++ [x]) ∧
      Chg (fun b => (b = qm ∧ um ≠ nilS) ∨ b = d8) h h2 ∧ (qm2 = qm ∧ um ≠ nilS ∨ h.dyn.length ≤ qm2) := by
  obtain ⟨u, h1, q1, e1, o1, c1, l1, dd⟩ := w.om.push (bytes := 8) (z := .int .i64 0) hg (by omega) (by omega)
  have dl := own_low dd
  have lt8 := w.lt
  have W := w.hum
  have Wl := w.hul
  have O8 := w.o8
  have b8 : RowAt h1 d8 0 0 [um] := w.b8.chg c1 (fun e => by have := W e.2; have := e.1; omega)
  obtain ⟨h2, e2, b8', c2, n2⟩ := b8.put (o1.good)
  have hq1 : d8 < q1 := by
    rcases dl with ⟨h3, h4⟩ | h3
    · have := W h4; omega
    · omega
  have C : Chg (fun b => (b = qm ∧ um ≠ nilS) ∨ b = d8) h h2 := (c1.mono fun b _ e => .inl e).trans (c2.mono fun b _ e => .inr e)
  have kl := c1.len
  refine ⟨u, h1, h2, q1, e1, o1.good, e2, ?_, C, dl⟩
  obtain ⟨b0, b1, b2, b5, bc, b6, b7, b8o, s, cn, ol, om, k1, k2, k3, k4, k5, k6, k7, k8, hul, hum, lm⟩ := w
  have ns : ∀ b, b < d8 → ¬ ((b = qm ∧ um ≠ nilS) ∨ b = d8) := fun b hb e => by
    rcases e with ⟨h3, h4⟩ | h3
    · have := W h4; omega
    · omega
  refine ⟨b0.chg C (ns _ (by omega)), b1.chg C (ns _ (by omega)), b2.chg C (ns _ (by omega)), b5.chg C (ns _ (by omega)), bc.chg C (ns _ (by omega)), b6.chg C (ns _ (by omega)), b7.chg C (ns _ (by omega)), b8',
    s.chg C (ns _ (by omega)) (ns _ (by omega)), cn, ol.chgN C (fun hu e => ?_), o1.chg c2 (by omega), k1, k2, k3, k4, k5, k6, k7, k8, hul, fun _ => hq1, fun hu hu2 => ?_⟩
  · rcases e with ⟨h3, h4⟩ | h3
    · exact lm hu h4 h3
    · have := hul hu; omega
  · rcases dl with ⟨h3, h4⟩ | h3
    · rw [h3]; exact lm hu h4
    · have := ol.lt' hu; omega

/-- A Put. -/
theorem WSt.turn {h h' : Heap} {vb vt : Value} {p q n d5 dc d6 d7 d8 : Nat} {ws ws2 : List (BitVec 64)} {ul um : Value} {ql qm : Nat} {ll mm : List Value} (w : WSt h vb vt p q n d5 dc d6 d7 d8 ws ul um ql qm ll mm)
    (s2 : SetAt h' p q n ws2) (c2 : Canon n ws2) (C : Chg (· = q) h h') : WSt h' vb vt p q n d5 dc d6 d7 d8 ws2 ul um ql qm ll mm := by
  obtain ⟨b0, b1, b2, b5, bc, b6, b7, b8, s, cn, ol, om, k1, k2, k3, k4, k5, k6, k7, k8, hul, hum, lm⟩ := w
  exact ⟨b0.chg C (by omega), b1.chg C (by omega), b2.chg C (by omega), b5.chg C (by omega), bc.chg C (by omega), b6.chg C (by omega), b7.chg C (by omega), b8.chg C (by omega), s2, c2,
    ol.chgN C (fun hu e => by have := hul hu; omega), om.chgN C (fun hu e => by have := hum hu; omega), k1, k2, k3, k4, k5, k6, k7, k8, hul, hum, lm⟩

end Go.Ax
