/- The machine: lists that lie apart, written full; what stands at the end. -/
import Derived.Test.YtpemffaclmpnnaaDoorMV
namespace Go.Ax
set_option linter.unusedVariables false
set_option linter.unusedSimpArgs false

/-- Lists that are being written full: up to list i, and there up to k. -/
structure Ph1 (h0 h : Heap) (n qv : Nat) (V : Nat → Value) (qs ns : Nat → Nat) (A : Nat → Value) (i k : Nat) : Prop where
  own : ∀ j, j < n → ∃ L, L.length = ns j ∧ Own h (V j) (qs j) L ∧ ∀ x y, L[x]? = some y → (j < i ∨ j = i ∧ x < k) → y = A j
  row : RowAt h qv 0 1 ((List.range n).map V)
  chg : Chg (fun b => ∃ j, j < n ∧ b = qs j) h0 h
  lists : Lists h0 n qv V qs ns
  qv : qv < h0.dyn.length

theorem Ph1.init {h : Heap} {n qv : Nat} {V : Nat → Value} {qs ns : Nat → Nat} {A : Nat → Value} (L : Lists h n qv V qs ns) (row : RowAt h qv 0 1 ((List.range n).map V)) : Ph1 h h n qv V qs ns A 0 0 :=
  ⟨fun j hj => by obtain ⟨l, h1, h2⟩ := L.own j hj; exact ⟨l, h1, h2, fun x y _ hc => by omega⟩, row, Chg.refl _, L, row.lt⟩

theorem range_get {n i : Nat} {V : Nat → Value} (hi : i < n) : ((List.range n).map V)[i]? = some (V i) := by
  rw [List.getElem?_map, List.getElem?_range hi]; rfl

theorem Ph1.shape {h0 h : Heap} {n qv : Nat} {V : Nat → Value} {qs ns : Nat → Nat} {A : Nat → Value} {i k : Nat} (p : Ph1 h0 h n qv V qs ns A i k) {j : Nat} (hj : j < n) : ∃ b c, V j = .slice b (ns j) c := by
  obtain ⟨L, h1, h2, _⟩ := p.own j hj
  obtain ⟨b, c, e, _⟩ := h2.shape
  exact ⟨b, c, by rw [e, h1]⟩

theorem Ph1.step {h0 h : Heap} {n qv : Nat} {V : Nat → Value} {qs ns : Nat → Nat} {A : Nat → Value} {i k : Nat} (p : Ph1 h0 h n qv V qs ns A i k) (hi : i < n) (hk : k < ns i) (hg : goodC (A i) = true) :
    ∃ u c h', V i = .slice (some ⟨qs i, 0, some u⟩) (ns i) c ∧ hstore h ⟨qs i, k, some u⟩ (A i) = some h' ∧ Ph1 h0 h' n qv V qs ns A i (k + 1) := by
  obtain ⟨L, h1, h2, h3⟩ := p.own i hi
  obtain ⟨u, c, h', e, es, o', c', _⟩ := h2.set (i := k) (by omega) (x := A i) hg
  refine ⟨u, c, h', by rw [e, h1], es, ⟨fun j hj => ?_, p.row.chg c' (fun e => p.lists.ne i hi e.symm), p.chg.trans (c'.mono fun b _ e => ⟨i, hi, e⟩), p.lists, p.qv⟩⟩
  by_cases hji : j = i
  · subst hji
    refine ⟨L.set k (A j), by simpa using h1, o', fun x y hx hc => ?_⟩
    by_cases hxk : x = k
    · subst hxk
      rw [List.getElem?_set_self (by omega)] at hx
      exact (Option.some.inj hx).symm
    · rw [List.getElem?_set_ne (fun e => hxk e.symm)] at hx
      exact h3 x y hx (by omega)
  · obtain ⟨L2, h4, h5, h6⟩ := p.own j hj
    exact ⟨L2, h4, h5.chg c' (fun e => hji (p.lists.inj j i hj hi e)), fun x y hx hc => h6 x y hx (by omega)⟩

theorem Ph1.next {h0 h : Heap} {n qv : Nat} {V : Nat → Value} {qs ns : Nat → Nat} {A : Nat → Value} {i k : Nat} (p : Ph1 h0 h n qv V qs ns A i k) (hk : ns i ≤ k) : Ph1 h0 h n qv V qs ns A (i + 1) 0 :=
  ⟨fun j hj => by
    obtain ⟨L, h1, h2, h3⟩ := p.own j hj
    refine ⟨L, h1, h2, fun x y hx hc => h3 x y hx ?_⟩
    by_cases hji : j = i
    · subst hji
      right
      have := (List.getElem?_eq_some_iff.1 hx).1
      omega
    · omega, p.row, p.chg, p.lists, p.qv⟩

theorem list_all_eq {α : Type} {l : List α} {a : α} (h : ∀ (x : Nat) y, l[x]? = some y → y = a) : l = List.replicate l.length a := by
  apply List.ext_getElem?
  intro i
  by_cases hi : i < l.length
  · rw [List.getElem?_replicate, if_pos hi, List.getElem?_eq_getElem hi]
    rw [h i _ (List.getElem?_eq_getElem hi)]
  · rw [List.getElem?_eq_none (by omega), List.getElem?_eq_none (by simp; omega)]

/-- All are written full: the growing begins. -/
theorem Ph1.mid {h0 h : Heap} {n qv : Nat} {V : Nat → Value} {qs ns : Nat → Nat} {A B : Nat → Value} {k : Nat} (p : Ph1 h0 h n qv V qs ns A n k) (hn : 0 < n) :
    Mid h h n qv 0 0 0 0 (qs 0) V qs ns A B (V 0) nilS nilS [] := by
  have hown : ∀ j, j < n → Own h (V j) (qs j) (repR ns A B j 0) := by
    intro j hj
    obtain ⟨L, h1, h2, h3⟩ := p.own j hj
    have : L = repR ns A B j 0 := by
      rw [list_all_eq fun x y hx => h3 x y hx (.inl hj), h1]; simp [repR]
    rw [← this]; exact h2
  have hlen := p.chg.len
  refine ⟨hown 0 hn, .inl ⟨rfl, fun w m c e _ => ⟨m, e⟩, fun w m c e _ => ⟨m, e⟩⟩, .inl ⟨rfl, rfl⟩, .inl ⟨rfl, rfl⟩, fun e => absurd rfl e, fun e => absurd rfl e, fun e => absurd rfl e, fun e => absurd rfl e, fun e => absurd rfl e,
    fun j hj => (hown j hj).reads, fun j hj a m c e => ?_, fun j _ hj => hown j hj, p.row, fun e he => by simp at he, Chg.refl _, fun j hj => by have := p.lists.lt j hj; omega, p.lists.inj, p.lists.ne, by have := p.qv; omega, hn⟩
  rcases hown j hj with ⟨e2, _⟩ | ⟨u, e2, _⟩ | ⟨u, rest, e2, _⟩
  · rw [e] at e2; simp at e2
  · rw [e] at e2; simp at e2; rw [e2.1]; exact ⟨rfl, rfl⟩
  · rw [e] at e2; simp at e2; rw [e2.1]; exact ⟨rfl, rfl⟩

theorem Mid.curE {hb h : Heap} {n qv qm qw i k qc : Nat} {V : Nat → Value} {qs ns : Nat → Nat} {A B : Nat → Value} {vm um uw : Value} {E : List (Value × Nat × Nat)} (M : Mid hb h n qv qm qw i k qc V qs ns A B vm um uw E) : qc < h.dyn.length := by
  have := M.chg.len
  rcases M.cs with ⟨h1, _⟩ | ⟨_, h1, _⟩
  · have := M.lt i M.iN; omega
  · exact h1

/-- One of what was kept. -/
theorem Mid.look {hb h : Heap} {n qv qm qw i k qc : Nat} {V : Nat → Value} {qs ns : Nat → Nat} {A B : Nat → Value} {vm um uw : Value} {E : List (Value × Nat × Nat)} (M : Mid hb h n qv qm qw i k qc V qs ns A B vm um uw E)
    {j : Nat} (hj : j < E.length) : ∃ bm cm bw cw a c w z, um = .slice (some bm) E.length cm ∧ uw = .slice (some bw) E.length cw ∧ w < n ∧ z ≤ 1000000 ∧ hload h (aadd bw j) = some (.int .i64 (w : Nat)) ∧ hload h (aadd bm j) = some (.slice (some a) (ns w + z) c) ∧
      ∀ x, x < ns w + z → hload h (aadd a x) = some (if x < ns w then A w else B w) := by
  obtain ⟨bm, cm, em, _, lm⟩ := M.more.get (i := j) (x := E[j].1) (by simp [hj])
  obtain ⟨bw, cw, ew, _, lw⟩ := M.whose.get (i := j) (x := .int .i64 (E[j].2.1 : Nat)) (by simp [hj])
  have Ee := M.ents E[j] (List.getElem_mem hj)
  obtain ⟨a, c, u, h1, _, _, h4, _⟩ := Ee.ex
  refine ⟨bm, cm, bw, cw, a, c, E[j].2.1, E[j].2.2, by simpa using em, by simpa using ew, Ee.lt, Ee.sm, lw, by rw [← h1]; exact lm, fun x hx => h4 x _ (repR_get hx)⟩

theorem Mid.oshape {hb h : Heap} {n qv qm qw i k qc : Nat} {V : Nat → Value} {qs ns : Nat → Nat} {A B : Nat → Value} {vm um uw : Value} {E : List (Value × Nat × Nat)} (M : Mid hb h n qv qm qw i k qc V qs ns A B vm um uw E)
    {j : Nat} (hj : j < n) : ∃ b c, V j = .slice b (ns j) c ∧ ∀ x, x < ns j → ∃ a, b = some a ∧ hload h (aadd a x) = some (A j) := by
  obtain ⟨b, c, e, hr⟩ := (M.orig j hj).shape
  rw [repR_len, Nat.add_zero] at e
  refine ⟨b, c, e, fun x hx => ?_⟩
  obtain ⟨a, hb, hl⟩ := hr x (by rw [repR_len]; omega)
  refine ⟨a, hb, hl x _ ?_⟩
  rw [repR_get (by omega), if_pos hx]

/-- Lists apart, one by one: what each is, its block, what it holds. -/
theorem lists_of {h : Heap} {qv : Nat} {l : List (Value × Nat × List Value)} (own : ∀ t ∈ l, Own h t.1 t.2.1 t.2.2 ∧ t.2.1 < h.dyn.length ∧ t.2.1 ≠ qv ∧ t.2.2.length ≤ 1073741824) (nd : (l.map (·.2.1)).Nodup) :
    Lists h l.length qv (fun j => (l.getD j (nilS, 0, [])).1) (fun j => (l.getD j (nilS, 0, [])).2.1) (fun j => (l.getD j (nilS, 0, [])).2.2.length) := by
  have mem : ∀ j, (hj : j < l.length) → l.getD j (nilS, 0, []) = l[j] ∧ l[j] ∈ l := fun j hj => ⟨by rw [List.getD_eq_getElem?_getD, List.getElem?_eq_getElem hj]; rfl, List.getElem_mem hj⟩
  refine ⟨fun i hi => ?_, fun i hi => ?_, fun i j hi hj e => ?_, fun i hi => ?_, fun i hi => ?_⟩
  · obtain ⟨h1, h2⟩ := mem i hi
    simp only [h1]
    exact ⟨_, rfl, (own _ h2).1⟩
  · obtain ⟨h1, h2⟩ := mem i hi
    simp only [h1]
    exact (own _ h2).2.1
  · obtain ⟨h1, h2⟩ := mem i hi
    obtain ⟨h3, h4⟩ := mem j hj
    simp only [h1, h3] at e
    have := (List.getElem_inj (xs := l.map (·.2.1)) (i := i) (j := j) (h₀ := by simpa using hi) (h₁ := by simpa using hj) nd).1 (by simpa using e)
    exact this
  · obtain ⟨h1, h2⟩ := mem i hi
    simp only [h1]
    exact (own _ h2).2.2.1
  · obtain ⟨h1, h2⟩ := mem i hi
    simp only [h1]
    exact (own _ h2).2.2.2

theorem range_map_getD {l : List (Value × Nat × List Value)} : (List.range l.length).map (fun j => (l.getD j (nilS, 0, [])).1) = l.map (·.1) := by
  apply List.ext_getElem?
  intro i
  by_cases hi : i < l.length
  · rw [List.getElem?_map, List.getElem?_range hi, List.getElem?_map, List.getElem?_eq_getElem hi]
    simp [hi]
  · rw [List.getElem?_eq_none (by simp; omega), List.getElem?_eq_none (by simp; omega)]

/-- A list in memory of its own, out of what can be read (a literal of nothing, then the append). -/
theorem clone_any {h : Heap} {v : Value} {l : List Value} {bytes : Nat} {z : Value} (r : Reads h v l) (hg : l.all goodC = true) (hb : l.length * bytes ≤ 140737488355328) (hb' : l.length ≤ 140737488355328) :
    ∃ v1 h1 q1, aappend (hnew h [] 1) 1 bytes [z] (.slice (some ⟨h.dyn.length, 0, some 0⟩) 0 0) v = some (v1, h1) ∧ Own h1 v1 q1 l ∧ Grow h h1 ∧ h.dyn.length ≤ q1 ∧ q1 < h1.dyn.length ∧ v1 ≠ nilS := by
  have hv : slen v = some l.length ∧ firstN (hnew h [] 1) 1 l.length v = some l := by
    rcases r.grow (Grow.new h [] 1) with ⟨rfl, h0⟩ | ⟨a, c, rfl, hl⟩
    · rw [h0]; exact ⟨rfl, rfl⟩
    · refine ⟨rfl, ?_⟩
      simp only [firstN, Nat.mul_one]
      exact loadN_of _ _ hl
  have own0 : Own (hnew h [] 1) (.slice (some ⟨h.dyn.length, 0, some 0⟩) 0 0) h.dyn.length [] := .inr (.inr ⟨0, [], rfl, by decide, RowAt.new _ _ _⟩)
  by_cases h0 : l = []
  · subst h0
    have e := own0.app0 (by simp) (bytes := bytes) (z := z) hv.1 hv.2
    exact ⟨_, _, h.dyn.length, e, own0, Grow.new _ _ _, Nat.le_refl _, by simp, by simp [nilS]⟩
  · obtain ⟨v', h', q', e, o, c, l', d⟩ := own0.app (bytes := bytes) (z := z) h0 hv.1 hv.2 hg (by simpa using hb) (by simpa using hb')
    refine ⟨v', h', q', e, by simpa using o, (Grow.new h [] 1).after c fun n hn hb => by have := hb.1; omega, ?_, l', fun e1 => ?_⟩
    · rcases d with ⟨h1, _⟩ | h1
      · omega
      · rw [h1]; simp
    · obtain ⟨b, m, ht⟩ := aappend_top e hv.1 (by simpa using h0) (fun b n c e => by cases e; exact .inr (.inr (Nat.le_refl _)))
      rw [ht] at e1; simp [nilS, gcap] at e1

theorem Own.ne {h : Heap} {v : Value} {q : Nat} {l : List Value} (o : Own h v q l) (hl : l ≠ []) : v ≠ nilS := by
  rcases o with ⟨_, e⟩ | ⟨u, rfl, _⟩ | ⟨u, rest, rfl, _⟩
  · exact absurd e hl
  · simp [nilS]
  · simp [nilS]

theorem Own.good {h : Heap} {v : Value} {q : Nat} {l : List Value} (o : Own h v q l) : goodC v = true := by
  obtain ⟨b, cc, e, _⟩ := o.shape
  rw [e]; simp

theorem Own.lt' {h : Heap} {v : Value} {q : Nat} {l : List Value} (o : Own h v q l) (hv : v ≠ nilS) : q < h.dyn.length := o.lt.resolve_left fun e => hv e.1

theorem Reads.first {h : Heap} {v : Value} {l : List Value} (r : Reads h v l) : slen v = some l.length ∧ firstN h 1 l.length v = some l := by
  rcases r with ⟨rfl, h0⟩ | ⟨a, c, rfl, hl⟩
  · rw [h0]; exact ⟨rfl, rfl⟩
  · refine ⟨rfl, ?_⟩
    simp only [firstN, Nat.mul_one]
    exact loadN_of _ _ hl

/-- A list is written over with one of the same length. -/
theorem Own.copy {h : Heap} {v x : Value} {q : Nat} {l m : List Value} (o : Own h v q l) (r : Reads h x m) (hl : m.length = l.length) (hg : m.all goodC = true) :
    ∃ h', acopy h 1 v x = some (.int .i64 l.length, h') ∧ Own h' v q m ∧ Chg (· = q) h h' ∧ h'.dyn.length = h.dyn.length := by
  obtain ⟨f1, f2⟩ := r.first
  rw [hl] at f1 f2
  rcases o with ⟨rfl, rfl⟩ | ⟨u, rfl, w⟩ | ⟨u, rest, rfl, hc, w⟩
  · have : m = [] := by simpa using hl
    subst this
    refine ⟨h, ?_, .inl ⟨rfl, rfl⟩, Chg.refl _, rfl⟩
    simp only [List.length_nil] at f1 f2 ⊢
    simp [acopy, f1, f2]
  · obtain ⟨h', e, w', c', n'⟩ := w.storeN m 0 (by omega) hg
    refine ⟨h', ?_, .inr (.inl ⟨u, by rw [hl], ?_⟩), c', n'⟩
    · simp only [acopy, f1, Nat.min_self, f2, e]
    · have : l.take 0 ++ m ++ l.drop (0 + m.length) = m := by simp [hl]
      rw [this] at w'; exact w'
  · obtain ⟨h', e, w', c', n'⟩ := w.storeN m 0 (by simp; omega) hg
    refine ⟨h', ?_, .inr (.inr ⟨u, rest, by rw [hl], by rw [hl]; exact hc, ?_⟩), c', n'⟩
    · simp only [acopy, f1, Nat.min_self, f2, e]
    · have : (l ++ rest).take 0 ++ m ++ (l ++ rest).drop (0 + m.length) = m ++ rest := by simp [hl]
      rw [this] at w'; exact w'

end Go.Ax
