/- The machine: lists that lie apart, grown and looked at. -/
import Derived.Test.YtpemffaclmpnnaaDoorMU
namespace Go.Ax
set_option linter.unusedVariables false
set_option linter.unusedSimpArgs false

/-- Lists in blocks of their own. -/
structure Lists (h : Heap) (n qv : Nat) (V : Nat → Value) (qs ns : Nat → Nat) : Prop where
  own : ∀ i, i < n → ∃ L, L.length = ns i ∧ Own h (V i) (qs i) L
  lt : ∀ i, i < n → qs i < h.dyn.length
  inj : ∀ i j, i < n → j < n → qs i = qs j → i = j
  ne : ∀ i, i < n → qs i ≠ qv
  small : ∀ i, i < n → ns i ≤ 1073741824

/-- What a push of one thing makes of a slice: no known room, or the same room. -/
theorem aappend_base {h h' : Heap} {es bytes n : Nat} {zero : List Value} {v x : Value} {b' : Option Addr} {n' c' : Nat} (e : aappend h es bytes zero v x = some (.slice b' n' c', h')) (hn : slen x = some n) (h0 : n ≠ 0) :
    c' = gcap ∨ ∃ n0, v = .slice b' n0 c' ∧ c' < gcap := by
  cases v with
  | slice b len c =>
    simp only [aappend, hn] at e
    split at e
    · cases e
    · rw [if_neg h0] at e
      split at e
      · cases e
      · cases b with
        | none =>
          simp only [appNew] at e
          split at e
          · split at e
            · cases e; exact .inl rfl
            · cases e
          · cases e
        | some a =>
          simp only at e
          by_cases hc : c < gcap
          · rw [if_pos hc] at e
            split at e
            · split at e
              · cases e; exact .inr ⟨len, rfl, hc⟩
              · cases e
            · split at e
              · simp only [appNew] at e
                split at e
                · cases e; exact .inl rfl
                · cases e
              · cases e
          · rw [if_neg hc] at e
            split at e
            · split at e
              · cases e
              · split at e
                · split at e
                  · cases e; exact .inl rfl
                  · cases e
                · cases e
            · cases e
  | _ => simp [aappend] at e

/-- From a slice of known room: the same place, or a new block. -/
theorem aappend_known {h h' : Heap} {es bytes n len c : Nat} {zero : List Value} {a : Addr} {x v' : Value} (hc : c < gcap) (e : aappend h es bytes zero (.slice (some a) len c) x = some (v', h')) (hn : slen x = some n) (h0 : n ≠ 0) :
    (∃ m, v' = .slice (some a) m c) ∨ ∃ m, v' = .slice (some (hnext h)) m gcap := by
  simp only [aappend, hn] at e
  split at e
  · cases e
  · rw [if_neg h0] at e
    split at e
    · cases e
    · split at e
      · split at e
        · cases e; exact .inl ⟨_, rfl⟩
        · cases e
      · split at e
        · simp only [appNew] at e
          split at e
          · cases e; exact .inr ⟨_, rfl⟩
          · cases e
        · cases e

def nilS : Value := .slice none 0 0

theorem Own.chgN {S : Nat → Prop} {h h' : Heap} {v : Value} {q : Nat} {l : List Value} (o : Own h v q l) (k : Chg S h h') (hs : v ≠ nilS → ¬ S q) : Own h' v q l := by
  rcases o with o | ⟨u, h1, h2⟩ | ⟨u, rest, h1, h3, h2⟩
  · exact .inl o
  · exact .inr (.inl ⟨u, h1, h2.chg k (hs (by rw [h1]; simp [nilS]))⟩)
  · exact .inr (.inr ⟨u, rest, h1, h3, h2.chg k (hs (by rw [h1]; simp [nilS]))⟩)

/-- What a list has when it was grown by k. -/
def repR (ns : Nat → Nat) (A B : Nat → Value) (i k : Nat) : List Value := List.replicate (ns i) (A i) ++ List.replicate k (B i)
theorem repR_len (ns : Nat → Nat) (A B : Nat → Value) (i k : Nat) : (repR ns A B i k).length = ns i + k := by simp [repR]
theorem repR_succ (ns : Nat → Nat) (A B : Nat → Value) (i k : Nat) : repR ns A B i (k + 1) = repR ns A B i k ++ [B i] := by simp [repR, List.replicate_succ']
theorem repR_get {ns : Nat → Nat} {A B : Nat → Value} {i k j : Nat} (hj : j < ns i + k) : (repR ns A B i k)[j]? = some (if j < ns i then A i else B i) := by
  unfold repR
  by_cases h : j < ns i
  · rw [List.getElem?_append_left (by simpa using h), if_pos h]; simp [h]
  · rw [List.getElem?_append_right (by simp; omega), if_neg h, List.getElem?_replicate, if_pos (by simp; omega)]

/-- A slice of a list's that stays readable. -/
structure Ent (h : Heap) (base n qm qw i k qc : Nat) (V : Nat → Value) (qs ns : Nat → Nat) (A B : Nat → Value) (um uw : Value) (e : Value × Nat × Nat) : Prop where
  lt : e.2.1 < n
  le : e.2.1 ≤ i
  ke : e.2.1 = i → e.2.2 ≤ k
  sm : e.2.2 ≤ 1000000
  ex : ∃ a c u, e.1 = .slice (some a) (ns e.2.1 + e.2.2) c ∧ a.off = 0 ∧ a.spot = some u ∧ (∀ idx x, (repR ns A B e.2.1 e.2.2)[idx]? = some x → hload h (aadd a idx) = some x) ∧
    (a.block = qs e.2.1 ∧ (∀ w m c', V e.2.1 = .slice (some ⟨qs e.2.1, 0, some w⟩) m c' → c' < gcap → u = w) ∨ base ≤ a.block) ∧ a.block < h.dyn.length ∧ (um ≠ nilS → a.block ≠ qm) ∧ (uw ≠ nilS → a.block ≠ qw) ∧ (e.2.1 = i ∨ a.block ≠ qc)

structure Mid (hb h : Heap) (n qv qm qw i k qc : Nat) (V : Nat → Value) (qs ns : Nat → Nat) (A B : Nat → Value) (vm um uw : Value) (E : List (Value × Nat × Nat)) : Prop where
  cur : Own h vm qc (repR ns A B i k)
  cs : (qc = qs i ∧ (∀ w m c, V i = .slice (some ⟨qs i, 0, some w⟩) m c → c < gcap → ∃ m', vm = .slice (some ⟨qs i, 0, some w⟩) m' c) ∧ (∀ w m c, vm = .slice (some ⟨qs i, 0, some w⟩) m c → c < gcap → ∃ m', V i = .slice (some ⟨qs i, 0, some w⟩) m' c)) ∨
    (hb.dyn.length ≤ qc ∧ qc < h.dyn.length ∧ ∀ a m c, vm = .slice (some a) m c → ¬ c < gcap)
  more : Own h um qm (E.map (·.1))
  whose : Own h uw qw (E.map fun e => .int .i64 (e.2.1 : Nat))
  qmw : um ≠ nilS → uw ≠ nilS → qm ≠ qw
  qmc : um ≠ nilS → qm ≠ qc
  qwc : uw ≠ nilS → qw ≠ qc
  qmb : um ≠ nilS → hb.dyn.length ≤ qm
  qwb : uw ≠ nilS → hb.dyn.length ≤ qw
  orig : ∀ j, j < n → Reads h (V j) (repR ns A B j 0)
  origb : ∀ j, j < n → ∀ a m c, V j = .slice (some a) m c → a.block = qs j ∧ a.off = 0
  rest : ∀ j, i < j → j < n → Own h (V j) (qs j) (repR ns A B j 0)
  row : RowAt h qv 0 1 ((List.range n).map V)
  ents : ∀ e ∈ E, Ent h hb.dyn.length n qm qw i k qc V qs ns A B um uw e
  chg : Chg (fun b => (∃ j, j < n ∧ b = qs j) ∨ hb.dyn.length ≤ b) hb h
  lt : ∀ j, j < n → qs j < hb.dyn.length
  inj : ∀ i j, i < n → j < n → qs i = qs j → i = j
  nv : ∀ j, j < n → qs j ≠ qv
  qv : qv < hb.dyn.length
  iN : i < n

theorem Ent.keep {h h' : Heap} {base n qm qw i k qc : Nat} {V : Nat → Value} {qs ns : Nat → Nat} {A B : Nat → Value} {um uw um' uw' : Value} {qm' qw' i' k' qc' : Nat} {e : Value × Nat × Nat}
    (E : Ent h base n qm qw i k qc V qs ns A B um uw e) (hlen : h.dyn.length ≤ h'.dyn.length)
    (hld : ∀ a c u, e.1 = .slice (some a) (ns e.2.1 + e.2.2) c → a.off = 0 → a.spot = some u → (a.block = qs e.2.1 ∧ (∀ w m c', V e.2.1 = .slice (some ⟨qs e.2.1, 0, some w⟩) m c' → c' < gcap → u = w) ∨ base ≤ a.block) → a.block < h.dyn.length → (um ≠ nilS → a.block ≠ qm) → (uw ≠ nilS → a.block ≠ qw) → (e.2.1 = i ∨ a.block ≠ qc) →
      (∀ idx x, idx < ns e.2.1 + e.2.2 → hload h (aadd a idx) = some x → hload h' (aadd a idx) = some x) ∧ (um' ≠ nilS → a.block ≠ qm') ∧ (uw' ≠ nilS → a.block ≠ qw') ∧ (e.2.1 = i' ∨ a.block ≠ qc'))
    (hi : i ≤ i') (hk : e.2.1 = i' → e.2.2 ≤ k') : Ent h' base n qm' qw' i' k' qc' V qs ns A B um' uw' e := by
  obtain ⟨a, c, u, h1, h2, h3, h4, h5, h6, h7, h8, h9⟩ := E.ex
  obtain ⟨k1, k2, k3, k4⟩ := hld a c u h1 h2 h3 h5 h6 h7 h8 h9
  exact ⟨E.lt, Nat.le_trans E.le hi, hk, E.sm, a, c, u, h1, h2, h3, fun idx x hx => k1 idx x (by have := (List.getElem?_eq_some_iff.1 hx).1; rwa [repR_len] at this) (h4 idx x hx), h5, by omega, k2, k3, k4⟩

theorem Reads.keep {h h' : Heap} {v : Value} {l : List Value} (r : Reads h v l) (k : ∀ a c, v = .slice (some a) l.length c → ∀ idx x, idx < l.length → hload h (aadd a idx) = some x → hload h' (aadd a idx) = some x) : Reads h' v l := by
  rcases r with r | ⟨a, c, rfl, hl⟩
  · exact .inl r
  · exact .inr ⟨a, c, rfl, fun i x hx => k a c rfl i x (List.getElem?_eq_some_iff.1 hx).1 (hl i x hx)⟩

/-- The list at hand is grown by one. -/
theorem Mid.push {hb h : Heap} {n qv qm qw i k qc : Nat} {V : Nat → Value} {qs ns : Nat → Nat} {A B : Nat → Value} {vm um uw : Value} {E : List (Value × Nat × Nat)} (M : Mid hb h n qv qm qw i k qc V qs ns A B vm um uw E)
    {bytes : Nat} {z : Value} (hg : goodC (B i) = true) (hl : (ns i + k + 1) * bytes ≤ 140737488355328) (hl' : ns i + k + 1 ≤ 140737488355328) (hsm : k < 1000000) :
    ∃ v' h' q', aappend (hnew h [B i] 1) 1 bytes [z] vm (.slice (some ⟨h.dyn.length, 0, some 0⟩) 1 1) = some (v', h') ∧ Mid hb h' n qv qm qw i (k + 1) q' V qs ns A B v' um uw E ∧ Ent h' hb.dyn.length n qm qw i (k + 1) q' V qs ns A B um uw (v', i, k + 1) := by
  obtain ⟨v', h', q', e, o', c', l', d'⟩ := M.cur.push (bytes := bytes) (z := z) hg (by rw [repR_len]; exact hl) (by rw [repR_len]; exact hl')
  have kp := M.cur.push_keep hg e
  rw [repR_len] at kp
  rw [← repR_succ] at o'
  have hlen : h.dyn.length ≤ h'.dyn.length := c'.len
  have hbl : hb.dyn.length ≤ h.dyn.length := M.chg.len
  have hqi := M.lt i M.iN
  have hv'ne : v' ≠ nilS := by
    intro e1
    rcases o' with ⟨_, e2⟩ | ⟨u, e2, _⟩ | ⟨u, rest, e2, _⟩
    · have := congrArg List.length e2; rw [repR_len] at this; simp at this
    · rw [e1] at e2; simp [nilS] at e2
    · rw [e1] at e2; simp [nilS] at e2
  -- where the grown list lies
  have hcs : (q' = qs i ∧ (∀ w m c, V i = .slice (some ⟨qs i, 0, some w⟩) m c → c < gcap → ∃ m', v' = .slice (some ⟨qs i, 0, some w⟩) m' c) ∧ (∀ w m c, v' = .slice (some ⟨qs i, 0, some w⟩) m c → c < gcap → ∃ m', V i = .slice (some ⟨qs i, 0, some w⟩) m' c)) ∨
      (hb.dyn.length ≤ q' ∧ q' < h'.dyn.length ∧ ∀ a m c, v' = .slice (some a) m c → ¬ c < gcap) := by
    rcases d' with ⟨rfl, hne⟩ | hq'
    · rcases M.cs with ⟨h1, h2, h3⟩ | ⟨h1, h2, h3⟩
      · left
        refine ⟨h1, fun w m c hv hc => ?_, fun w m c hv hc => ?_⟩
        · obtain ⟨m', hm'⟩ := h2 w m c hv hc
          rw [hm'] at e
          rcases aappend_known hc e rfl (by simp) with ⟨m2, h4⟩ | ⟨m2, h4⟩
          · exact ⟨m2, h4⟩
          · exfalso
            obtain ⟨b, cc, e5, k5⟩ := o'.shape
            obtain ⟨u5, _, e6, _⟩ := k5 0 (by rw [repR_len]; omega)
            rw [h4, e6] at e5
            simp only [Value.slice.injEq, Option.some.injEq, hnext_eq, hnew_len, Addr.mk.injEq] at e5
            omega
        · rw [hv] at e
          rcases aappend_base e rfl (by simp) with h4 | ⟨n0, h4, _⟩
          · omega
          · exact h3 w n0 c h4 hc
      · right
        refine ⟨h1, by omega, fun a m c hv hc => ?_⟩
        rw [hv] at e
        rcases aappend_base e rfl (by simp) with h4 | ⟨n0, h4, _⟩
        · omega
        · exact h3 a n0 c h4 hc
    · right
      refine ⟨by omega, l', fun a m c hv hc => ?_⟩
      rw [hv] at e
      rcases aappend_base e rfl (by simp) with h4 | ⟨n0, h4, _⟩
      · omega
      · obtain ⟨b, cc, e5, k5⟩ := o'.shape
        obtain ⟨u5, _, e6, _⟩ := k5 0 (by rw [repR_len]; omega)
        obtain ⟨b2, c2, e7, k7⟩ := M.cur.shape
        rw [hv, e6] at e5
        simp only [Value.slice.injEq, Option.some.injEq] at e5
        obtain ⟨rfl, _, _⟩ := e5
        have ho := M.cur
        rw [h4] at ho
        rcases ho with ⟨e8, _⟩ | ⟨u8, e8, r8⟩ | ⟨u8, r9, e8, _, r8⟩
        · simp at e8
        · simp only [Value.slice.injEq, Option.some.injEq, Addr.mk.injEq] at e8
          have := r8.lt; omega
        · simp only [Value.slice.injEq, Option.some.injEq, Addr.mk.injEq] at e8
          have := r8.lt; omega
  have hqc : q' = qc ∨ h.dyn.length ≤ q' := by rcases d' with ⟨h1, _⟩ | h1 <;> omega
  -- what can be read stays
  have stay : ∀ (a : Addr) (x : Value), hload h a = some x → (a.spot ≠ none → a.block = qc → a.off < ns i + k ∧ ∀ u m c, vm = .slice (some ⟨qc, 0, some u⟩) m c → c < gcap → a.spot = some u) → hload h' a = some x := kp
  have hqcl : qc < h.dyn.length := by
    rcases M.cs with ⟨h1, _⟩ | ⟨_, h1, _⟩ <;> omega
  have cD : Chg (fun b => (∃ j, j < n ∧ b = qs j) ∨ hb.dyn.length ≤ b) h h' := c'.mono fun b hb' he => by
    have := he.1
    rcases M.cs with ⟨h1, _⟩ | ⟨h1, _⟩
    · exact .inl ⟨i, M.iN, by omega⟩
    · exact .inr (by omega)
  refine ⟨v', h', q', e, ⟨o', hcs, M.more.chgN c' (fun hu e => M.qmc hu e.1), M.whose.chgN c' (fun hu e => M.qwc hu e.1), M.qmw, fun hu => ?_, fun hu => ?_, M.qmb, M.qwb, fun j hj => ?_, M.origb, fun j hij hj => ?_, ?_, fun e0 he0 => ?_, M.chg.trans cD, M.lt, M.inj, M.nv, M.qv, M.iN⟩, ?_⟩
  · rcases hqc with h1 | h1
    · rw [h1]; exact M.qmc hu
    · have := M.more.lt.resolve_left fun e => hu e.1; omega
  · rcases hqc with h1 | h1
    · rw [h1]; exact M.qwc hu
    · have := M.whose.lt.resolve_left fun e => hu e.1; omega
  · refine (M.orig j hj).keep fun a c hv idx x hidx hx => stay (aadd a idx) x hx fun h1 h2 => ?_
    obtain ⟨k1, k2⟩ := M.origb j hj a _ c hv
    have h2' : a.block = qc := h2
    rw [repR_len] at hidx
    rcases M.cs with ⟨e1, _, e3⟩ | ⟨e1, _⟩
    · have hji : j = i := M.inj j i hj M.iN (by omega)
      subst hji
      refine ⟨by show a.off + idx < _; omega, fun u m c' hvm hc => ?_⟩
      rw [e1] at hvm
      obtain ⟨m', hm'⟩ := e3 u m c' hvm hc
      rw [hm'] at hv
      simp only [Value.slice.injEq, Option.some.injEq] at hv
      show a.spot = some u
      rw [← hv.1]
    · have := M.lt j hj; omega
  · refine (M.rest j hij hj).chg c' fun e1 => ?_
    have e1 := e1.1
    rcases M.cs with ⟨e2, _⟩ | ⟨e2, _⟩
    · have := M.inj j i hj M.iN (by omega); omega
    · have := M.lt j hj; omega
  · refine M.row.chg c' fun e1 => ?_
    have e1 := e1.1
    rcases M.cs with ⟨e2, _⟩ | ⟨e2, _⟩
    · exact M.nv i M.iN (by omega)
    · have := M.qv; omega
  · refine (M.ents e0 he0).keep hlen (fun a c u h1 h2 h3 h4 h5 h6 h7 h8 => ⟨fun idx x hidx hx => stay (aadd a idx) x hx fun k1 k2 => ?_, h6, h7, ?_⟩) (Nat.le_refl _) (fun he => by have := (M.ents e0 he0).ke he; omega)
    · have k2' : a.block = qc := k2
      have hei : e0.2.1 = i := h8.resolve_right (fun hh => hh k2')
      have hke := (M.ents e0 he0).ke hei
      rw [hei] at hidx h4
      refine ⟨by show a.off + idx < _; omega, fun w m c' hvm hc => ?_⟩
      show a.spot = some w
      rcases M.cs with ⟨e1, _, e3⟩ | ⟨e1, _, e3⟩
      · rw [e1] at hvm
        obtain ⟨m', hm'⟩ := e3 w m c' hvm hc
        rcases h4 with ⟨_, h5'⟩ | h5'
        · rw [h3, h5' w m' c' hm' hc]
        · omega
      · exact absurd hc (e3 _ m c' hvm)
    · rcases h8 with hh | hh
      · exact .inl hh
      · right
        rcases hqc with h9 | h9
        · rw [h9]; exact hh
        · omega
  · obtain ⟨b, cc, e5, k5⟩ := o'.shape
    obtain ⟨u5, rest5, e6, row5⟩ := k5 0 (by rw [repR_len]; omega)
    subst e6
    rw [repR_len] at e5
    refine ⟨M.iN, Nat.le_refl _, fun _ => Nat.le_refl _, hsm, ⟨q', 0, some u5⟩, cc, u5, by rw [e5], rfl, rfl, fun idx x hx => ?_, ?_, l', fun hu => ?_, fun hu => ?_, .inl rfl⟩
    · have hi := (List.getElem?_eq_some_iff.1 hx).1
      simpa using row5.get (i := idx) (x := x) (by rw [List.getElem?_append_left hi]; exact hx)
    · rcases hcs with ⟨h1, h2, _⟩ | ⟨h1, _⟩
      · left
        refine ⟨h1, fun w m c' hv hc => ?_⟩
        obtain ⟨m', hm'⟩ := h2 w m c' hv hc
        rw [e5] at hm'
        simp only [Value.slice.injEq, Option.some.injEq, Addr.mk.injEq] at hm'
        exact hm'.1.2.2
      · exact .inr h1
    · rcases hqc with h1 | h1
      · have := M.qmc hu; show q' ≠ qm; omega
      · have := M.more.lt.resolve_left fun e => hu e.1; show q' ≠ qm; omega
    · rcases hqc with h1 | h1
      · have := M.qwc hu; show q' ≠ qw; omega
      · have := M.whose.lt.resolve_left fun e => hu e.1; show q' ≠ qw; omega


/-- On to the next list. -/
theorem Mid.next {hb h : Heap} {n qv qm qw i k qc : Nat} {V : Nat → Value} {qs ns : Nat → Nat} {A B : Nat → Value} {vm um uw : Value} {E : List (Value × Nat × Nat)} (M : Mid hb h n qv qm qw i k qc V qs ns A B vm um uw E) (hi : i + 1 < n) :
    Mid hb h n qv qm qw (i + 1) 0 (qs (i + 1)) V qs ns A B (V (i + 1)) um uw E := by
  have hq := M.lt (i + 1) hi
  refine ⟨M.rest (i + 1) (by omega) hi, .inl ⟨rfl, fun w m c hv hc => ⟨m, hv⟩, fun w m c hv hc => ⟨m, hv⟩⟩, M.more, M.whose, M.qmw, fun hu => ?_, fun hu => ?_, M.qmb, M.qwb, M.orig, M.origb, fun j hij hj => M.rest j (by omega) hj, M.row, fun e he => ?_, M.chg, M.lt, M.inj, M.nv, M.qv, hi⟩
  · have := M.qmb hu; omega
  · have := M.qwb hu; omega
  · have Ee := M.ents e he
    have hle := Ee.le
    refine Ee.keep (Nat.le_refl _) (fun a c u h1 h2 h3 h4 h5 h6 h7 h8 => ⟨fun idx x hidx hx => hx, h6, h7, .inr ?_⟩) (by omega) (fun he => by omega)
    rcases h4 with ⟨h4, _⟩ | h4
    · intro e1
      have := M.inj e.2.1 (i + 1) Ee.lt hi (by omega); omega
    · omega


theorem own_low {h : Heap} {v : Value} {q q' : Nat} (d : q' = q ∧ v ≠ .slice none 0 0 ∨ q' = h.dyn.length + 1) : q' = q ∧ v ≠ nilS ∨ h.dyn.length ≤ q' := by
  rcases d with d | d
  · exact .inl d
  · exact .inr (by omega)

/-- The slice at hand is kept. -/
theorem Mid.keep {hb h : Heap} {n qv qm qw i k qc : Nat} {V : Nat → Value} {qs ns : Nat → Nat} {A B : Nat → Value} {vm um uw : Value} {E : List (Value × Nat × Nat)} (M : Mid hb h n qv qm qw i k qc V qs ns A B vm um uw E)
    (e0 : Ent h hb.dyn.length n qm qw i k qc V qs ns A B um uw (vm, i, k)) (hg : goodC vm = true) (hE : E.length ≤ 1000000) (hqc : qc < h.dyn.length) :
    ∃ um' h1 qm', aappend (hnew h [vm] 1) 1 24 [.slice none 0 0] um (.slice (some ⟨h.dyn.length, 0, some 0⟩) 1 1) = some (um', h1) ∧
      ∃ uw' h2 qw', aappend (hnew h1 [.int .i64 (i : Nat)] 1) 1 8 [.int .i64 0] uw (.slice (some ⟨h1.dyn.length, 0, some 0⟩) 1 1) = some (uw', h2) ∧
        Mid hb h2 n qv qm' qw' i k qc V qs ns A B vm um' uw' (E ++ [(vm, i, k)]) := by
  obtain ⟨um', h1, qm', e1, o1, c1, l1, d1⟩ := M.more.push (bytes := 24) (z := .slice none 0 0) hg (by simp; omega) (by simp; omega)
  have w1 : Own h1 uw qw (E.map fun e => .int .i64 (e.2.1 : Nat)) := M.whose.chgN c1 (fun hu e => M.qmw e.2 hu e.1.symm)
  obtain ⟨uw', h2, qw', e2, o2, c2, l2, d2⟩ := w1.push (bytes := 8) (z := .int .i64 0) (x := .int .i64 (i : Nat)) (by simp) (by simp; omega) (by simp; omega)
  refine ⟨um', h1, qm', e1, uw', h2, qw', e2, ?_⟩
  have D1 := own_low d1
  have D2 := own_low d2
  have L0 := M.chg.len
  have L1 := c1.len
  have L2 := c2.len
  have um'ne : um' ≠ nilS := by
    intro e; rcases o1 with ⟨_, e3⟩ | ⟨u, e3, _⟩ | ⟨u, rest, e3, _⟩
    · simp at e3
    · rw [e] at e3; simp [nilS] at e3
    · rw [e] at e3; simp [nilS] at e3
  have uw'ne : uw' ≠ nilS := by
    intro e; rcases o2 with ⟨_, e3⟩ | ⟨u, e3, _⟩ | ⟨u, rest, e3, _⟩
    · simp at e3
    · rw [e] at e3; simp [nilS] at e3
    · rw [e] at e3; simp [nilS] at e3
  -- both pushes leave all but blocks qm and qw
  have cc : Chg (fun b => (b = qm ∧ um ≠ nilS) ∨ (b = qw ∧ uw ≠ nilS)) h h2 := (c1.mono fun b _ e => .inl e).trans (c2.mono fun b _ e => .inr e)
  have hmb : hb.dyn.length ≤ qm' := by rcases D1 with ⟨h3, h4⟩ | h3; · rw [h3]; exact M.qmb h4
                                       · omega
  have hwb : hb.dyn.length ≤ qw' := by rcases D2 with ⟨h3, h4⟩ | h3; · rw [h3]; exact M.qwb h4
                                       · omega
  have hmq : qm' ≠ qc := by rcases D1 with ⟨h3, h4⟩ | h3; · rw [h3]; exact M.qmc h4
                            · omega
  have hwq : qw' ≠ qc := by rcases D2 with ⟨h3, h4⟩ | h3; · rw [h3]; exact M.qwc h4
                            · omega
  have qcS : ¬ ((qc = qm ∧ um ≠ nilS) ∨ (qc = qw ∧ uw ≠ nilS)) := by
    rintro (⟨h3, h4⟩ | ⟨h3, h4⟩)
    · exact M.qmc h4 h3.symm
    · exact M.qwc h4 h3.symm
  have qsS : ∀ j, j < n → ¬ ((qs j = qm ∧ um ≠ nilS) ∨ (qs j = qw ∧ uw ≠ nilS)) := by
    intro j hj
    have := M.lt j hj
    rintro (⟨h3, h4⟩ | ⟨h3, h4⟩)
    · have := M.qmb h4; omega
    · have := M.qwb h4; omega
  have O1 : Own h2 um' qm' ((E ++ [(vm, i, k)]).map (·.1)) := by
    rw [List.map_append]
    refine o1.chgN c2 fun _ e => ?_
    obtain ⟨h3, h4⟩ := e
    rcases D1 with ⟨h5, h6⟩ | h5
    · exact M.qmw h6 h4 (by omega)
    · have := M.whose.lt.resolve_left fun e => h4 e.1; omega
  have O2 : Own h2 uw' qw' ((E ++ [(vm, i, k)]).map fun e => .int .i64 (e.2.1 : Nat)) := by rw [List.map_append]; exact o2
  have hne : qm' ≠ qw' := by
    have hm : qm' < h1.dyn.length := l1
    rcases D2 with ⟨h5, h6⟩ | h5
    · rw [h5]
      rcases D1 with ⟨h3, h4⟩ | h3
      · rw [h3]; exact M.qmw h4 h6
      · have := M.whose.lt.resolve_left fun e => h6 e.1; omega
    · omega
  refine ⟨M.cur.chg cc qcS, ?_, O1, O2, fun _ _ => hne, fun _ => hmq, fun _ => hwq, fun _ => hmb, fun _ => hwb, fun j hj => ?_, M.origb, fun j hij hj => (M.rest j hij hj).chg cc (qsS j hj), ?_, fun e he => ?_, ?_, M.lt, M.inj, M.nv, M.qv, M.iN⟩
  · rcases M.cs with h3 | ⟨h3, h4, h5⟩
    · exact .inl h3
    · exact .inr ⟨h3, by omega, h5⟩
  · refine (M.orig j hj).chg cc fun a m c hv => .inr ?_
    rw [(M.origb j hj a m c hv).1]; exact qsS j hj
  · refine M.row.chg cc ?_
    have := M.qv
    rintro (⟨h3, h4⟩ | ⟨h3, h4⟩)
    · have := M.qmb h4; omega
    · have := M.qwb h4; omega
  · have keepE : ∀ e, Ent h hb.dyn.length n qm qw i k qc V qs ns A B um uw e → Ent h2 hb.dyn.length n qm' qw' i k qc V qs ns A B um' uw' e := by
      intro e Ee
      refine Ee.keep (by omega) (fun a c u x1 x2 x3 x4 x5 x6 x7 x8 => ⟨fun idx x hidx hx => hload_chg cc hx (.inr ?_), fun _ => ?_, fun _ => ?_, x8⟩) (Nat.le_refl _) Ee.ke
      · show ¬ ((a.block = qm ∧ um ≠ nilS) ∨ (a.block = qw ∧ uw ≠ nilS))
        rintro (⟨h3, h4⟩ | ⟨h3, h4⟩)
        · exact x6 h4 h3
        · exact x7 h4 h3
      · rcases D1 with ⟨h3, h4⟩ | h3
        · rw [h3]; exact x6 h4
        · omega
      · rcases D2 with ⟨h3, h4⟩ | h3
        · rw [h3]; exact x7 h4
        · omega
    rw [List.mem_append] at he
    rcases he with he | he
    · exact keepE e (M.ents e he)
    · rw [List.mem_singleton] at he
      subst he
      exact keepE _ e0
  · refine M.chg.after cc fun b hb' e => .inr ?_
    rcases e with ⟨h3, h4⟩ | ⟨h3, h4⟩
    · rw [h3]; exact M.qmb h4
    · rw [h3]; exact M.qwb h4

end Go.Ax
