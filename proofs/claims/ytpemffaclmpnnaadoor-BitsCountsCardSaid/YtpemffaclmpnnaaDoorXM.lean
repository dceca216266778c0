/- An abstract machine for Go programs: its memory against the model's: reading, writing, new blocks. -/
import Derived.Test.YtpemffaclmpnnaaDoorXR
namespace Go.Ax
set_option linter.unusedVariables false
set_option linter.unusedSimpArgs false

def FzOk (es n : Nat) (f : Nat × Nat) : Prop := (∀ i, i < n → ¬ (f.1 ≤ i ∧ i < f.2)) ∧ (es = 0 → f = (0, 0))

structure BRel (g : Ghost) (w : World) (b : Nat) (k : Blk) : Prop where
  ne : 0 < k.sizes.length
  last : k.sizes[k.sizes.length - 1]? = some k.cells.length
  le : ∀ (v s : Nat), k.sizes[v]? = some s → s ≤ k.cells.length
  es : g.es b = k.es
  all : ∀ (v : Nat), v < k.sizes.length → ∃ r, g.m b v = some r
  at_ : ∀ (v s : Nat), k.dead ≤ v → k.sizes[v]? = some s → ∃ (r : Nat) (c : Array Value) (e : TypeId) (f : Nat × Nat), g.m b v = some r ∧ w.heap[r]? = some (.cells c e f) ∧
    FzOk k.es c.size f ∧ c.size = g.room b v ∧ s ≤ c.size ∧ ∀ (j : Nat) (x : Value), j < s → k.cells[j]? = some x → ∃ y, c[j]? = some y ∧ VRel g x y

def pendRel : Option Ex → Option Code → Prop
  | none, c => c = none
  | some (.exit i), c => c = some (.exit i)
  | some .ret, c => c = some .ret
  | some .normal, _ => False

def stateRel : LState → LoopState → Prop
  | .ready, s => s = .ready
  | .busy, s => s = .busy
  | .done, s => s = .done
  | .exhausted, s => s = .exhausted

structure LpRel (P : Program) (g : Ghost) (w : World) (p : Lp) (r : Nat) (L : Loop) : Prop where
  at_ : w.heap[r]? = some (.loop L)
  state : stateRel p.state L.state
  pend : pendRel p.pending L.pending
  tmps : LR g p.tmps L.tmps.toList
  params : p.params = L.params.toList
  assign : ∃ all res x y, p.assign = comp P all res L.assign x y
  body : ∃ all res x y, p.body = comp P all res L.body x y

structure Rel (P : Program) (B : Nat) (g : Ghost) (h : Heap) (w : World) : Prop where
  base : B ≤ w.heap.size
  blk : ∀ (b : Nat) (k : Blk), h.dyn[b]? = some k → BRel g w b k
  dom : ∀ (b v r : Nat), g.m b v = some r → (∃ k, h.dyn[b]? = some k ∧ v < k.sizes.length) ∧ B ≤ r ∧ r < w.heap.size
  inj : ∀ (b v r b' v' : Nat), g.m b v = some r → g.m b' v' = some r → b = b'
  ro : ∀ (b o : Nat) (x : Value), h.ro b o = some x → (roA g b).block < B ∧ ∃ y, w.cell? ⟨(roA g b).block, (roA g b).off + o, none⟩ = some y ∧ VRel g x y
  lps : ∀ (l : Nat) (p : Lp), h.lps[l]? = some p → ∃ r L, g.lp l = some r ∧ LpRel P g w p r L
  lpdom : ∀ (l r : Nat), g.lp l = some r → l < h.lps.length ∧ B ≤ r ∧ r < w.heap.size ∧ ∃ L, w.heap[r]? = some (.loop L)
  lpinj : ∀ (l l' r : Nat), g.lp l = some r → g.lp l' = some r → l = l'

structure Ext (g : Ghost) (w : World) (g' : Ghost) (w' : World) : Prop where
  le : Gle g g'
  new : ∀ r, InR g' r → InR g r ∨ w.heap.size ≤ r
  size : w.heap.size ≤ w'.heap.size
  same : ∀ r, r < w.heap.size → ¬ InR g r → w'.heap[r]? = w.heap[r]?
  os : w'.os = w.os
  tape : w'.tape = w.tape
  output : w'.output = w.output

theorem Ext.refl (g : Ghost) (w : World) : Ext g w g w := ⟨Gle.refl g, fun r h => .inl h, Nat.le_refl _, fun _ _ _ => rfl, rfl, rfl, rfl⟩

theorem Ext.trans {g g1 g2 : Ghost} {w w1 w2 : World} (h : Ext g w g1 w1) (k : Ext g1 w1 g2 w2) : Ext g w g2 w2 where
  le := h.le.trans k.le
  new r hr := by
    rcases k.new r hr with h' | h'
    · exact h.new r h'
    · exact .inr (Nat.le_trans h.size h')
  size := Nat.le_trans h.size k.size
  same r hr hn := by
    rw [k.same r (Nat.lt_of_lt_of_le hr h.size) fun hi => by rcases h.new r hi with h' | h'; exact hn h'; omega, h.same r hr hn]
  os := k.os.trans h.os
  tape := k.tape.trans h.tape
  output := k.output.trans h.output

theorem Ext.below {P : Program} {B : Nat} {g g' : Ghost} {h : Heap} {w w' : World} (R : Rel P B g h w) (e : Ext g w g' w') : Go.RowKit.Below B w w' :=
  ⟨e.os, e.tape, e.output, e.size, fun k hk => e.same k (Nat.lt_of_lt_of_le hk R.base) fun hi => by
    rcases hi with ⟨b, v, hm⟩ | ⟨l, hl⟩
    · have := (R.dom b v k hm).2.1; omega
    · have := (R.lpdom l k hl).2.1; omega⟩

/-- Only the heap is looked at. -/
theorem Rel.of_heap {P : Program} {B : Nat} {g : Ghost} {h : Heap} {w w' : World} (R : Rel P B g h w) (e : w'.heap = w.heap) : Rel P B g h w' where
  base := by rw [e]; exact R.base
  blk b k hk := by
    have := R.blk b k hk
    exact ⟨this.ne, this.last, this.le, this.es, this.all, by rw [e]; exact this.at_⟩
  dom b v r hm := by rw [e]; exact R.dom b v r hm
  inj := R.inj
  ro b o x hx := by
    have := R.ro b o x hx
    refine ⟨this.1, ?_⟩
    have e2 : ∀ a, w'.cell? a = w.cell? a := fun a => by simp only [World.cell?, e]
    rw [e2]; exact this.2
  lps l p hp := by
    obtain ⟨r, L, h1, h2⟩ := R.lps l p hp
    exact ⟨r, L, h1, by rw [e]; exact h2.at_, h2.state, h2.pend, h2.tmps, h2.params, h2.assign, h2.body⟩
  lpdom l r hl := by rw [e]; exact R.lpdom l r hl
  lpinj := R.lpinj

theorem Rel.drew {P : Program} {B : Nat} {g : Ghost} {h : Heap} {w : World} (R : Rel P B g h w) : Rel P B g h { w with drawn := w.drawn + 1 } := R.of_heap rfl

theorem Ext.drew {g g' : Ghost} {w w' : World} (h : Ext g w g' w') : Ext g w g' { w' with drawn := w'.drawn + 1 } :=
  ⟨h.le, h.new, h.size, h.same, h.os, h.tape, h.output⟩

/-! ### reading -/

theorem getD_lt {l : List Nat} {v o : Nat} (h : o < l.getD v 0) : ∃ s, l[v]? = some s ∧ o < s := by
  rw [List.getD_eq_getElem?_getD] at h
  cases e : l[v]? with
  | none => simp [e] at h
  | some s => exact ⟨s, rfl, by simpa [e] using h⟩

theorem load_sound {P : Program} {B : Nat} {g : Ghost} {h : Heap} {w : World} (R : Rel P B g h w) {a r : Addr} (ha : ARel g a r) {x : Value} (hl : hload h a = some x) :
    ∃ y, w.cell? r = some y ∧ VRel g x y := by
  obtain ⟨hs, h1⟩ := ha
  unfold hload at hl
  cases ho : a.spot with
  | none =>
    rw [ho] at hl h1
    obtain ⟨_, y, hy, hv⟩ := R.ro _ _ _ hl
    refine ⟨y, ?_, hv⟩
    rw [← hy]
    congr 1
    cases r; simp_all
  | some v =>
    rw [ho] at hl h1
    simp only at hl h1
    cases hk : h.dyn[a.block]? with
    | none => simp [hk] at hl
    | some k =>
      simp only [hk] at hl
      split at hl
      case isFalse => simp at hl
      rename_i hc
      obtain ⟨s, hsz, hlt⟩ := getD_lt hc.2
      obtain ⟨r', c, e, f, hm, hh, hf, hroom, hle, hcell⟩ := (R.blk _ _ hk).at_ v s hc.1 hsz
      obtain ⟨y, hy, hv⟩ := hcell a.off x hlt hl
      refine ⟨y, ?_, hv⟩
      have : r' = r.block := by rw [h1.1] at hm; exact (Option.some.inj hm).symm
      subst this
      simp only [World.cell?, hh, hs, h1.2, hy]
      simp

theorem ARel.add {g : Ghost} {a r : Addr} (h : ARel g a r) (n : Nat) : ARel g (aadd a n) (r.add n) := by
  obtain ⟨hs, h1⟩ := h
  have e : r.add n = ⟨r.block, r.off + n, none⟩ := by
    unfold Addr.add
    split
    · rename_i h0; subst h0; cases r; simp_all
    · cases r; simp_all
  rw [e]
  refine ⟨rfl, ?_⟩
  unfold aadd
  cases ho : a.spot with
  | none => rw [ho] at h1; simp only at h1 ⊢; exact ⟨h1.1, by omega⟩
  | some v => rw [ho] at h1; simp only at h1 ⊢; exact ⟨h1.1, by omega⟩

theorem ARel.spot {g : Ghost} {a r : Addr} (h : ARel g a r) : r.spot = none := h.1

theorem addr_add (r : Addr) (hs : r.spot = none) (n : Nat) : r.add n = ⟨r.block, r.off + n, none⟩ := by
  unfold Addr.add
  split
  · rename_i h0; subst h0; cases r; simp_all
  · cases r; simp_all

theorem addr_add_add (r : Addr) (hs : r.spot = none) (n m : Nat) : (r.add n).add m = r.add (n + m) := by
  rw [addr_add r hs, addr_add _ rfl, addr_add r hs]
  simp; omega

theorem loadN_sound {P : Program} {B : Nat} {g : Ghost} {h : Heap} {w : World} (R : Rel P B g h w) : ∀ (n : Nat) {a r : Addr} (ha : ARel g a r) {xs : List Value} (hl : loadN h a n = some xs),
    ∃ ys : List Value, LR g xs ys ∧ xs.length = n ∧ (∀ i, i < n → ∃ y, ys[i]? = some y ∧ w.cell? (r.add i) = some y) := by
  intro n
  induction n with
  | zero => intro a r ha xs hl; simp [loadN] at hl; subst hl; exact ⟨[], LR.nil g, rfl, fun i hi => by omega⟩
  | succ n ih =>
    intro a r ha xs hl
    unfold loadN at hl
    cases h1 : hload h a with
    | none => simp [h1] at hl
    | some v =>
      simp only [h1] at hl
      cases h2 : loadN h (aadd a 1) n with
      | none => simp [h2] at hl
      | some l =>
        simp [h2] at hl; subst hl
        obtain ⟨y, hy, hv⟩ := load_sound R ha h1
        obtain ⟨ys, hr, hlen, hc⟩ := ih (ha.add 1) h2
        refine ⟨y :: ys, hr.cons hv, by simp [hlen], fun i hi => ?_⟩
        cases i with
        | zero => exact ⟨y, rfl, by simpa [Addr.add] using hy⟩
        | succ i =>
          obtain ⟨y', h1', h2'⟩ := hc i (by omega)
          refine ⟨y', by simpa using h1', ?_⟩
          rw [addr_add_add r ha.spot] at h2'
          rw [← h2', Nat.add_comm]


theorem run_loadFrom {P : Program} {w : World} (r : Addr) : ∀ (n i : Nat) (acc : Array Value) (ys : List Value), (∀ j, j < n → ∃ y, ys[j]? = some y ∧ w.cell? (r.add (i + j)) = some y) → ys.length = n →
    (loadCellsFrom r i n acc).run P w = .ok (acc ++ ys.toArray) w := by
  intro n
  induction n with
  | zero => intro i acc ys _ hl; have : ys = [] := by cases ys <;> simp_all
            subst this; simp [loadCellsFrom, pure, Sem.run]
  | succ n ih =>
    intro i acc ys hc hl
    cases ys with
    | nil => simp at hl
    | cons y ys =>
      obtain ⟨y0, h0, h1⟩ := hc 0 (by omega)
      simp at h0; subst h0
      have := ih (i + 1) (acc.push y) ys (fun j hj => by
        obtain ⟨z, hz, hz'⟩ := hc (j + 1) (by omega)
        exact ⟨z, by simpa using hz, by rw [← hz']; congr 2; omega⟩) (by simpa using hl)
      have e : (loadCellsFrom r i (n + 1) acc).run P w = (loadCellsFrom r (i + 1) n (acc.push y)).run P w := by
        show (Sem.bind (load (r.add i)) _).run P w = _
        simp only [load, Sem.bind, Sem.run]
        rw [Nat.add_zero] at h1
        rw [h1]
      rw [e, this]
      simp

theorem run_bindE {P : Program} {α β : Type} {s : Sem α} {f : α → Sem β} {w w' : World} {a : α} (h : s.run P w = .ok a w') : (s >>= f).run P w = (f a).run P w' := by
  rw [Sem.run_bind, h]; rfl

theorem run_load1 {P : Program} {w : World} {r : Addr} {y : Value} (h : w.cell? r = some y) : (load r).run P w = .ok y w := by
  simp [h]

theorem run_loadCells {P : Program} {w : World} {r : Addr} {n : Nat} {ys : List Value} (hc : ∀ j, j < n → ∃ y, ys[j]? = some y ∧ w.cell? (r.add j) = some y) (hl : ys.length = n) :
    (loadCells r n).run P w = .ok ys.toArray w := by
  unfold loadCells
  rw [run_loadFrom r n 0 #[] ys (fun j hj => by simpa using hc j hj) hl]
  simp

/-! ### writing -/

theorem store_heap {w : World} {r : Addr} {y u : Value} (hs : r.spot = none) (h : w.cell? r = some u) :
    ∃ c e f, w.heap[r.block]? = some (.cells c e f) ∧ r.off < c.size ∧ c[r.off]? = some u ∧ (w.setCell r y).heap[r.block]? = some (.cells (c.setIfInBounds r.off y) e f) := by
  unfold World.cell? at h
  split at h
  · rename_i c e f hb
    simp [hs] at h
    have hlt : r.off < c.size := by
      rcases Nat.lt_or_ge r.off c.size with h' | h'
      · exact h'
      · rw [Array.getElem?_eq_none h'] at h; simp at h
    refine ⟨c, e, f, hb, hlt, h, ?_⟩
    simp only [World.setCell, Array.getElem?_modify, if_true, hb, Option.map_some, hs]
    simp
  · simp at h

theorem setCell_other {w : World} {r : Addr} {y : Value} {i : Nat} (h : i ≠ r.block) : (w.setCell r y).heap[i]? = w.heap[i]? := Go.RowKit.Below.heap_setCell w r y i h

theorem getD_some {l : List Nat} {v s : Nat} (h : l[v]? = some s) : l.getD v 0 = s := by
  rw [List.getD_eq_getElem?_getD, h]; rfl

theorem store_sound {P : Program} {B : Nat} {g : Ghost} {h h' : Heap} {w : World} (R : Rel P B g h w) {a r : Addr} (ha : ARel g a r) {x y : Value} (hv : VRel g x y) (hst : hstore h a x = some h') :
    (∃ u, w.cell? r = some u) ∧ w.frozen? r = false ∧ goodC x = true ∧ Rel P B g h' (w.setCell r y) ∧ Ext g w g (w.setCell r y) := by
  obtain ⟨hs, h1⟩ := ha
  unfold hstore at hst
  cases ho : a.spot with
  | none => simp [ho] at hst
  | some v =>
    rw [ho] at hst h1
    simp only at hst h1
    cases hk : h.dyn[a.block]? with
    | none => simp [hk] at hst
    | some k =>
      simp only [hk] at hst
      split at hst
      case isFalse => simp at hst
      rename_i hc
      obtain ⟨hver, hoff, hdead, hgood⟩ := hc
      simp only [Option.some.injEq] at hst
      subst hst
      have K := R.blk _ _ hk
      have hsz : k.sizes[v]? = some k.cells.length := by rw [← K.last]; congr 1; omega
      obtain ⟨r', c, e, f, hm, hh, hf, hroom, hle, hcell⟩ := K.at_ v _ hdead hsz
      have : r' = r.block := by rw [h1.1] at hm; exact (Option.some.inj hm).symm
      subst this
      have hoffc : r.off < c.size := by rw [h1.2]; omega
      have hcu : w.cell? r = some c[r.off] := by
        simp only [World.cell?, hh, hs]; simp [hoffc]
      have hfz : w.frozen? r = false := by
        simp only [World.frozen?, hh]
        have := hf.1 r.off hoffc
        simp only [Bool.and_eq_false_iff, decide_eq_false_iff_not]
        by_cases hq : f.1 ≤ r.off
        · exact .inr (fun h => this ⟨hq, h⟩)
        · exact .inl hq
      have hB := (R.dom _ _ _ hm).2
      have hbl : a.block < h.dyn.length := by
        rcases Nat.lt_or_ge a.block h.dyn.length with h' | h'
        · exact h'
        · rw [List.getElem?_eq_none h'] at hk; simp at hk
      obtain ⟨c', e', f', hb', _, _, hb2⟩ := store_heap (y := y) hs hcu
      rw [hh] at hb'
      obtain ⟨rfl, rfl, rfl⟩ : c = c' ∧ e = e' ∧ f = f' := by simpa using hb'
      refine ⟨⟨_, hcu⟩, hfz, hgood, ?_, ?_⟩
      · constructor
        · simp only [World.size_setCell]; exact R.base
        · intro b k' hk'
          simp only at hk'
          by_cases hb : a.block = b
          · subst hb
            rw [List.getElem?_set_self hbl] at hk'
            simp only [Option.some.injEq] at hk'
            subst hk'
            refine ⟨K.ne, by simpa using K.last, by simpa using K.le, K.es, K.all, ?_⟩
            intro v' s hd hs'
            simp only at hd hs'
            have hv' : v' < k.sizes.length := by
              rcases Nat.lt_or_ge v' k.sizes.length with h' | h'
              · exact h'
              · rw [List.getElem?_eq_none h'] at hs'; simp at hs'
            obtain rfl : v' = v := by omega
            refine ⟨r.block, c.setIfInBounds r.off y, e, f, hm, hb2, by simpa using hf, by simpa using hroom, by
              rw [hsz] at hs'; simp only [Option.some.injEq] at hs'; subst hs'; simpa using hle, ?_⟩
            intro j z hj hz
            rw [hsz] at hs'; simp only [Option.some.injEq] at hs'; subst hs'
            simp only at hz
            rw [List.getElem?_set] at hz
            rw [Array.getElem?_setIfInBounds]
            by_cases hjo : a.off = j
            · subst hjo
              simp only [if_true] at hz
              rw [if_pos h1.2, if_pos hoffc]
              rw [if_pos hoff] at hz
              simp only [Option.some.injEq] at hz; subst hz; exact ⟨y, rfl, hv⟩
            · rw [if_neg hjo] at hz
              rw [if_neg (by rw [h1.2]; exact hjo)]
              exact hcell j z hj hz
          · rw [List.getElem?_set_ne hb] at hk'
            have K' := R.blk _ _ hk'
            refine ⟨K'.ne, K'.last, K'.le, K'.es, K'.all, ?_⟩
            intro v' s hd hs'
            obtain ⟨r2, c2, e2, f2, hm2, hh2, rest⟩ := K'.at_ v' s hd hs'
            refine ⟨r2, c2, e2, f2, hm2, ?_, rest⟩
            rw [setCell_other, hh2]
            intro hr; subst hr
            exact hb (R.inj _ _ _ _ _ hm hm2)
        · intro b v' r' hm'
          obtain ⟨⟨k', hk', hv'⟩, h2⟩ := R.dom b v' r' hm'
          refine ⟨?_, by simpa using h2⟩
          by_cases hb : a.block = b
          · subst hb
            rw [hk] at hk'; simp only [Option.some.injEq] at hk'; subst hk'
            exact ⟨_, by simp only; rw [List.getElem?_set_self hbl], by simpa using hv'⟩
          · exact ⟨k', by simp only; rw [List.getElem?_set_ne hb]; exact hk', hv'⟩
        · exact R.inj
        · intro b o z hz
          obtain ⟨h2, z', hz', hvz⟩ := R.ro b o z hz
          refine ⟨h2, z', ?_, hvz⟩
          rw [← hz']
          exact World.cell?_of_block (w := w) (setCell_other (by simp only; omega))
        · intro l p hp
          obtain ⟨r2, L, hl, hL⟩ := R.lps l p hp
          refine ⟨r2, L, hl, ?_, hL.state, hL.pend, hL.tmps, hL.params, hL.assign, hL.body⟩
          rw [setCell_other, hL.at_]
          intro hr; subst hr; rw [hL.at_] at hh; simp at hh
        · intro l r2 hl
          obtain ⟨h2, h3, h4, L, hL⟩ := R.lpdom l r2 hl
          refine ⟨h2, h3, by simpa using h4, L, ?_⟩
          rw [setCell_other, hL]
          intro hr; subst hr; rw [hL] at hh; simp at hh
        · exact R.lpinj
      · refine ⟨Gle.refl g, fun r hr => .inl hr, by simp, ?_, rfl, rfl, rfl⟩
        intro r2 hr2 hn
        exact setCell_other fun hr => hn (hr ▸ .inl ⟨_, _, hm⟩)

end Go.Ax
