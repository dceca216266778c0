/- An abstract machine for Go programs: its memory against the model's: several cells, new blocks, blocks that grow. -/
import Derived.Test.YtpemffaclmpnnaaDoorXM
namespace Go.Ax
set_option linter.unusedVariables false
set_option linter.unusedSimpArgs false

theorem goodC_rel {g : Ghost} {x y : Value} (h : VRel g x y) (hx : goodC x = true) : goodC y = true := by
  cases h <;> simp_all [goodC, undef, skipV]

theorem run_store1 {P : Program} {w : World} {r : Addr} {y u : Value} (hg : goodC y = true) (hc : w.cell? r = some u) (hf : w.frozen? r = false) (m : Mode) : (store r y m).run P w = .ok () (w.setCell r y) := by
  cases y <;> simp [goodC] at hg <;> simp [store, Sem.run, hc, hf]

theorem storeN_sound {P : Program} {B : Nat} {g : Ghost} : ∀ (xs : List Value) {h h' : Heap} {w : World} (R : Rel P B g h w) {a r : Addr} (ha : ARel g a r) {ys : List Value} (hv : LR g xs ys)
    (hst : storeN h a xs = some h') (i : Nat), ∃ w', (∀ r0 : Addr, r0.spot = none → r0.add i = r → (storeCells r0 ys i).run P w = .ok () w') ∧ Rel P B g h' w' ∧ Ext g w g w' := by
  intro xs
  induction xs with
  | nil =>
    intro h h' w R a r ha ys hv hst i
    simp [storeN] at hst; subst hst
    have := hv.nil_inv; subst this
    exact ⟨w, fun r0 _ _ => by simp [storeCells], R, Ext.refl g w⟩
  | cons x xs ih =>
    intro h h' w R a r ha ys hv hst i
    obtain ⟨y, ys', rfl, hxy, hv'⟩ := hv.cons_inv
    unfold storeN at hst
    cases h1 : hstore h a x with
    | none => simp [h1] at hst
    | some h1' =>
      simp only [h1] at hst
      obtain ⟨⟨u, hu⟩, hf, hg, R1, E1⟩ := store_sound R ha hxy h1
      obtain ⟨w', hrun, R2, E2⟩ := ih R1 (ha.add 1) hv' hst (i + 1)
      refine ⟨w', fun r0 hs h0 => ?_, R2, E1.trans E2⟩
      unfold storeCells
      rw [h0, run_bindE (run_store1 (goodC_rel hxy hg) hu hf _)]
      exact hrun r0 hs (by rw [← h0, addr_add_add r0 hs])

/-- Blocks that are not the machine's may turn. -/
theorem Rel.of_same {P : Program} {B : Nat} {g : Ghost} {h : Heap} {w w' : World} (R : Rel P B g h w) (hsz : w.heap.size ≤ w'.heap.size)
    (hs : ∀ r, InR g r ∨ r < B → w'.heap[r]? = w.heap[r]?) : Rel P B g h w' where
  base := Nat.le_trans R.base hsz
  blk b k hk := by
    have K := R.blk b k hk
    refine ⟨K.ne, K.last, K.le, K.es, K.all, fun v s hd hs' => ?_⟩
    obtain ⟨r2, c2, e2, f2, hm2, hh2, rest⟩ := K.at_ v s hd hs'
    exact ⟨r2, c2, e2, f2, hm2, by rw [hs r2 (.inl (.inl ⟨_, _, hm2⟩)), hh2], rest⟩
  dom b v r hm := by
    have := R.dom b v r hm
    exact ⟨this.1, this.2.1, Nat.lt_of_lt_of_le this.2.2 hsz⟩
  inj := R.inj
  ro b o x hx := by
    obtain ⟨h1, y, hy, hv⟩ := R.ro b o x hx
    refine ⟨h1, y, ?_, hv⟩
    rw [← hy]
    exact World.cell?_of_block (w := w) (hs _ (.inr h1))
  lps l p hp := by
    obtain ⟨r2, L, hl, hL⟩ := R.lps l p hp
    exact ⟨r2, L, hl, by rw [hs r2 (.inl (.inr ⟨l, hl⟩)), hL.at_], hL.state, hL.pend, hL.tmps, hL.params, hL.assign, hL.body⟩
  lpdom l r hl := by
    obtain ⟨h2, h3, h4, L, hL⟩ := R.lpdom l r hl
    exact ⟨h2, h3, Nat.lt_of_lt_of_le h4 hsz, L, by rw [hs r (.inl (.inr ⟨l, hl⟩)), hL]⟩
  lpinj := R.lpinj

theorem InR.lt {P : Program} {B : Nat} {g : Ghost} {h : Heap} {w : World} (R : Rel P B g h w) {r : Nat} (hr : InR g r) : r < w.heap.size := by
  rcases hr with ⟨b, v, hm⟩ | ⟨l, hl⟩
  · exact (R.dom b v r hm).2.2
  · exact (R.lpdom l r hl).2.2.1

theorem Rel.push {P : Program} {B : Nat} {g : Ghost} {h : Heap} {w : World} (R : Rel P B g h w) (o : Obj) : Rel P B g h (w.alloc o) ∧ Ext g w g (w.alloc o) := by
  have hlt : ∀ r, r < w.heap.size → (w.alloc o).heap[r]? = w.heap[r]? := fun r hr => Go.RowKit.Below.heap_alloc w o r hr
  refine ⟨R.of_same (by simp) fun r hr => hlt r ?_, Gle.refl g, fun r h => .inl h, by simp, fun r hr _ => hlt r hr, rfl, rfl, rfl⟩
  rcases hr with hr | hr
  · exact hr.lt R
  · exact Nat.lt_of_lt_of_le hr R.base

theorem alloc_at (w : World) (o : Obj) : (w.alloc o).heap[w.heap.size]? = some o := by
  show (w.heap.push o)[w.heap.size]? = some o
  simp

/-- A real block that is nobody's becomes a new abstract one. -/
theorem fresh_sound {P : Program} {B : Nat} {g : Ghost} {h : Heap} {w : World} (R : Rel P B g h w) {r : Nat} {c : Array Value} {e : TypeId} {f : Nat × Nat}
    (hr : w.heap[r]? = some (.cells c e f)) (hn : ¬ InR g r) (hB : B ≤ r) (hlt : r < w.heap.size) (cells : List Value) (es : Nat) (hf : FzOk es c.size f) (hc : cells.length ≤ c.size)
    (hv : ∀ (j : Nat) (x : Value), cells[j]? = some x → ∃ y, c[j]? = some y ∧ VRel g x y) :
    ∃ g', Rel P B g' (hnew h cells es) w ∧ Gle g g' ∧ (∀ q, InR g' q → InR g q ∨ q = r) ∧ ARel g' (hnext h) ⟨r, 0, none⟩ ∧ g'.room h.dyn.length 0 = c.size ∧ g'.es h.dyn.length = es := by
  have hnone : ∀ v, g.m h.dyn.length v = none := by
    intro v
    cases hm : g.m h.dyn.length v with
    | none => rfl
    | some q =>
      obtain ⟨⟨k, hk, _⟩, _⟩ := R.dom _ _ _ hm
      rw [List.getElem?_eq_none (Nat.le_refl _)] at hk; simp at hk
  let g' : Ghost := { g with
    m := fun b v => if b = h.dyn.length ∧ v = 0 then some r else g.m b v
    room := fun b v => if b = h.dyn.length ∧ v = 0 then c.size else g.room b v
    es := fun b => if b = h.dyn.length then es else g.es b }
  have hold : ∀ b v q, g.m b v = some q → b ≠ h.dyn.length := by
    intro b v q hm e; subst e; rw [hnone] at hm; simp at hm
  have gm : ∀ b v q, g.m b v = some q → g'.m b v = some q := by
    intro b v q hm; show (if _ then _ else _) = _
    rw [if_neg (fun ⟨e, _⟩ => hold _ _ _ hm e)]; exact hm
  have G : Gle g g' := by
    refine ⟨gm, ?_, ?_, rfl, fun _ _ h => h⟩
    · intro b v q hm; show (if _ then _ else _) = _
      rw [if_neg (fun ⟨e, _⟩ => hold _ _ _ hm e)]
    · intro b v q hm; show (if _ then _ else _) = _
      rw [if_neg (hold _ _ _ hm)]
  have hnm : ∀ b v q, g'.m b v = some q → g.m b v = some q ∨ (b = h.dyn.length ∧ v = 0 ∧ q = r) := by
    intro b v q hm
    have hm' : (if b = h.dyn.length ∧ v = 0 then some r else g.m b v) = some q := hm
    split at hm'
    · rename_i hh; simp only [Option.some.injEq] at hm'; exact .inr ⟨hh.1, hh.2, hm'.symm⟩
    · exact .inl hm'
  refine ⟨g', ?_, G, ?_, ⟨rfl, ?_⟩, ?_, ?_⟩
  · constructor
    · exact R.base
    · intro b k hk
      simp only [hnew] at hk
      by_cases hb : b < h.dyn.length
      · rw [List.getElem?_append_left hb] at hk
        have K := R.blk b k hk
        have hne : b ≠ h.dyn.length := by omega
        refine ⟨K.ne, K.last, K.le, ?_, ?_, ?_⟩
        · show (if _ then _ else _) = _; rw [if_neg hne]; exact K.es
        · intro v hv'; obtain ⟨q, hq⟩ := K.all v hv'; exact ⟨q, gm _ _ _ hq⟩
        · intro v s hd hs'
          obtain ⟨r2, c2, e2, f2, hm2, hh2, hf2, hroom2, hle2, hcell2⟩ := K.at_ v s hd hs'
          refine ⟨r2, c2, e2, f2, gm _ _ _ hm2, hh2, hf2, ?_, hle2, fun j x hj hx => ?_⟩
          · rw [hroom2]; exact (G.room _ _ _ hm2).symm
          · obtain ⟨y, hy, hxy⟩ := hcell2 j x hj hx
            exact ⟨y, hy, hxy.mono G⟩
      · rw [List.getElem?_append_right (by omega)] at hk
        have hb' : b = h.dyn.length := by
          rcases Nat.lt_or_ge (b - h.dyn.length) 1 with h1 | h1
          · omega
          · rw [List.getElem?_eq_none (by simpa using h1)] at hk; simp at hk
        subst hb'
        simp at hk
        subst hk
        refine ⟨by simp, by simp, ?_, ?_, ?_, ?_⟩
        · intro v s hs'
          cases v with
          | zero => simp at hs'; simp; omega
          | succ v => simp at hs'
        · show (if _ then _ else _) = _; rw [if_pos rfl]
        · intro v hv'; simp at hv'; subst hv'; exact ⟨r, by show (if _ then _ else _) = _; rw [if_pos ⟨rfl, rfl⟩]⟩
        · intro v s _ hs'
          cases v with
          | succ v => simp at hs'
          | zero =>
            simp at hs'; subst hs'
            refine ⟨r, c, e, f, by show (if _ then _ else _) = _; rw [if_pos ⟨rfl, rfl⟩], hr, hf, by show _ = (if _ then _ else _); rw [if_pos ⟨rfl, rfl⟩], hc, fun j x hj hx => ?_⟩
            obtain ⟨y, hy, hxy⟩ := hv j x hx
            exact ⟨y, hy, hxy.mono G⟩
    · intro b v q hm
      rcases hnm b v q hm with h1 | ⟨rfl, rfl, rfl⟩
      · obtain ⟨⟨k, hk, hv'⟩, h2⟩ := R.dom b v q h1
        refine ⟨⟨k, ?_, hv'⟩, h2⟩
        have : b < h.dyn.length := by
          rcases Nat.lt_or_ge b h.dyn.length with h' | h'
          · exact h'
          · rw [List.getElem?_eq_none h'] at hk; simp at hk
        simp only [hnew]
        rw [List.getElem?_append_left this]; exact hk
      · exact ⟨⟨{ cells := cells, sizes := [cells.length], dead := 0, es := es }, by simp [hnew], by simp⟩, hB, hlt⟩
    · intro b v q b' v' h1 h2
      rcases hnm b v q h1 with h1 | ⟨rfl, rfl, e1⟩ <;> rcases hnm b' v' q h2 with h2 | ⟨rfl, rfl, e2⟩
      · exact R.inj _ _ _ _ _ h1 h2
      · exact (hn (e2 ▸ .inl ⟨_, _, h1⟩)).elim
      · exact (hn (e1 ▸ .inl ⟨_, _, h2⟩)).elim
      · rfl
    · intro b o x hx
      obtain ⟨h1, y, hy, hxy⟩ := R.ro b o x hx
      exact ⟨h1, y, hy, hxy.mono G⟩
    · intro l p hp
      obtain ⟨r2, L, hl, hL⟩ := R.lps l p hp
      exact ⟨r2, L, hl, hL.at_, hL.state, hL.pend, hL.tmps.mono G, hL.params, hL.assign, hL.body⟩
    · exact R.lpdom
    · exact R.lpinj
  · intro q hq
    rcases hq with ⟨b, v, hm⟩ | ⟨l, hl⟩
    · rcases hnm b v q hm with h1 | ⟨_, _, h1⟩
      · exact .inl (.inl ⟨_, _, h1⟩)
      · exact .inr h1
    · exact .inl (.inr ⟨l, hl⟩)
  · show (if _ then _ else _) = _ ∧ _
    exact ⟨by rw [if_pos ⟨rfl, rfl⟩], rfl⟩
  · show (if _ then _ else _) = _; rw [if_pos ⟨rfl, rfl⟩]
  · show (if _ then _ else _) = _; rw [if_pos rfl]

theorem new_sound {P : Program} {B : Nat} {g : Ghost} {h : Heap} {w : World} (R : Rel P B g h w) (c : Array Value) (e : TypeId) (cells : List Value) (es : Nat) (hc : cells.length ≤ c.size)
    (hv : ∀ (j : Nat) (x : Value), cells[j]? = some x → ∃ y, c[j]? = some y ∧ VRel g x y) :
    ∃ g', Rel P B g' (hnew h cells es) (w.alloc (.cells c e)) ∧ Ext g w g' (w.alloc (.cells c e)) ∧ ARel g' (hnext h) ⟨w.heap.size, 0, none⟩ ∧ g'.room h.dyn.length 0 = c.size ∧ g'.es h.dyn.length = es := by
  obtain ⟨R1, E1⟩ := R.push (.cells c e)
  have hn : ¬ InR g w.heap.size := fun hi => by have := hi.lt R; omega
  obtain ⟨g', R2, G, hin, ha, hroom, hes⟩ := fresh_sound R1 (alloc_at w _) (f := (0, 0)) hn R.base (by simp) cells es ⟨fun i _ => by omega, fun _ => rfl⟩ hc hv
  refine ⟨g', R2, ⟨G, fun r hr => ?_, E1.size, E1.same, E1.os, E1.tape, E1.output⟩, ha, hroom, hes⟩
  rcases hin r hr with h1 | h1
  · exact .inl h1
  · exact .inr (by omega)

end Go.Ax
