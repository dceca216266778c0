/- An abstract machine for Go programs: a region that draws its order. -/
import Derived.Test.YtpemffaclmpnnaaDoorME
namespace Go.Ax
set_option linter.unusedVariables false
set_option linter.unusedSimpArgs false

/-- What must hold of a frame's round, if it has one. -/
def RndOk (g : Ghost) (r : Option Nat) : Prop := ∀ q, r = some q → ∃ l, g.lp l = some q

theorem takeWhile_mem {α : Type} (p : α → Bool) : ∀ (l : List α) {x : α}, x ∈ l.takeWhile p → p x = true := by
  intro l
  induction l with
  | nil => intro x h; simp at h
  | cons y l ih =>
    intro x h
    rw [List.takeWhile_cons] at h
    split at h
    · rename_i hy
      rcases List.mem_cons.1 h with rfl | h
      · exact hy
      · exact ih h
    · simp at h

theorem takeWhile_stop {α : Type} (p : α → Bool) : ∀ (l : List α) (h : (l.takeWhile p).length < l.length), ¬ p (l[(l.takeWhile p).length]) = true := by
  intro l
  induction l with
  | nil => intro h; simp at h
  | cons x l ih =>
    intro h
    by_cases hx : p x = true
    · have e : (x :: l).takeWhile p = x :: l.takeWhile p := by rw [List.takeWhile_cons, if_pos hx]
      have h2 : (l.takeWhile p).length < l.length := by rw [e] at h; simpa using h
      have := ih h2
      simp only [e, List.length_cons, List.getElem_cons_succ]
      exact this
    · have e : (x :: l).takeWhile p = [] := by rw [List.takeWhile_cons, if_neg hx]
      simp only [e, List.length_nil, List.getElem_cons_zero]
      exact hx

section
variable {P : Program} {B : Nat}

/-- A region, and its run in the text's order. -/
structure Reg (P : Program) (cf : CF) where
  ops : Array Oper
  ok : drawOk P ops = true
  t0 : List Value
  T : Nat → List Value
  V : Nat → Value
  hs : Nat → Heap
  T0 : T 0 = t0
  step : ∀ i o, ops[i]? = some o → StepF P cf (compOper P ops (befores ops.toList) (effOf P ops) i o) (T i) (V i) (cE (effAt P ops) i) (cE (effAt P ops) ops.size) hs ∧ T (i + 1) = putT (T i) o.dst (V i)

variable {cf : CF} (Z : Reg P cf)

def Reg.dst (i : Nat) : Option Nat := (Z.ops[i]?).bind (·.dst)
def Reg.bit (i j : Nat) : Prop := ((befores Z.ops.toList).getD i 0).testBit j = true
def Reg.eff (i : Nat) : Bool := effAt P Z.ops i
def Reg.c (i : Nat) : Nat := cE (effAt P Z.ops) i
def Reg.closed (D : Nat → Bool) : Prop := ∀ i j, D i = true → Z.bit i j → D j = true

theorem Reg.pair {i j : Nat} {x y : Oper} (hx : Z.ops[i]? = some x) (hy : Z.ops[j]? = some y) (h : i < j) : pairOk P Z.ops (((befores Z.ops.toList).getD j 0).testBit i) x y = true := by
  have hok := Z.ok
  unfold drawOk at hok
  simp only [List.all_eq_true, List.mem_range] at hok
  have hj : j < Z.ops.size := (Array.getElem?_eq_some_iff.1 hy).1
  have := hok j hj
  rw [hy] at this
  simp only [Bool.and_eq_true, List.all_eq_true, List.mem_range] at this
  have h2 := this.1.2 i h
  rw [hx] at h2
  exact h2

theorem Reg.edge {j : Nat} {y : Oper} (hy : Z.ops[j]? = some y) {e : Edge} (he : e ∈ y.after.toList) (hb : Region.binds .any e = true) : e.on < j := by
  have hok := Z.ok
  unfold drawOk at hok
  simp only [List.all_eq_true, List.mem_range] at hok
  have hj : j < Z.ops.size := (Array.getElem?_eq_some_iff.1 hy).1
  have := hok j hj
  rw [hy] at this
  simp only [Bool.and_eq_true, List.all_eq_true] at this
  have h2 := this.1.1 e he
  rw [hb] at h2
  simpa using h2

theorem Reg.loose {j : Nat} {y : Oper} (hy : Z.ops[j]? = some y) (hn : isNewOp y.op = true) {e : Nat} (he : e < j) (hee : Z.eff e = true) (hb : ¬ Z.bit j e) {d : Nat} (hd : y.dst = some d) {i : Nat} {o : Oper} (ho : Z.ops[i]? = some o) :
    (isEff (compOp P o.op) = true ∧ isNewOp o.op = false) ∨ d ∉ usesOf Z.ops o := by
  have hok := Z.ok
  unfold drawOk at hok
  simp only [List.all_eq_true, List.mem_range] at hok
  have hj : j < Z.ops.size := (Array.getElem?_eq_some_iff.1 hy).1
  have := hok j hj
  rw [hy] at this
  simp only [Bool.and_eq_true] at this
  have h2 := this.2
  rw [hn, hd] at h2
  have hfl : floats P Z.ops ((befores Z.ops.toList).getD j 0) j = true := by
    unfold floats
    rw [List.any_eq_true]
    refine ⟨e, by simpa using he, ?_⟩
    rw [Bool.and_eq_true]
    exact ⟨hee, by simpa [Reg.bit] using hb⟩
  rw [hfl] at h2
  simp only [Bool.not_true, Bool.false_or] at h2
  unfold looseOk at h2
  rw [List.all_eq_true] at h2
  have h3 := h2 o (by rw [Array.mem_toList_iff]; exact Array.mem_of_getElem? ho)
  rw [Bool.or_eq_true, Bool.and_eq_true] at h3
  rcases h3 with h3 | h3
  · exact .inl ⟨h3.1, by simpa using h3.2⟩
  · exact .inr (by simpa using h3)

/-- What an operation that is ready stands behind has been done. -/
theorem Reg.ready {listed : Array Bool} {i : Nat} (hcl : Z.closed fun k => listed.getD k false) (hi : i ∈ Region.ready .any Z.ops listed) : (∃ o, Z.ops[i]? = some o) ∧ listed.getD i true = false ∧ ∀ j, Z.bit i j → listed.getD j false = true := by
  obtain ⟨h0, o, ho, he⟩ := mem_ready.1 hi
  refine ⟨⟨o, ho⟩, h0, fun j hj => ?_⟩
  have ho' : Z.ops.toList[i]? = some o := by simpa using ho
  obtain ⟨acc, a1, a2, a3⟩ := bef_at ho'
  unfold Reg.bit at hj
  rw [a3] at hj
  obtain ⟨e, hem, hb, hj⟩ := befStep_bit _ _ _ hj
  have hl := he e (by simpa using hem) hb
  rcases hj with rfl | hj
  · exact hl
  · have hlt := Z.edge ho hem hb
    rw [a2 _ hlt] at hj
    exact hcl e.on j hl hj

/-- Writers of a slot stand in an order. -/
theorem Reg.ordered {i j : Nat} {x y : Oper} (hx : Z.ops[i]? = some x) (hy : Z.ops[j]? = some y) (h : i < j) {d : Nat} (hd : (x.dst = some d ∧ (d ∈ usesOf Z.ops y ∨ y.dst = some d)) ∨ (y.dst = some d ∧ d ∈ usesOf Z.ops x)) : Z.bit j i := by
  have hp := Z.pair hx hy h
  unfold pairOk at hp
  rw [Bool.or_eq_true] at hp
  rcases hp with hp | hp
  · exact hp
  · exfalso
    rw [Bool.and_eq_true] at hp
    have h1 := hp.1
    unfold apartO at h1
    rw [Bool.and_eq_true] at h1
    rcases hd with ⟨h2, h3⟩ | ⟨h2, h3⟩
    · have := h1.1
      rw [h2] at this
      simp only [Bool.and_eq_true, Bool.not_eq_true', List.contains_eq_mem, decide_eq_false_iff_not, bne_iff_ne, ne_eq] at this
      rcases h3 with h3 | h3
      · exact this.1 h3
      · exact this.2 h3
    · have := h1.2
      rw [h2] at this
      simp only [Bool.not_eq_true', List.contains_eq_mem, decide_eq_false_iff_not] at this
      exact this h3

/-- Effects stand in an order, but for a new block. -/
theorem Reg.effs {i j : Nat} {x y : Oper} (hx : Z.ops[i]? = some x) (hy : Z.ops[j]? = some y) (h : i < j) (ei : Z.eff i = true) (ej : Z.eff j = true) (hn : isNewOp y.op = false) : Z.bit j i := by
  have hp := Z.pair hx hy h
  unfold pairOk at hp
  rw [Bool.or_eq_true] at hp
  rcases hp with hp | hp
  · exact hp
  · exfalso
    rw [Bool.and_eq_true] at hp
    have h2 := hp.2
    have e1 : isEff (compOp P x.op) = true := by have := ei; unfold Reg.eff effAt at this; rw [hx] at this; exact this
    have e2 : isEff (compOp P y.op) = true := by have := ej; unfold Reg.eff effAt at this; rw [hy] at this; exact this
    rw [e1, e2, hn] at h2
    simp at h2

theorem Reg.T_len (i : Nat) (hi : i ≤ Z.ops.size) : (Z.T i).length = Z.t0.length := by
  induction i with
  | zero => rw [Z.T0]
  | succ i ih =>
    have ho : Z.ops[i]? = some Z.ops[i] := Array.getElem?_eq_getElem (by omega)
    rw [(Z.step i _ ho).2]
    unfold putT
    split
    · rw [List.length_set]; exact ih (by omega)
    · exact ih (by omega)

/-- A slot's value at a point of the text. -/
theorem Reg.T_val (i : Nat) (hi : i ≤ Z.ops.size) (x : Nat) (hx : x < Z.t0.length) : (Z.T i)[x]? = some (match lastW (fun _ => true) Z.dst x i with | none => Z.t0.getD x undef | some k => Z.V k) := by
  induction i with
  | zero =>
    rw [Z.T0]
    simp only [lastW]
    rw [List.getD_eq_getElem?_getD, List.getElem?_eq_getElem hx]; rfl
  | succ i ih =>
    have ho : Z.ops[i]? = some Z.ops[i] := Array.getElem?_eq_getElem (by omega)
    have hd : Z.dst i = Z.ops[i].dst := by unfold Reg.dst; rw [ho]; rfl
    rw [(Z.step i _ ho).2]
    simp only [lastW, true_and, hd]
    unfold putT
    split
    · rename_i d e
      by_cases h : d = x
      · subst h
        rw [if_pos e, List.getElem?_set_self (by rw [Z.T_len i (by omega)]; exact hx)]
      · rw [if_neg (by rw [e]; simpa using h), List.getElem?_set_ne h, ih (by omega)]
    · rename_i e
      rw [if_neg (by rw [e]; simp), ih (by omega)]

/-- Wanted, and a new block that the abstract machine has not made yet. -/
def Reg.pending (D : Nat → Bool) (m : Nat) (i : Nat) : Prop := D i = true ∧ Z.eff i = true ∧ m ≤ Z.c i ∧ ∃ o, Z.ops[i]? = some o ∧ wantedA (Z.T i) (compGuard Z.ops o.guard) = some true

structure Sim (B N : Nat) (g0 : Ghost) (w0 : World) (D : Nat → Bool) (m : Nat) (pb : Nat → Nat) (g : Ghost) (a : Act) (w : World) : Prop where
  rel : Rel P B g (Z.hs m) w
  ext : Ext g0 w0 g w
  mks : Marks g w N a.defers
  sz : a.tmps.size = Z.t0.length
  cl : Z.closed D
  lt : ∀ i, D i = true → i < Z.ops.size
  mle : m ≤ Z.c Z.ops.size
  pre : ∀ i, Z.eff i = true → Z.c i < m → D i = true
  slot : ∀ x, x < Z.t0.length → match lastW D Z.dst x Z.ops.size with
    | none => VRel g (Z.t0.getD x undef) (a.tmps.getD x undef)
    | some k => (Z.pending D m k → a.tmps.getD x undef = .pointer (some ⟨pb k, 0, none⟩)) ∧ (¬ Z.pending D m k → VRel g (Z.V k) (a.tmps.getD x undef))
  pnd : ∀ i o, Z.ops[i]? = some o → Z.pending D m i → isNewOp o.op = true ∧ ∃ (cells : List Value) (c : Array Value) (e : TypeId), compOp P o.op = .new cells ∧ w.heap[pb i]? = some (.cells c e (0, 0)) ∧ LR g cells c.toList ∧ ¬ InR g (pb i) ∧ w0.heap.size ≤ pb i ∧ pb i < w.heap.size
  inj : ∀ i j, Z.pending D m i → Z.pending D m j → pb i = pb j → i = j

def Top (D : Nat → Bool) (m : Nat) : Prop := ∀ i, Z.eff i = true → Z.c i = m → D i = false

variable {Z} {N : Nat} {g0 : Ghost} {w0 : World}

theorem Reg.eff_lt {Z : Reg P cf} {i : Nat} (h : Z.eff i = true) : i < Z.ops.size := by
  unfold Reg.eff effAt at h
  cases ho : Z.ops[i]? with
  | none => rw [ho] at h; simp at h
  | some o => exact (Array.getElem?_eq_some_iff.1 ho).1

/-- The new blocks that wait are taken over, as far as may be. -/
theorem flush {D : Nat → Bool} {pb : Nat → Nat} {a : Act} {w : World} (hB : B ≤ w0.heap.size) : ∀ (k m : Nat) (g : Ghost), Z.c Z.ops.size - m = k → Sim Z B N g0 w0 D m pb g a w → ∃ g' m', Sim Z B N g0 w0 D m' pb g' a w ∧ Top Z D m' := by
  intro k
  induction k with
  | zero =>
    intro m g hk S
    refine ⟨g, m, S, fun i hi hc => ?_⟩
    have := cE_lt (effAt P Z.ops) hi (Reg.eff_lt hi)
    unfold Reg.c at hc hk; omega
  | succ k ih =>
    intro m g hk S
    by_cases hex : ∃ i, Z.eff i = true ∧ Z.c i = m ∧ D i = true
    · obtain ⟨i, hie, hic, hiD⟩ := hex
      have hil := Reg.eff_lt hie
      have ho : Z.ops[i]? = some Z.ops[i] := Array.getElem?_eq_getElem hil
      have hst := (Z.step i _ ho).1
      -- what changes for the others
      have pstep : ∀ j, j ≠ i → (Z.pending D (m + 1) j ↔ Z.pending D m j) := by
        intro j hj
        constructor
        · rintro ⟨h1, h2, h3, h4⟩; exact ⟨h1, h2, by omega, h4⟩
        · rintro ⟨h1, h2, h3, h4⟩
          refine ⟨h1, h2, ?_, h4⟩
          rcases Nat.lt_or_ge m (Z.c j) with h5 | h5
          · exact h5
          · exact (hj (cE_inj (effAt P Z.ops) h2 hie (by unfold Reg.c at h3 h5 hic; omega))).elim
      have pnot : ¬ Z.pending D (m + 1) i := by rintro ⟨_, _, h3, _⟩; omega
      have hmle : m + 1 ≤ Z.c Z.ops.size := by
        have := cE_lt (effAt P Z.ops) hie hil
        unfold Reg.c at hic ⊢; omega
      have hpre : ∀ j, Z.eff j = true → Z.c j < m + 1 → D j = true := by
        intro j hj hc
        rcases Nat.lt_or_ge (Z.c j) m with h5 | h5
        · exact S.pre j hj h5
        · have : j = i := cE_inj (effAt P Z.ops) hj hie (by unfold Reg.c at hc h5 hic; omega)
          subst this; exact hiD
      rcases hst with ⟨hw, hrun⟩ | ⟨hw, hV, hskip⟩
      · -- it was done: a new block
        have hpend : Z.pending D m i := ⟨hiD, hie, by omega, _, ho, hw⟩
        obtain ⟨hnew, cells, c, e, hcomp, hheap, hcr, hnin, hge, hlt⟩ := S.pnd i _ ho hpend
        have hrun' : runOp P cf (compOp P Z.ops[i].op) (Z.T i) (Z.hs m) = some (Z.V i, Z.hs (m + 1)) := by
          rcases hrun with ⟨_, h1⟩ | ⟨h1, _⟩
          · have h2 : cE (effAt P Z.ops) i = m := hic
            rw [h2] at h1; exact h1
          · have h2 : isEff (compOp P Z.ops[i].op) = false := h1
            rw [hcomp] at h2; simp [isEff] at h2
        rw [hcomp] at hrun'
        simp only [runOp, aop, Option.some.injEq, Prod.mk.injEq] at hrun'
        obtain ⟨hV, hH⟩ := hrun'
        obtain ⟨g', R', G, hin, har, _, _⟩ := fresh_sound S.rel hheap hnin (Nat.le_trans hB hge) hlt cells 0 ⟨fun _ _ => by omega, fun _ => rfl⟩ (by have := hcr.1; simp at this; omega) hcr.getc
        have E' : Ext g0 w0 g' w := by
          refine ⟨S.ext.le.trans G, fun r hr => ?_, S.ext.size, S.ext.same, S.ext.os, S.ext.tape, S.ext.output⟩
          rcases hin r hr with h1 | h1
          · exact S.ext.new r h1
          · exact .inr (by omega)
        refine ih (m + 1) g' (by omega) ⟨by rw [← hH]; exact R', E', ?_, S.sz, S.cl, S.lt, hmle, hpre, ?_, ?_, ?_⟩
        · obtain ⟨Ds, d1, d2, d3⟩ := S.mks
          refine ⟨Ds, d1, d2, fun q hq => ?_⟩
          obtain ⟨q1, q2, q3, q4⟩ := d3 q hq
          refine ⟨q1, q2, q3, fun hi' => ?_⟩
          rcases hin q hi' with h1 | h1
          · exact q4 h1
          · subst h1; rw [hheap] at q3; simp at q3
        · intro x hx
          have hs := S.slot x hx
          split
          · rename_i hl; rw [hl] at hs; exact hs.mono G
          · rename_i k' hl
            rw [hl] at hs
            simp only at hs
            by_cases hki : k' = i
            · subst hki
              refine ⟨fun h => (pnot h).elim, fun _ => ?_⟩
              rw [hs.1 hpend, ← hV]
              exact .ptr har
            · refine ⟨fun h => hs.1 ((pstep k' hki).1 h), fun h => (hs.2 (fun h' => h ((pstep k' hki).2 h'))).mono G⟩
        · intro j o hoj hp
          have hji : j ≠ i := fun e => by subst e; exact pnot hp
          obtain ⟨h1, cells', c', e', h2, h3, h4, h5, h6, h7⟩ := S.pnd j o hoj ((pstep j hji).1 hp)
          refine ⟨h1, cells', c', e', h2, h3, h4.mono G, fun hi' => ?_, h6, h7⟩
          rcases hin _ hi' with h8 | h8
          · exact h5 h8
          · exact hji (S.inj j i ((pstep j hji).1 hp) hpend h8)
        · intro j1 j2 h1 h2 h3
          have e1 : j1 ≠ i := fun e => by subst e; exact pnot h1
          have e2 : j2 ≠ i := fun e => by subst e; exact pnot h2
          exact S.inj j1 j2 ((pstep j1 e1).1 h1) ((pstep j2 e2).1 h2) h3
      · -- it was passed over
        have hnp : ¬ Z.pending D m i := by
          rintro ⟨_, _, _, o, h1, h2⟩
          rw [ho] at h1; simp only [Option.some.injEq] at h1; subst h1
          have : wantedA (Z.T i) (compGuard Z.ops Z.ops[i].guard) = some false := hw
          rw [this] at h2; simp at h2
        have hH : Z.hs (m + 1) = Z.hs m := by
          have h2 : cE (effAt P Z.ops) i = m := hic
          rw [← h2]
          refine hskip ?_
          have := hie; unfold Reg.eff effAt at this; rw [ho] at this; exact this
        have pall : ∀ j, Z.pending D (m + 1) j ↔ Z.pending D m j := by
          intro j
          by_cases hj : j = i
          · subst hj; exact ⟨fun h => (pnot h).elim, fun h => (hnp h).elim⟩
          · exact pstep j hj
        refine ih (m + 1) g (by omega) ⟨by rw [hH]; exact S.rel, S.ext, S.mks, S.sz, S.cl, S.lt, hmle, hpre, ?_, ?_, ?_⟩
        · intro x hx
          have hs := S.slot x hx
          split
          · rename_i hl; rw [hl] at hs; exact hs
          · rename_i k' hl
            rw [hl] at hs
            exact ⟨fun h => hs.1 ((pall k').1 h), fun h => hs.2 (fun h' => h ((pall k').2 h'))⟩
        · intro j o hoj hp; exact S.pnd j o hoj ((pall j).1 hp)
        · intro j1 j2 h1 h2; exact S.inj j1 j2 ((pall j1).1 h1) ((pall j2).1 h2)
    · refine ⟨g, m, S, fun i hi hc => ?_⟩
      cases hD : D i with
      | false => rfl
      | true => exact (hex ⟨i, hi, hc, hD⟩).elim

def addD (D : Nat → Bool) (i : Nat) : Nat → Bool := fun k => if k = i then true else D k

theorem sim_put {D : Nat → Bool} {m m' : Nat} {pb pb' : Nat → Nat} {g g' : Ghost} {a : Act} {w w' : World} (S : Sim Z B N g0 w0 D m pb g a w) {i : Nat} {o : Oper} (ho : Z.ops[i]? = some o) (hi : D i = false) (hbits : ∀ j, Z.bit i j → D j = true)
    (R' : Rel P B g' (Z.hs m') w') (E' : Ext g w g' w') (hm' : m' ≤ Z.c Z.ops.size) (hpre : ∀ k, Z.eff k = true → Z.c k < m' → addD D i k = true) (hpn : ∀ k, k ≠ i → (Z.pending (addD D i) m' k ↔ Z.pending D m k)) (hpb : ∀ k, k ≠ i → pb' k = pb k) {y : Value}
    (hy1 : Z.pending (addD D i) m' i → y = .pointer (some ⟨pb' i, 0, none⟩) ∧ (isNewOp o.op = true ∧ ∃ (cells : List Value) (c : Array Value) (e : TypeId), compOp P o.op = .new cells ∧ w'.heap[pb' i]? = some (.cells c e (0, 0)) ∧ LR g' cells c.toList ∧ ¬ InR g' (pb' i) ∧ w.heap.size ≤ pb' i ∧ pb' i < w'.heap.size))
    (hy2 : ¬ Z.pending (addD D i) m' i → VRel g' (Z.V i) y) : Sim Z B N g0 w0 (addD D i) m' pb' g' (a.put o.dst y) w' := by
  have hlt : i < Z.ops.size := (Array.getElem?_eq_some_iff.1 ho).1
  have hdi : Z.dst i = o.dst := by unfold Reg.dst; rw [ho]; rfl
  have hE0 := S.ext.trans E'
  refine ⟨R', hE0, by rw [put_defers]; exact S.mks.ext E', ?_, ?_, ?_, hm', hpre, ?_, ?_, ?_⟩
  · rw [← S.sz]
    cases o.dst <;> simp [Act.put]
  · intro k j hk hb
    unfold addD at hk ⊢
    split
    · rfl
    · split at hk
      · rename_i e; subst e; exact hbits j hb
      · exact S.cl k j hk hb
  · intro k hk
    unfold addD at hk
    split at hk
    · rename_i e; rw [e]; exact hlt
    · exact S.lt k hk
  · intro x hx
    have hs := S.slot x hx
    by_cases hd : o.dst = some x
    · have hl : lastW (addD D i) Z.dst x Z.ops.size = some i := by
        refine lastW_top (by simp [addD]) (by rw [hdi, hd]) _ hlt fun k hk1 hk2 hk3 => ?_
        have hok : Z.ops[k]? = some Z.ops[k] := Array.getElem?_eq_getElem hk2
        have hdk : Z.ops[k].dst = some x := by unfold Reg.dst at hk3; rw [hok] at hk3; exact hk3
        unfold addD
        rw [if_neg (by omega)]
        cases hDk : D k with
        | false => rfl
        | true =>
          have := S.cl k i hDk (Z.ordered ho hok hk1 (.inl ⟨hd, .inr hdk⟩))
          rw [hi] at this; simp at this
      rw [hl]
      have hv : (a.put o.dst y).tmps.getD x undef = y := by
        rw [hd]
        simp only [Act.put, Array.getD_eq_getD_getElem?]
        rw [Array.getElem?_setIfInBounds_self]
        have : x < a.tmps.size := by rw [S.sz]; exact hx
        simp [this]
      rw [hv]
      exact ⟨fun h => (hy1 h).1, hy2⟩
    · have hl : lastW (addD D i) Z.dst x Z.ops.size = lastW D Z.dst x Z.ops.size := lastW_set (by rw [hdi]; exact hd) _
      rw [hl]
      have hv : (a.put o.dst y).tmps.getD x undef = a.tmps.getD x undef := by
        cases hdd : o.dst with
        | none => rfl
        | some d =>
          have hne : d ≠ x := fun e => hd (by rw [hdd, e])
          simp only [Act.put, Array.getD_eq_getD_getElem?]
          rw [Array.getElem?_setIfInBounds_ne hne]
      rw [hv]
      split
      · rename_i hq; rw [hq] at hs; exact hs.mono E'.le
      · rename_i k hq
        rw [hq] at hs
        simp only at hs
        have hk : k ≠ i := fun e => by subst e; have := (lastW_some hq).2.1; rw [hi] at this; simp at this
        refine ⟨fun h => ?_, fun h => ?_⟩
        · rw [hpb k hk]; exact hs.1 ((hpn k hk).1 h)
        · exact (hs.2 (fun h' => h ((hpn k hk).2 h'))).mono E'.le
  · intro k ok hok hp
    by_cases hk : k = i
    · subst hk
      rw [ho] at hok; simp only [Option.some.injEq] at hok; subst hok
      obtain ⟨_, h1, cells, c, e, h2, h3, h4, h5, h6, h7⟩ := hy1 hp
      exact ⟨h1, cells, c, e, h2, h3, h4, h5, Nat.le_trans S.ext.size h6, h7⟩
    · obtain ⟨h1, cells, c, e, h2, h3, h4, h5, h6, h7⟩ := S.pnd k ok hok ((hpn k hk).1 hp)
      rw [hpb k hk]
      refine ⟨h1, cells, c, e, h2, by rw [E'.same _ h7 h5]; exact h3, h4.mono E'.le, fun hin => ?_, h6, Nat.lt_of_lt_of_le h7 E'.size⟩
      rcases E'.new _ hin with h8 | h8
      · exact h5 h8
      · omega
  · intro k1 k2 h1 h2 h3
    have old : ∀ k, k ≠ i → Z.pending (addD D i) m' k → pb' k < w.heap.size := by
      intro k hk hp
      obtain ⟨_, _, _, ok, hok, _⟩ := id hp
      obtain ⟨_, _, _, _, _, _, _, _, _, h7⟩ := S.pnd k ok hok ((hpn k hk).1 hp)
      rw [hpb k hk]; exact h7
    by_cases e1 : k1 = i <;> by_cases e2 : k2 = i
    · rw [e1, e2]
    · subst e1
      obtain ⟨_, _, _, _, _, _, _, _, _, h6, _⟩ := hy1 h1
      have := old k2 e2 h2; omega
    · subst e2
      obtain ⟨_, _, _, _, _, _, _, _, _, h6, _⟩ := hy1 h2
      have := old k1 e1 h1; omega
    · rw [hpb k1 e1, hpb k2 e2] at h3
      exact S.inj k1 k2 ((hpn k1 e1).1 h1) ((hpn k2 e2).1 h2) h3

/-- What a ready operation looks at stands as the text has it. -/
theorem sim_uses {D : Nat → Bool} {m : Nat} {pb : Nat → Nat} {g : Ghost} {a : Act} {w : World} (S : Sim Z B N g0 w0 D m pb g a w) (ht : Top Z D m) {i : Nat} {o : Oper} (ho : Z.ops[i]? = some o) (hi : D i = false) (hbits : ∀ j, Z.bit i j → D j = true)
    {x : Nat} (hx : x ∈ usesOf Z.ops o) : VRel g ((Z.T i).getD x undef) (a.tmps.getD x undef) := by
  have hlt : i < Z.ops.size := (Array.getElem?_eq_some_iff.1 ho).1
  by_cases hxl : x < Z.t0.length
  · have hT := Z.T_val i (by omega) x hxl
    have hl : lastW D Z.dst x Z.ops.size = lastW (fun _ => true) Z.dst x i := by
      refine lastW_cut _ (by omega) (fun k hk hd => ?_) (fun k hk1 hk2 hd => ?_)
      · have hok : Z.ops[k]? = some Z.ops[k] := Array.getElem?_eq_getElem (by omega)
        have hdk : Z.ops[k].dst = some x := by unfold Reg.dst at hd; rw [hok] at hd; exact hd
        exact hbits k (Z.ordered hok ho hk (.inl ⟨hdk, .inl hx⟩))
      · rcases Nat.lt_or_ge i k with h1 | h1
        · have hok : Z.ops[k]? = some Z.ops[k] := Array.getElem?_eq_getElem hk2
          have hdk : Z.ops[k].dst = some x := by unfold Reg.dst at hd; rw [hok] at hd; exact hd
          cases hDk : D k with
          | false => rfl
          | true =>
            have := S.cl k i hDk (Z.ordered ho hok h1 (.inr ⟨hdk, hx⟩))
            rw [hi] at this; simp at this
        · have : k = i := by omega
          rw [this]; exact hi
    have hs := S.slot x hxl
    rw [hl] at hs
    have hg : (Z.T i).getD x undef = match lastW (fun _ => true) Z.dst x i with | none => Z.t0.getD x undef | some k => Z.V k := by
      rw [List.getD_eq_getElem?_getD, hT]; rfl
    rw [hg]
    split at hs
    · exact hs
    · rename_i k hq
      refine hs.2 fun hp => ?_
      obtain ⟨hki, _, hdk⟩ := lastW_some hq
      obtain ⟨hDk, hek, hmk, ok, hok, _⟩ := id hp
      have hdk' : ok.dst = some x := by unfold Reg.dst at hdk; rw [hok] at hdk; exact hdk
      have hnew := (S.pnd k ok hok hp).1
      have hne : m < Z.c k := by
        rcases Nat.lt_or_ge m (Z.c k) with h1 | h1
        · exact h1
        · have := ht k hek (by omega); rw [hDk] at this; simp at this
      have hkl : k < Z.ops.size := by omega
      obtain ⟨e, he1, he2, he3⟩ := cE_exists (effAt P Z.ops) (n := k) hne
      have hDe := ht e he2 he3
      have hnb : ¬ Z.bit k e := fun hb => by have := S.cl k e hDk hb; rw [hDe] at this; simp at this
      rcases Z.loose hok hnew he1 he2 hnb hdk' ho with ⟨h1, h2⟩ | h1
      · have hei : Z.eff i = true := by unfold Reg.eff effAt; rw [ho]; exact h1
        have hoe : Z.ops[e]? = some Z.ops[e] := Array.getElem?_eq_getElem (by omega)
        have := hbits e (Z.effs hoe ho (by omega) he2 hei h2)
        rw [hDe] at this; simp at this
      · exact h1 hx
  · rw [List.getD_eq_getElem?_getD, List.getElem?_eq_none (by rw [Z.T_len i (by omega)]; omega)]
    exact .top _

theorem mask_rel {g : Ghost} {t : List Value} {tm : Array Value} (hs : tm.size = t.length) {us : List Nat} (hu : ∀ x ∈ us, VRel g (t.getD x undef) (tm.getD x undef)) : LR g (t.mapIdx fun i v => if us.contains i then v else undef) tm.toList := by
  refine ⟨by simp [hs], fun i x y hx hy => ?_⟩
  rw [List.getElem?_mapIdx] at hx
  cases e : t[i]? with
  | none => simp [e] at hx
  | some v =>
    rw [e] at hx
    simp only [Option.map_some, Option.some.injEq] at hx
    split at hx
    · rename_i hc
      subst hx
      have := hu i (by simpa using hc)
      have hy' : tm[i]? = some y := by simpa using hy
      rw [List.getD_eq_getElem?_getD, e, Array.getD_eq_getD_getElem?, hy'] at this
      exact this
    · subst hx; exact .top _

theorem mask_get {t : List Value} {us : List Nat} {x : Nat} (hx : x ∈ us) : (t.mapIdx fun i v => if us.contains i then v else undef)[x]? = t[x]? := by
  rw [List.getElem?_mapIdx]
  cases t[x]? with
  | none => rfl
  | some v => simp [hx]

theorem new_not {op : Op} (h : isNewOp op = true) : ∃ t, op = .alloc t := by
  cases op <;> simp [isNewOp] at h; exact ⟨_, rfl⟩

theorem sim_step (hcf : CallOK P B cf) (hB : B ≤ w0.heap.size) {D : Nat → Bool} {m : Nat} {pb : Nat → Nat} {g : Ghost} {a : Act} {w : World} (S : Sim Z B N g0 w0 D m pb g a w) (ht : Top Z D m) {i : Nat} {o : Oper} (ho : Z.ops[i]? = some o) (hi : D i = false) (hbits : ∀ j, Z.bit i j → D j = true)
    {r : Option Nat} {Q : Exit → Act → World → Prop} {K : Act → World → Prop} (hK : ∀ pb' g' m' a' w', Sim Z B N g0 w0 (addD D i) m' pb' g' a' w' → Top Z (addD D i) m' → K a' w') : wpOpIn (F0 r) 0 P Z.ops Q i K a w := by
  have hlt : i < Z.ops.size := (Array.getElem?_eq_some_iff.1 ho).1
  have hsz : a.tmps.size = (Z.T i).length := by rw [S.sz, Z.T_len i (by omega)]
  have hmask := mask_rel hsz (fun x hx => sim_uses S ht ho hi hbits (x := x) hx)
  have hwant : ∀ {b : Bool}, wantedA (Z.T i) (compGuard Z.ops o.guard) = some b → Region.wanted o (yielded Z.ops a.tmps) = b := by
    intro b hb
    refine wanted_rel hmask (o := o) ?_
    rw [← hb]
    unfold wantedA compGuard
    cases hg : o.guard with
    | none => rfl
    | some p =>
      obtain ⟨j, want⟩ := p
      simp only [Option.map_some]
      cases hd : (Z.ops[j]?).bind (·.dst) with
      | none => rfl
      | some d =>
        simp only [Option.bind_some]
        rw [mask_get (by unfold usesOf; rw [hg]; simp only; rw [hd]; simp)]
  have heval : ∀ x ∈ o.op.operands, VRel g (evalT (Z.T i) x) (a.eval x) := by
    intro x hx
    have h1 := eval_rel hmask x
    cases x with
    | tmp d =>
      have h2 : d ∈ usesOf Z.ops o := by
        unfold usesOf
        refine List.mem_append_left _ ?_
        unfold tmpsOf
        exact List.mem_filterMap.2 ⟨.tmp d, by simpa using hx, rfl⟩
      simp only [evalT] at h1 ⊢
      rw [List.getD_eq_getElem?_getD, mask_get h2] at h1
      rw [List.getD_eq_getElem?_getD]; exact h1
    | _ => exact h1
  have hK' : ∀ pb' g' m' a' w', Sim Z B N g0 w0 (addD D i) m' pb' g' a' w' → K a' w' := by
    intro pb' g' m' a' w' S'
    obtain ⟨g2, m2, S2, t2⟩ := flush hB _ m' g' rfl S'
    exact hK pb' g2 m2 a' w' S2 t2
  have padd : ∀ {m' : Nat} {k : Nat}, k ≠ i → (Z.pending (addD D i) m' k ↔ Z.pending D m' k) := by
    intro m' k hk
    unfold Reg.pending addD
    rw [if_neg hk]
  have preadd : ∀ k, Z.eff k = true → Z.c k < m → addD D i k = true := by
    intro k hk hc
    unfold addD
    split
    · rfl
    · exact S.pre k hk hc
  unfold wpOpIn
  simp only [ho]
  rcases (Z.step i o ho).1 with ⟨hw, hrun⟩ | ⟨hw, hV, hskip⟩
  · rw [hwant hw, if_pos rfl]
    rcases hrun with ⟨heff, hrun⟩ | ⟨hneff, hfact⟩
    · have hei : Z.eff i = true := by unfold Reg.eff effAt; rw [ho]; exact heff
      cases hnew : isNewOp o.op with
      | true =>
        -- a new block: it waits
        obtain ⟨ty, hty⟩ := new_not hnew
        have hcomp : ∃ cells, compOp P o.op = .new cells ∧ zeroOf P ty = some cells := by
          rw [hty]
          simp only [compOp]
          have h2 : runOp P cf (compOp P o.op) (Z.T i) (Z.hs (cE (effAt P Z.ops) i)) = some (Z.V i, Z.hs (cE (effAt P Z.ops) i + 1)) := hrun
          rw [hty] at h2
          simp only [compOp] at h2
          cases hz : zeroOf P ty with
          | none => rw [hz] at h2; simp [runOp, aop] at h2
          | some z => exact ⟨z, rfl, rfl⟩
        obtain ⟨cells, hc1, hc2⟩ := hcomp
        obtain ⟨inf, z, hinf, hzz, rfl, hp⟩ := zeroOf_some hc2
        obtain ⟨R', E'⟩ := S.rel.push (.cells z.cells ty)
        have hrun' : (execOp a.eval o).run P w = .ok (.value (.pointer (some ⟨w.heap.size, 0, none⟩))) (w.alloc (.cells z.cells ty)) := by
          unfold execOp
          rw [hty]
          simp only
          refine run_v ?_
          unfold Instr.alloc
          rw [run_bindE (run_zero hinf hzz)]
          simp only
          rw [run_bindE run_newVar]; rfl
        have hmi : m ≤ Z.c i := by
          rcases Nat.lt_or_ge (Z.c i) m with h1 | h1
          · have := S.pre i hei h1; rw [hi] at this; simp at this
          · exact h1
        refine ⟨fun _ _ => trivial, ?_⟩
        rw [Oper.semAt_eq (F0 r).round a.eval o (fun c e => by rw [e] at hty; simp at hty), hrun']
        refine hK' (fun k => if k = i then w.heap.size else pb k) g m _ _ (sim_put S ho hi hbits R' E' S.mle preadd (fun k hk => padd hk) (fun k hk => if_neg hk) (fun _ => ⟨by simp, hnew, _, z.cells, ty, hc1, ?_, allPlain_LR hp, ?_, by simp, by simp⟩) (fun h => (h ⟨by simp [addD], hei, hmi, o, ho, hw⟩).elim))
        · simp only [if_true]; exact alloc_at w _
        · simp only [if_true]; intro hin; have := hin.lt S.rel; omega
      | false =>
        have hmi : m = Z.c i := by
          rcases Nat.lt_trichotomy m (Z.c i) with h1 | h1 | h1
          · obtain ⟨e, he1, he2, he3⟩ := cE_exists (effAt P Z.ops) (n := i) h1
            have hDe := ht e he2 he3
            have hoe : Z.ops[e]? = some Z.ops[e] := Array.getElem?_eq_getElem (by omega)
            have := hbits e (Z.effs hoe ho he1 he2 hei hnew)
            rw [hDe] at this; simp at this
          · exact h1
          · have := S.pre i hei h1; rw [hi] at this; simp at this
        have hrun2 : runOp P cf (compOp P o.op) (Z.T i) (Z.hs m) = some (Z.V i, Z.hs (m + 1)) := by rw [hmi]; exact hrun
        refine opIn_sound hcf S.rel heval hrun2 fun y w' g' hy R' E' => ?_
        refine hK' pb g' (m + 1) _ _ (sim_put S ho hi hbits R' E' ?_ ?_ ?_ (fun _ _ => rfl) (fun h => ?_) (fun _ => hy))
        · have := cE_lt (effAt P Z.ops) hei hlt; unfold Reg.c at hmi ⊢; omega
        · intro k hk hc
          rcases Nat.lt_or_ge (Z.c k) m with h1 | h1
          · exact preadd k hk h1
          · have : k = i := cE_inj (effAt P Z.ops) hk hei (by unfold Reg.c at hc h1 hmi; omega)
            simp [addD, this]
        · intro k hk
          rw [padd hk]
          constructor
          · rintro ⟨h1, h2, h3, h4⟩; exact ⟨h1, h2, by omega, h4⟩
          · rintro ⟨h1, h2, h3, h4⟩
            refine ⟨h1, h2, ?_, h4⟩
            rcases Nat.lt_or_ge m (Z.c k) with h5 | h5
            · exact h5
            · exact (hk (cE_inj (effAt P Z.ops) h2 hei (by unfold Reg.c at h3 h5 hmi; omega))).elim
        · obtain ⟨_, _, h3, _⟩ := h; omega
    · -- it only reads
      have hne : isEff (compOp P o.op) = false := hneff
      have heffE : Z.eff i = false := by unfold Reg.eff effAt; rw [ho]; exact hne
      have hE : effOf P Z.ops = (List.range Z.ops.size).filter (effAt P Z.ops) := rfl
      have hlo : ((effOf P Z.ops).takeWhile fun j => ((befores Z.ops.toList).getD i 0).testBit j).length ≤ m := by
        rcases Nat.lt_or_ge m ((effOf P Z.ops).takeWhile fun j => ((befores Z.ops.toList).getD i 0).testBit j).length with h1 | h1
        · have h2 := List.getElem?_eq_getElem h1
          have h3 : ((effOf P Z.ops).takeWhile fun j => ((befores Z.ops.toList).getD i 0).testBit j)[m] ∈ (effOf P Z.ops).takeWhile fun j => ((befores Z.ops.toList).getD i 0).testBit j := List.getElem_mem h1
          have h4 := takeWhile_mem _ _ h3
          have h5 : (effOf P Z.ops)[m]? = some ((effOf P Z.ops).takeWhile fun j => ((befores Z.ops.toList).getD i 0).testBit j)[m] := by
            rw [← h2]
            have h6 := List.takeWhile_prefix (fun j => ((befores Z.ops.toList).getD i 0).testBit j) (l := effOf P Z.ops)
            obtain ⟨r', hr'⟩ := h6
            conv => lhs; rw [← hr']
            rw [List.getElem?_append_left h1]
          obtain ⟨h6, h7, h8⟩ := filter_get (effAt P Z.ops) Z.ops.size _ _ h5
          have h9 := hbits _ h4
          have := ht _ h6 h8
          rw [h9] at this; simp at this
        · exact h1
      have hhi : m ≤ ((effOf P Z.ops).takeWhile fun j => !((befores Z.ops.toList).getD j 0).testBit i).length := by
        rcases Nat.lt_or_ge ((effOf P Z.ops).takeWhile fun j => !((befores Z.ops.toList).getD j 0).testBit i).length m with h1 | h1
        · have hml := S.mle
          have h2 : ((effOf P Z.ops).takeWhile fun j => !((befores Z.ops.toList).getD j 0).testBit i).length < (effOf P Z.ops).length := by
            have : (effOf P Z.ops).length = Z.c Z.ops.size := rfl
            omega
          have h3 : (effOf P Z.ops)[((effOf P Z.ops).takeWhile fun j => !((befores Z.ops.toList).getD j 0).testBit i).length]? = some (effOf P Z.ops)[((effOf P Z.ops).takeWhile fun j => !((befores Z.ops.toList).getD j 0).testBit i).length] := List.getElem?_eq_getElem h2
          have h4 : ¬ (!((befores Z.ops.toList).getD ((effOf P Z.ops)[((effOf P Z.ops).takeWhile fun j => !((befores Z.ops.toList).getD j 0).testBit i).length]) 0).testBit i) = true := takeWhile_stop _ _ h2
          obtain ⟨h6, h7, h8⟩ := filter_get (effAt P Z.ops) Z.ops.size _ _ h3
          have h9 := S.pre _ h6 (by show cE _ _ < m; rw [h8]; exact h1)
          have h10 := S.cl _ i h9 (by
            unfold Reg.bit
            simp only [Bool.not_eq_true', Bool.not_eq_false] at h4
            exact h4)
          rw [hi] at h10; simp at h10
        · exact h1
      have hf : Fact P (compOp P o.op) (Z.T i) (Z.V i) (Z.hs m) := hfact m hlo hhi S.mle
      refine opIn_sound hcf S.rel heval hf.run fun y w' g' hy R' E' => ?_
      exact hK' pb g' m _ _ (sim_put S ho hi hbits R' E' S.mle preadd (fun k hk => padd hk) (fun _ _ => rfl) (fun h => by have := h.2.1; rw [heffE] at this; simp at this) (fun _ => hy))
  · rw [hwant hw, if_neg (by simp)]
    refine ⟨fun _ _ => trivial, ?_⟩
    refine hK' pb g m _ _ (sim_put S ho hi hbits S.rel (Ext.refl g w) S.mle preadd (fun k hk => padd hk) (fun _ _ => rfl) (fun h => ?_) (fun _ => by rw [hV]; exact .skip))
    obtain ⟨_, _, _, o', h1, h2⟩ := h
    rw [ho] at h1; simp only [Option.some.injEq] at h1; subst h1
    have : wantedA (Z.T i) (compGuard Z.ops o.guard) = some false := hw
    rw [this] at h2; simp at h2

/-- Every order comes to the end that the text's order has. -/
theorem sim_all (hcf : CallOK P B cf) (hB : B ≤ w0.heap.size) {r : Option Nat} {Q : Exit → Act → World → Prop} (hQ : ∀ a w g, Rel P B g (Z.hs (Z.c Z.ops.size)) w → Ext g0 w0 g w → Marks g w N a.defers → LR g (Z.T Z.ops.size) a.tmps.toList → Q .normal a w) :
    ∀ (fuel : Nat) (listed : Array Bool) (m : Nat) (pb : Nat → Nat) (g : Ghost) (a : Act) (w : World), listed.size = Z.ops.size → ((List.range Z.ops.size).filter fun i => !listed.getD i false).length = fuel →
      Sim Z B N g0 w0 (fun k => listed.getD k false) m pb g a w → Top Z (fun k => listed.getD k false) m → wpAnyIn (F0 r) 0 P .any Z.ops Q fuel listed a w := by
  -- at the end
  have fin : ∀ (listed : Array Bool) (m : Nat) (pb : Nat → Nat) (g : Ghost) (a : Act) (w : World), listed.size = Z.ops.size → (∀ i, i < Z.ops.size → listed.getD i false = true) → Sim Z B N g0 w0 (fun k => listed.getD k false) m pb g a w → Top Z (fun k => listed.getD k false) m → Q .normal a w := by
    intro listed m pb g a w hls hall S ht
    have hm : m = Z.c Z.ops.size := by
      rcases Nat.lt_or_ge m (Z.c Z.ops.size) with h1 | h1
      · obtain ⟨e, he1, he2, he3⟩ := cE_exists (effAt P Z.ops) (n := Z.ops.size) h1
        have h9 : listed.getD e false = false := ht e he2 he3
        rw [hall e he1] at h9; simp at h9
      · have := S.mle; omega
    have hnp : ∀ k, ¬ Z.pending (fun k => listed.getD k false) m k := by
      rintro k ⟨h1, h2, h3, _⟩
      have := cE_lt (effAt P Z.ops) h2 (Reg.eff_lt h2)
      unfold Reg.c at hm h3; omega
    refine hQ a w g (by rw [← hm]; exact S.rel) S.ext S.mks ?_
    refine ⟨by rw [Z.T_len _ (Nat.le_refl _)]; simp [S.sz], fun x v y hx hy => ?_⟩
    have hxl : x < Z.t0.length := by
      rcases Nat.lt_or_ge x Z.t0.length with h1 | h1
      · exact h1
      · rw [List.getElem?_eq_none (by rw [Z.T_len _ (Nat.le_refl _)]; exact h1)] at hx; simp at hx
    have hT := Z.T_val _ (Nat.le_refl _) x hxl
    rw [hT] at hx
    simp only [Option.some.injEq] at hx
    have hl : lastW (fun k => listed.getD k false) Z.dst x Z.ops.size = lastW (fun _ => true) Z.dst x Z.ops.size := lastW_cut _ (Nat.le_refl _) (fun k hk _ => hall k hk) (fun k h1 h2 _ => by omega)
    have hs := S.slot x hxl
    rw [hl] at hs
    have hy' : a.tmps.getD x undef = y := by
      have : a.tmps[x]? = some y := by simpa using hy
      rw [Array.getD_eq_getD_getElem?, this]; rfl
    rw [hy'] at hs
    rw [← hx]
    split at hs
    · exact hs
    · exact hs.2 (hnp _)
  have readyNil : ∀ (listed : Array Bool), listed.size = Z.ops.size → Region.ready .any Z.ops listed = [] → ∀ i, i < Z.ops.size → listed.getD i false = true := by
    intro listed hls hr i
    induction i using Nat.strongRecOn with
    | _ i ih =>
      intro hi
      cases hl : listed.getD i false with
      | true => rfl
      | false =>
        exfalso
        have hoi : Z.ops[i]? = some Z.ops[i] := Array.getElem?_eq_getElem hi
        have : i ∈ Region.ready .any Z.ops listed := by
          refine mem_ready.2 ⟨?_, _, hoi, fun e he hb => ?_⟩
          · rw [Array.getD_eq_getD_getElem?] at hl ⊢
            have : listed[i]? = some listed[i] := Array.getElem?_eq_getElem (by omega)
            rw [this] at hl ⊢; exact hl
          · have hlt := Z.edge hoi (by simpa using he) hb
            exact ih e.on hlt (by omega)
        rw [hr] at this; simp at this
  intro fuel
  induction fuel with
  | zero =>
    intro listed m pb g a w hls hf S ht
    have hall : ∀ i, i < Z.ops.size → listed.getD i false = true := by
      intro i hi
      have : ((List.range Z.ops.size).filter fun i => !listed.getD i false) = [] := List.eq_nil_of_length_eq_zero hf
      rw [List.filter_eq_nil_iff] at this
      have := this i (by simpa using hi)
      simpa using this
    refine ⟨?_, fin listed m pb g a w hls hall S ht⟩
    rw [List.eq_nil_iff_forall_not_mem]
    intro i hi
    obtain ⟨h0, o, ho, _⟩ := mem_ready.1 hi
    have hlt : i < Z.ops.size := (Array.getElem?_eq_some_iff.1 ho).1
    have h1 := hall i hlt
    rw [Array.getD_eq_getD_getElem?] at h0 h1
    have : listed[i]? = some listed[i] := Array.getElem?_eq_getElem (by omega)
    rw [this] at h0 h1
    simp at h0 h1; rw [h0] at h1; simp at h1
  | succ fuel ih =>
    intro listed m pb g a w hls hf S ht
    refine ⟨fun hr => fin listed m pb g a w hls (readyNil listed hls hr) S ht, fun i hi => ?_⟩
    obtain ⟨⟨o, ho⟩, h0, hb⟩ := Z.ready S.cl hi
    have hlt : i < Z.ops.size := (Array.getElem?_eq_some_iff.1 ho).1
    have hlg : listed[i]? = some listed[i] := Array.getElem?_eq_getElem (by omega)
    have hfl : listed.getD i false = false := by
      rw [Array.getD_eq_getD_getElem?] at h0 ⊢
      rw [hlg] at h0 ⊢; exact h0
    refine sim_step hcf hB S ht ho hfl hb fun pb' g' m' a' w' S' t' => ?_
    have hD : (fun k => (listed.setIfInBounds i true).getD k false) = addD (fun k => listed.getD k false) i := by
      funext k
      unfold addD
      by_cases hk : k = i
      · subst hk
        rw [if_pos rfl, Array.getD_eq_getD_getElem?]
        simp [hls, hlt]
      · rw [if_neg hk, getD_set_ne false (Ne.symm hk)]
    refine ih (listed.setIfInBounds i true) m' pb' g' a' w' (by simpa using hls) ?_ (by rw [hD]; exact S') (by rw [hD]; exact t')
    -- one less is left
    have hcount : ∀ n, i < n → ((List.range n).filter fun k => !listed.getD k false).length = ((List.range n).filter fun k => !(listed.setIfInBounds i true).getD k false).length + 1 := by
      have hget : ∀ k, (listed.setIfInBounds i true).getD k false = if k = i then true else listed.getD k false := fun k => congrFun hD k
      have hsame : ∀ n, n ≤ i → ((List.range n).filter fun k => !listed.getD k false) = ((List.range n).filter fun k => !(listed.setIfInBounds i true).getD k false) := by
        intro n hn
        refine List.filter_congr fun k hk => ?_
        rw [List.mem_range] at hk
        rw [hget, if_neg (by omega)]
      intro n
      induction n with
      | zero => intro h; omega
      | succ n ihn =>
        intro h
        rw [List.range_succ, List.filter_append, List.filter_append, List.length_append, List.length_append]
        by_cases hn : n = i
        · subst hn
          rw [hsame n (Nat.le_refl _)]
          have q1 : ([n].filter fun k => !listed.getD k false).length = 1 := by simp only [List.filter_cons, hfl]; rfl
          have q2 : ([n].filter fun k => !(listed.setIfInBounds n true).getD k false).length = 0 := by simp only [List.filter_cons, hget, if_true]; rfl
          omega
        · have := ihn (by omega)
          have h2 : ([n].filter fun k => !listed.getD k false) = ([n].filter fun k => !(listed.setIfInBounds i true).getD k false) := by
            refine List.filter_congr fun k hk => ?_
            simp only [List.mem_singleton] at hk
            rw [hget, if_neg (by omega)]
          rw [this, h2]; omega
    have := hcount Z.ops.size hlt
    omega

theorem draw_sound (hcf : CallOK P B cf) (hmix : P.follows .mixedOrders = true) {id : Nat} {ops : Array Oper} {all res L n : Nat} {E : List (Nat × Nat)} {t : List Value} {h : Heap} {e : Ex} {t' : List Value} {h' : Heap}
    (hr : aexec P cf n (comp P all res (.region id ops true) L E) t h = some (e, t', h')) {g : Ghost} {w : World} {a : Act} {r : Option Nat} {N : Nat} (hrd : RndOk g r) (R : Rel P B g h w) (hl : LR g t a.tmps.toList) (hm : Marks g w N a.defers) (hN : N ≤ w.heap.size) :
    (Code.region id ops true).wpIn (F0 r) 0 P (QX P B N g w e t' h') a w := by
  simp only [comp, if_true] at hr
  split at hr
  case isFalse => simp [aexec] at hr
  rename_i hok
  simp only [aexec] at hr
  cases hq : drun P cf (compOps P ops) [] [] 0 t h with
  | none => simp [hq] at hr
  | some p =>
    obtain ⟨t1, h1⟩ := p
    simp [hq] at hr
    obtain ⟨rfl, rfl, rfl⟩ := hr
    have hE : ∀ o ∈ compOps P ops, o.eff = isEff o.op := by
      intro o ho
      rw [List.mem_iff_getElem?] at ho
      obtain ⟨i, hi⟩ := ho
      cases hoi : ops[i]? with
      | none =>
        rw [List.getElem?_eq_none (by rw [compOps_len]; exact Array.getElem?_eq_none_iff.1 hoi)] at hi; simp at hi
      | some o' =>
        rw [compOps_get hoi] at hi
        simp only [Option.some.injEq] at hi; subst hi; rfl
    obtain ⟨T, V, hs, e1, _, e3, e4, e5, e6, _⟩ := drun_spec _ hE [] [] 0 t h t1 h1 hq rfl (fun p hp => by simp at hp)
    -- effects, counted
    have hcnt : ∀ i, i ≤ ops.size → cntE ((compOps P ops).take i) = cE (effAt P ops) i := by
      intro i
      induction i with
      | zero => intro _; rfl
      | succ i ih =>
        intro hi
        have hoi : ops[i]? = some ops[i] := Array.getElem?_eq_getElem (by omega)
        have hlc : i < (compOps P ops).length := by rw [compOps_len]; omega
        rw [List.take_succ_eq_append_getElem hlc, cE_succ, ← ih (by omega)]
        have hge : (compOps P ops)[i] = compOper P ops (befores ops.toList) (effOf P ops) i ops[i] := by
          have := compOps_get (P := P) hoi
          rw [List.getElem?_eq_getElem hlc] at this
          exact Option.some.inj this
        rw [hge]
        unfold cntE
        rw [List.filter_append, List.length_append]
        have heq : effAt P ops i = (compOper P ops (befores ops.toList) (effOf P ops) i ops[i]).eff := by
          unfold effAt; rw [hoi]; rfl
        rw [heq]
        cases hef : (compOper P ops (befores ops.toList) (effOf P ops) i ops[i]).eff <;> simp [hef]
    have hall : cntE (compOps P ops) = cE (effAt P ops) ops.size := by
      rw [← hcnt ops.size (Nat.le_refl _), List.take_of_length_le (by rw [compOps_len]; exact Nat.le_refl _)]
    have hstep : ∀ i o, ops[i]? = some o → StepF P cf (compOper P ops (befores ops.toList) (effOf P ops) i o) (T i) (V i) (cE (effAt P ops) i) (cE (effAt P ops) ops.size) hs ∧ T (i + 1) = putT (T i) o.dst (V i) := by
      intro i o ho
      have hlt : i < ops.size := (Array.getElem?_eq_some_iff.1 ho).1
      obtain ⟨q1, q2⟩ := e6 i _ (compOps_get ho)
      rw [Nat.zero_add, Nat.zero_add, hcnt i (by omega), hall] at q1
      exact ⟨q1, q2⟩
    let Z : Reg P cf := { ops := ops, ok := hok, t0 := t, T := T, V := V, hs := hs, T0 := e1, step := hstep }
    refine wpIn_region_any hmix ?_
    have hrep : ∀ k, (Array.replicate ops.size false).getD k false = false := by
      intro k
      rw [Array.getD_eq_getD_getElem?, Array.getElem?_replicate]
      split <;> rfl
    have hdw : Ext g w g { w with drawn := w.drawn + 1 } := (Ext.refl g w).drew
    have hlast : ∀ x n, lastW (fun k => (Array.replicate ops.size false).getD k false) Z.dst x n = none := by
      intro x n
      induction n with
      | zero => rfl
      | succ n ih =>
        simp only [lastW]
        rw [if_neg (fun ⟨a, _⟩ => by rw [hrep] at a; simp at a)]; exact ih
    have S0 : Sim Z B N g w (fun k => (Array.replicate ops.size false).getD k false) 0 (fun _ => 0) g a { w with drawn := w.drawn + 1 } := by
      refine ⟨by show Rel P B g (hs 0) _; rw [e3]; exact R.drew, hdw, hm.ext hdw, ?_, ?_, ?_, Nat.zero_le _, fun _ _ h => by omega, ?_, ?_, ?_⟩
      · have := hl.1; simp at this; exact this.symm
      · intro i j hi; exact absurd ((hrep i).symm.trans hi) (by simp)
      · intro i hi; exact absurd ((hrep i).symm.trans hi) (by simp)
      · intro x hx
        rw [hlast]
        show VRel g (t.getD x undef) _
        have hx' : x < t.length := hx
        obtain ⟨y, hy, hv⟩ := hl.get (List.getElem?_eq_getElem hx')
        have : a.tmps[x]? = some y := by simpa using hy
        rw [List.getD_eq_getElem?_getD, List.getElem?_eq_getElem hx', Array.getD_eq_getD_getElem?, this]
        exact hv
      · rintro i o _ ⟨h1, _⟩; exact absurd ((hrep i).symm.trans h1) (by simp)
      · rintro i j ⟨h1, _⟩; exact absurd ((hrep i).symm.trans h1) (by simp)
    refine sim_all (Z := Z) (N := N) (g0 := g) (w0 := w) hcf R.base (fun a' w' g' R' E' M' L' => ?_) ops.size (Array.replicate ops.size false) 0 (fun _ => 0) g a _ (by simp [Z]) ?_ S0 (fun i _ _ => hrep i)
    · refine ⟨trivial, g', E', ?_, ?_, M'⟩
      · have : Z.hs (Z.c Z.ops.size) = h1 := by
          show hs (cE (effAt P ops) ops.size) = h1
          rw [← hall, ← e5, Nat.zero_add]
        rw [← this]; exact R'
      · have : Z.T Z.ops.size = t1 := by
          show T ops.size = t1
          rw [← e4, compOps_len]
        rw [← this]; exact L'
    · have : ((List.range ops.size).filter fun i => !(Array.replicate ops.size false).getD i false) = List.range ops.size := by
        rw [List.filter_eq_self]
        intro k _
        rw [hrep]; rfl
      show ((List.range ops.size).filter fun i => !(Array.replicate ops.size false).getD i false).length = ops.size
      rw [this, List.length_range]

end

end Go.Ax

/- An abstract machine for Go programs: its runs against the model's: whole functions. -/
namespace Go.Ax
set_option linter.unusedVariables false
set_option linter.unusedSimpArgs false

section
variable {P : Program} {B : Nat}

def CodeOK' (P : Program) (B : Nat) (step : Step) (c : Code) : Prop := ∀ (t : List Value) (h : Heap) (e : Ex) (t' : List Value) (h' : Heap), step t h = some (e, t', h') →
  ∀ (g : Ghost) (w : World) (a : Act) (r : Option Nat) (N : Nat), RndOk g r → Rel P B g h w → LR g t a.tmps.toList → Marks g w N a.defers → N ≤ w.heap.size → c.wpIn (F0 r) 0 P (QX P B N g w e t' h') a w

theorem rnd_ext {g g' : Ghost} {w w' : World} {r : Option Nat} (h : RndOk g r) (e : Ext g w g' w') : RndOk g' r := fun q hq => by
  obtain ⟨l, hl⟩ := h q hq; exact ⟨l, e.le.lp _ _ hl⟩

theorem loop_sound' {c : Code} {body : Step} {keep : Nat} (hb : CodeOK' P B body c) : ∀ n, CodeOK' P B (loopN keep body n) (.loop c) := by
  intro n t h e t' h' hr g w a r N hrd R hl hm hN
  have key : ∀ (n : Nat) (t : List Value) (h : Heap) (g : Ghost) (a : Act) (w : World), loopN keep body n t h = some (e, t', h') → RndOk g r → Rel P B g h w → LR g t a.tmps.toList → Marks g w N a.defers → N ≤ w.heap.size →
      ∀ (b : Frame) (k : List Item) (cs : List Frame), b.roundOf = (F0 r).round → ∃ ex a' w', QX P B N g w e t' h' ex a' w' ∧ ArrivesIn (Machine.fenced P (F0 r)) P (lone (b.atR a (.code c :: .inLoop c :: k)) cs w) b k cs ex a' w' := by
    intro n
    induction n with
    | zero => intro t h g a w hr; simp [loopN] at hr
    | succ n ih =>
      intro t h g a w hr hrd R hl hm hN b k cs hro
      simp only [loopN] at hr
      split at hr
      · rename_i t1 h1 hb1
        obtain ⟨ex, a1, w1, hq, harr⟩ := hb _ _ _ _ _ hb1 g w a r N hrd R (forget_rel hl keep) hm hN b (.inLoop c :: k) cs hro trivial (F0_room _ _)
        obtain ⟨hex, g1, E1, R1, hl1, hm1⟩ := hq
        cases ex <;> simp only [exRel] at hex
        obtain ⟨ex2, a2, w2, hq2, harr2⟩ := ih t1 h1 g1 a1 w1 hr (rnd_ext hrd E1) R1 hl1 hm1 (Nat.le_trans hN E1.size) b k cs hro
        exact ⟨ex2, a2, w2, hq2.mono E1, .of_steps (StepsIn.trans harr (.one (fenced_calm (n := 0) trivial (F0_room _ _) rfl) stepR_inLoop)) harr2⟩
      · rename_i hne
        obtain ⟨ex, a1, w1, hq, harr⟩ := hb _ _ _ _ _ hr g w a r N hrd R (forget_rel hl keep) hm hN b (.inLoop c :: k) cs hro trivial (F0_room _ _)
        refine ⟨ex, a1, w1, hq, .pass (x := .inLoop c) rfl (fun _ _ => .inl ?_) harr⟩
        intro e0
        subst e0
        have := hq.1
        cases e <;> simp only [exRel] at this
        exact hne _ _ hr
  intro b k cs hro hbf hrm
  obtain ⟨ex, a', w', hq, harr⟩ := key n t h g a w hr hrd R hl hm hN b k cs hro
  exact ⟨ex, a', w', hq, .of_steps (.one (fenced_calm hbf hrm rfl) stepR_loop) harr⟩

theorem exRel_normal {ex : Exit} (h : exRel .normal ex) : ex = .normal := by cases ex <;> simp_all [exRel]
theorem exRel_ret {ex : Exit} (h : exRel .ret ex) : ex = .ret := by cases ex <;> simp_all [exRel]
theorem exRel_exit {ex : Exit} {i : Nat} (h : exRel (.exit i) ex) : ex = .exit i := by cases ex <;> simp_all [exRel]

theorem callFunc_enter {f : FuncId} {fn : Func} {args : Array Value} {w : World} (hf : P.funcs[f]? = some fn) (hb : fn.body.isSome = true) (hn : (fn.name == numG) = false) : (callFunc f args).run P w = .ok (.enter f args) w := by
  unfold callFunc
  rw [run_bindE (run_program P w), hf]
  simp only
  have : ¬ (fn.name == "runtime.NumGoroutine") = true := by
    intro e; rw [show (fn.name == "runtime.NumGoroutine") = (fn.name == numG) from rfl] at e; rw [hn] at e; simp at e
  rw [if_neg this]
  cases hbd : fn.body with
  | none => rw [hbd] at hb; simp at hb
  | some c => simp

theorem range_sound {cf : CF} (hcf : CallOK P B cf) {f : Operand} {ps : Array Nat} {as bd : Code} {all res L : Nat} {E : List (Nat × Nat)} {n : Nat} : CodeOK' P B (aexec P cf n (comp P all res (.rangeFunc f ps as bd) L E)) (.rangeFunc f ps as bd) := by
  intro t h e t' h' hr g w a r N hrd R hl hm hN
  simp only [comp, aexec] at hr
  split at hr
  case h_2 => simp at hr
  rename_i f' args hcal
  split at hr
  · simp at hr
  rename_i hbody
  split at hr
  case h_2 => simp at hr
  rename_i v h2 hcall
  split at hr
  case h_2 => simp at hr
  rename_i lp hlp
  split at hr
  · simp at hr
  rename_i hbusy
  simp only [Option.some.injEq, Prod.mk.injEq] at hr
  obtain ⟨he, rfl, hh'⟩ := hr
  refine wpIn_rangeFunc fun fid _ => ?_
  -- the records are laid
  have laid : ∃ (l : Nat) (mk : List Deferred) (w1 : World) (Lo : Loop) (g1 : Ghost), (Instr.enterLoop fid a.tmps ps as bd (F0 r).round).run P w = .ok (l, mk) w1 ∧ Lo.state = .ready ∧
      Rel P B g1 { h with lps := h.lps ++ [{ state := .ready, pending := none, tmps := t, params := ps.toList, assign := comp P all res as all [], body := comp P all res bd 0 [] }] } w1 ∧ Ext g w g1 w1 ∧ g1.lp h.lps.length = some l ∧ Marks g1 w1 N (mk ++ a.defers) := by
    cases r with
    | none =>
      let w0 := w.alloc (.deferred (some []))
      let Lo : Loop := { state := .ready, pending := none, fn := fid, tmps := a.tmps, params := ps, assign := as, body := bd, defers := w.heap.size }
      let w1 := w0.alloc (.loop Lo)
      obtain ⟨R0, E0⟩ := R.push (.deferred (some []))
      obtain ⟨R1, E1⟩ := R0.push (.loop Lo)
      have hw1 : w1.heap[w0.heap.size]? = some (.loop Lo) := alloc_at _ _
      have hn1 : ¬ InR g w0.heap.size := fun hi => by have h9 : w0.heap.size < w0.heap.size := hi.lt R0; omega
      obtain ⟨g1, R2, G, hin, hlp1⟩ := R1.newLp (p := { state := .ready, pending := none, tmps := t, params := ps.toList, assign := comp P all res as all [], body := comp P all res bd 0 [] }) hw1 hn1 R0.base (by show w0.heap.size < w1.heap.size; simp [w1]) rfl rfl hl rfl ⟨_, _, _, _, rfl⟩ ⟨_, _, _, _, rfl⟩
      have hE : Ext g w g1 w1 := by
        have := E0.trans E1
        refine ⟨G, fun q hq => ?_, this.size, this.same, this.os, this.tape, this.output⟩
        rcases hin q hq with h1 | h1
        · exact .inl h1
        · right; rw [h1]; simp [w0]
      refine ⟨w0.heap.size, [mark w.heap.size], w1, Lo, g1, ?_, rfl, R2, hE, hlp1, ?_⟩
      · unfold Instr.enterLoop
        simp only [F0]
        rw [run_bindE (run_newObj P w _), run_bindE (a := (w.heap.size, [mark w.heap.size])) (w' := w0) rfl]
        simp only
        rw [run_bindE (run_newObj P w0 _)]
        rfl
      · have hm1 := hm.ext hE
        obtain ⟨Ds, d1, d2, d3⟩ := hm1
        refine ⟨w.heap.size :: Ds, ?_, by simp [d2], ?_⟩
        · rw [List.nodup_cons]
          refine ⟨fun hmem => ?_, d1⟩
          obtain ⟨Ds0, e1, e2, e3⟩ := hm
          have hD : w.heap.size ∈ Ds0 := by
            have : Ds.map mark = Ds0.map mark := by rw [← d2, ← e2]
            have hinj : Ds = Ds0 := by
              have := congrArg (List.map fun d : Deferred => match d.target with | .collected D => D | _ => 0) this
              simpa [mark, Function.comp_def] using this
            rw [← hinj]; exact hmem
          have := (e3 _ hD).2.1
          omega
        · intro D hD
          rcases List.mem_cons.1 hD with rfl | hD
          · refine ⟨hN, by simp [w1, w0]; omega, ?_, fun hi => ?_⟩
            · show (w0.alloc _).heap[_]? = _
              rw [Go.RowKit.Below.heap_alloc _ _ _ (by simp [w0])]
              exact alloc_at _ _
            · rcases hin _ hi with h1 | h1
              · have := h1.lt R; omega
              · simp [w0] at h1
          · exact d3 D hD
    | some q =>
      obtain ⟨l0, hl0⟩ := hrd q rfl
      obtain ⟨_, _, _, L0, hL0⟩ := R.lpdom _ _ hl0
      let Lo : Loop := { state := .ready, pending := none, fn := fid, tmps := a.tmps, params := ps, assign := as, body := bd, defers := L0.defers }
      let w1 := w.alloc (.loop Lo)
      obtain ⟨R1, E1⟩ := R.push (.loop Lo)
      have hw1 : w1.heap[w.heap.size]? = some (.loop Lo) := alloc_at _ _
      have hn1 : ¬ InR g w.heap.size := fun hi => by have := hi.lt R; omega
      obtain ⟨g1, R2, G, hin, hlp1⟩ := R1.newLp (p := { state := .ready, pending := none, tmps := t, params := ps.toList, assign := comp P all res as all [], body := comp P all res bd 0 [] }) hw1 hn1 R.base (by show w.heap.size < w1.heap.size; simp [w1]) rfl rfl hl rfl ⟨_, _, _, _, rfl⟩ ⟨_, _, _, _, rfl⟩
      have hE : Ext g w g1 w1 := by
        refine ⟨G, fun q hq => ?_, E1.size, E1.same, E1.os, E1.tape, E1.output⟩
        rcases hin q hq with h1 | h1
        · exact .inl h1
        · right; omega
      refine ⟨w.heap.size, [], w1, Lo, g1, ?_, rfl, R2, hE, hlp1, hm.ext hE⟩
      unfold Instr.enterLoop
      simp only [F0]
      rw [run_bindE (run_getLoop hL0), run_bindE (a := (L0.defers, [])) (w' := w) rfl]
      simp only
      rw [run_bindE (run_newObj P w _)]
      rfl
  obtain ⟨l, mk, w1, Lo, g1, hent, hst, R1, E1, hlp1, hm1⟩ := laid
  -- the function that is ranged over
  have hf := eval_rel hl f
  unfold acallee at hcal
  split at hcal
  case h_2 =>
    split at hcal
    · simp at hcal
    · simp at hcal
  case h_3 => simp at hcal
  rename_i id first captured hev
  simp only [Option.some.injEq, ARes.call.injEq, Tgt.fn.injEq] at hcal
  obtain ⟨rfl, rfl⟩ := hcal
  rw [hev] at hf
  generalize hy : a.eval f = y at hf
  cases hf with
  | @func fn _ b _ e hfn s1 s2 ha hc =>
    let args' : Array Value := b ++ #[.func (.yield l) #[] #[]] ++ e
    have hargs : LR g1 (first.toList ++ [.func (.yield h.lps.length) #[] #[]] ++ captured.toList) args'.toList := by
      have l1 : LR g first.toList b.toList := ⟨by simpa using s1, fun i x y hx hy => ha i x y (by simpa using hx) (by simpa using hy)⟩
      have l2 : LR g captured.toList e.toList := ⟨by simpa using s2, fun i x y hx hy => hc i x y (by simpa using hx) (by simpa using hy)⟩
      have := ((l1.mono E1.le).append (LR.cons (VRel.yield hlp1) (LR.nil g1))).append (l2.mono E1.le)
      simpa [args'] using this
    have hcb : ∃ fn, P.funcs[id]? = some fn ∧ fn.body.isSome = true := by
      cases hq : P.funcs[id]? with
      | none => simp [hq] at hbody
      | some fn => simp [hq] at hbody; exact ⟨fn, rfl, by cases hh : fn.body <;> simp_all⟩
    have hcalls : (callFunc id args').run P w1 = .ok (.enter id args') w1 ∧ CallsIn Fence.wide 0 P id args' w1 (PostC P B g1 w1 v h2) := by
      have := hcf (.fn id) _ _ v h2 hcall g1 w1 args' R1 hargs
      simp only at this
      rcases this with h1 | ⟨y', h1, _, _⟩
      · exact h1
      · exfalso
        obtain ⟨fn, hfn', hfb⟩ := hcb
        unfold callFunc at h1
        rw [run_bindE (run_program P w1), hfn'] at h1
        simp only at h1
        cases hbd : fn.body with
        | none => rw [hbd] at hfb; simp at hfb
        | some c => rw [hbd] at h1; split at h1 <;> simp at h1
    refine ⟨l, mk, w1, { target := .fn (.func id) e, args := b ++ #[.func (.yield l) #[] #[]] }, w1, id, args', w1, hent, ?_, fun _ _ => trivial, ?_, fun hd => by simp [F0, Fence.wide] at hd, ?_⟩
    · unfold resolve
      simp only [hy]
      simp [Deferred.ofValue, Act.eval]
    · show (callFunc id args').run P w1 = _
      exact hcalls.1
    · refine ⟨trivial, fun cs hroom => ?_⟩
      obtain ⟨en, w3, fr, hR, hrest⟩ := hcalls.2.2 cs (room_wide _)
      refine ⟨en, w3, fr, ?_, hrest⟩
      obtain ⟨y3, g3, rfl, hy3, R3, E3⟩ := hR
      have hlp3 := E3.le.lp _ _ hlp1
      obtain ⟨r3, L3, hq3, hL3⟩ := R3.lps _ _ hlp
      rw [hlp3] at hq3; simp only [Option.some.injEq] at hq3; subst hq3
      have hnb : (L3.state == .busy) = false := by
        have h1 := hL3.state
        cases hs : lp.state <;> rw [hs] at h1 hbusy <;> simp only [stateRel] at h1
        · rw [h1]; rfl
        · exact (hbusy rfl).elim
        · rw [h1]; rfl
        · rw [h1]; rfl
      let L4 : Loop := { L3 with state := .exhausted }
      let w4 : World := { w3 with heap := w3.heap.setIfInBounds l (.loop L4) }
      have hlt3 := (R3.lpdom _ _ hlp3).2.2.1
      obtain ⟨R4, E4⟩ := R3.setLp (p' := { lp with state := .exhausted }) (L' := L4) hlp3 ⟨by simp [hlt3], rfl, hL3.pend, hL3.tmps, hL3.params, hL3.assign, hL3.body⟩
      have hend : (Instr.endLoop l).run P w3 = .ok L3.pending w4 := by
        unfold Instr.endLoop
        rw [run_bindE (run_getLoop hL3.at_)]
        simp only [hnb, Bool.false_eq_true, if_false]
        rw [run_bindE (run_setLoop hL3.at_)]
        rfl
      refine ⟨L3.pending, w4, hend, ?_⟩
      have E5 : Ext g w g3 w4 := (E1.trans E3).trans E4
      have hm4 : Marks g3 w4 N (mk ++ a.defers) := (hm1.ext E3).ext E4
      have hl4 : LR g3 t a.tmps.toList := hl.mono E5.le
      have hpend := hL3.pend
      subst hh'
      obtain ⟨pd, hpd⟩ : ∃ pd, lp.pending = pd := ⟨_, rfl⟩
      cases pd with
      | none =>
        rw [hpd] at hpend he
        simp only [pendRel] at hpend
        rw [hpend]
        subst he
        exact ⟨trivial, g3, E5, R4, hl4, hm4⟩
      | some x =>
        rw [hpd] at hpend he
        cases x with
        | normal => exact hpend.elim
        | exit i =>
          simp only [pendRel] at hpend
          rw [hpend]
          subst he
          exact wpIn_exit ⟨rfl, g3, E5, R4, hl4, hm4⟩
        | ret =>
          simp only [pendRel] at hpend
          rw [hpend]
          subst he
          exact wpIn_ret ⟨trivial, g3, E5, R4, hl4, hm4⟩

theorem stepR_scope {b : Frame} {a : Act} {k : List Item} {cs : List Frame} {w : World} {c : Code} : step P (lone (b.atR a (.code (.scope c) :: k)) cs w) = .next (lone (b.atR a (.code c :: .inScope c :: k)) cs w) :=
  step_lone_go (by simp [stepG, stepG.exec, Frame.atR])
theorem stepR_inScope {b : Frame} {a : Act} {k : List Item} {cs : List Frame} {w : World} {c : Code} : step P (lone (b.atR a (.inScope c :: k)) cs w) = .next (lone (b.atR a k) cs w) :=
  step_lone_go (by simp [stepG, stepG.exec, Frame.atR])

/-- A scope out of which no jump is left is what stands in it. -/
theorem wpIn_scope {F : Fence} {n : Nat} {c : Code} {Q : Exit → Act → World → Prop} {a : Act} {w : World} (h : c.wpIn F n P (fun e a w => (∀ l, e ≠ .goto l) ∧ Q e a w) a w) : (Code.scope c).wpIn F n P Q a w := by
  intro b k cs hro hb hr
  have h0 : (lone (b.atR a (.code (.scope c) :: k)) cs w).fenced P F := fenced_calm hb hr rfl
  obtain ⟨e, a₁, w₁, ⟨hg, hq⟩, harr⟩ := h b (.inScope c :: k) cs hro hb hr
  cases e with
  | normal => exact ⟨.normal, a₁, w₁, hq, .head h0 stepR_scope (StepsIn.trans harr (.one (fenced_calm hb hr rfl) stepR_inScope))⟩
  | exit id' =>
    have hx : exitTo id' (.inScope c :: k) = exitTo id' k := by simp [exitTo]
    exact ⟨.exit id', a₁, w₁, hq, fun k' hk => .head h0 stepR_scope (harr.1 k' (by rw [hx]; exact hk)),
      fun hr' hk => let ⟨k₁, h1, h2⟩ := harr.2 hr' (by rw [hx]; exact hk); ⟨k₁, h1, .head h0 stepR_scope h2⟩⟩
  | goto l => exact (hg l rfl).elim
  | ret => exact ⟨_, a₁, w₁, hq, .of_steps (.one h0 stepR_scope) harr⟩
  | panic ch => exact ⟨_, a₁, w₁, hq, .of_steps (.one h0 stepR_scope) harr⟩
  | outgrown => exact ⟨_, a₁, w₁, hq, .of_steps (.one h0 stepR_scope) harr⟩

theorem exec_sound {cf : CF} (hcf : CallOK P B cf) (hmix : P.follows .mixedOrders = true) (n : Nat) (all res : Nat) : ∀ (c : Code) (L : Nat) (E : List (Nat × Nat)), CodeOK' P B (aexec P cf n (comp P all res c L E)) c := by
  intro c
  induction c with
  | skip =>
    intro L E t h e t' h' hr g w a r N hrd R hl hm hN
    simp only [comp, aexec, Option.some.injEq, Prod.mk.injEq] at hr
    obtain ⟨rfl, rfl, rfl⟩ := hr
    exact wpIn_skip ⟨trivial, g, Ext.refl g w, R, hl, hm⟩
  | label l =>
    intro L E t h e t' h' hr g w a r N hrd R hl hm hN
    simp only [comp, aexec, Option.some.injEq, Prod.mk.injEq] at hr
    obtain ⟨rfl, rfl, rfl⟩ := hr
    exact wpIn_label ⟨trivial, g, Ext.refl g w, R, hl, hm⟩
  | region id ops draw =>
    intro L E t h e t' h' hr g w a r N hrd R hl hm hN
    cases draw with
    | false =>
      simp only [comp, Bool.false_eq_true, if_false, aexec] at hr
      cases hq : runOps P cf (compOps P ops) t h with
      | none => simp [hq] at hr
      | some p =>
        obtain ⟨t1, h1⟩ := p
        simp [hq] at hr
        obtain ⟨rfl, rfl, rfl⟩ := hr
        refine wpIn_region ?_
        have := ops_sound hcf (ops := ops) (r := r) (N := N) (g0 := g) (w0 := w) ops.size 0 t h g a w (by omega) (by simpa using hq) R hl hm (Ext.refl g w)
        simpa using this
    | true => exact draw_sound hcf hmix hr hrd R hl hm hN
  | seq x y ihx ihy =>
    intro L E t h e t' h' hr g w a r N hrd R hl hm hN
    simp only [comp, aexec] at hr
    refine wpIn_seq ?_
    split at hr
    · rename_i t1 h1 hx
      refine wpIn_mono (ihx _ _ _ _ _ _ _ hx g w a r N hrd R hl hm hN) ?_
      intro ex a1 w1 hq
      obtain ⟨hex, g1, E1, R1, hl1, hm1⟩ := hq
      rw [exRel_normal hex]
      exact wpIn_mono (ihy _ _ _ _ _ _ _ hr g1 w1 a1 r N (rnd_ext hrd E1) R1 hl1 hm1 (Nat.le_trans hN E1.size)) fun ex a w hq => hq.mono E1
    · rename_i hne
      refine wpIn_mono (ihx _ _ _ _ _ _ _ hr g w a r N hrd R hl hm hN) ?_
      intro ex a1 w1 hq
      have hex := hq.1
      cases ex with
      | normal => cases e <;> simp only [exRel] at hex; exact (hne _ _ hr).elim
      | _ => exact hq
  | cond c x y ihx ihy =>
    intro L E t h e t' h' hr g w a r N hrd R hl hm hN
    simp only [comp, aexec] at hr
    have hc := eval_rel hl c
    split at hr
    · rename_i hb
      rw [hb] at hc
      exact wpIn_cond_true (rel_bool hc) (ihx _ _ _ _ _ _ _ hr g w a r N hrd R hl hm hN)
    · rename_i hb
      rw [hb] at hc
      exact wpIn_cond_false (rel_bool hc) (ihy _ _ _ _ _ _ _ hr g w a r N hrd R hl hm hN)
    · simp at hr
  | block id b ih =>
    intro L E t h e t' h' hr g w a r N hrd R hl hm hN
    simp only [comp, aexec] at hr
    refine wpIn_block ?_
    split at hr
    · rename_i i t1 h1 hb
      refine wpIn_mono (ih _ _ _ _ _ _ _ hb g w a r N hrd R hl hm hN) ?_
      intro ex a1 w1 hq
      obtain ⟨hex, hrest⟩ := hq
      rw [exRel_exit hex]
      simp only [Exit.inBlock]
      split at hr
      · rename_i hi
        simp only [Option.some.injEq, Prod.mk.injEq] at hr
        obtain ⟨rfl, rfl, rfl⟩ := hr
        rw [if_pos hi]
        exact ⟨trivial, hrest⟩
      · rename_i hi
        simp only [Option.some.injEq, Prod.mk.injEq] at hr
        obtain ⟨rfl, rfl, rfl⟩ := hr
        rw [if_neg hi]
        exact ⟨rfl, hrest⟩
    · rename_i hne
      refine wpIn_mono (ih _ _ _ _ _ _ _ hr g w a r N hrd R hl hm hN) ?_
      intro ex a1 w1 hq
      have hex := hq.1
      cases ex with
      | exit i => cases e <;> simp only [exRel] at hex; exact (hne _ _ _ hr).elim
      | _ => exact hq
  | loop b ih =>
    intro L E
    exact loop_sound' (ih _ _) n
  | rangeFunc f ps as bd _ _ =>
    intro L E
    exact range_sound hcf
  | exit id =>
    intro L E t h e t' h' hr g w a r N hrd R hl hm hN
    simp only [comp, aexec, Option.some.injEq, Prod.mk.injEq] at hr
    obtain ⟨rfl, rfl, rfl⟩ := hr
    exact wpIn_exit ⟨rfl, g, Ext.refl g w, R, hl, hm⟩
  | ret =>
    intro L E t h e t' h' hr g w a r N hrd R hl hm hN
    simp only [comp, aexec, Option.some.injEq, Prod.mk.injEq] at hr
    obtain ⟨rfl, rfl, rfl⟩ := hr
    exact wpIn_ret ⟨trivial, g, Ext.refl g w, R, hl, hm⟩
  | scope b ih =>
    intro L E t h e t' h' hr g w a r N hrd R hl hm hN
    simp only [comp] at hr
    refine wpIn_scope (wpIn_mono (ih _ _ _ _ _ _ _ hr g w a r N hrd R hl hm hN) fun ex a1 w1 hq => ⟨fun l e2 => ?_, hq⟩)
    have hex := hq.1
    rw [e2] at hex
    cases e <;> simp [exRel] at hex
  | goto l =>
    intro L E t h e t' h' hr
    simp [comp, aexec] at hr
  | refuse why =>
    intro L E t h e t' h' hr
    simp [comp, aexec] at hr

end

end Go.Ax

/- An abstract machine for Go programs: what it answers, the model answers. -/
namespace Go.Ax
set_option linter.unusedVariables false
set_option linter.unusedSimpArgs false

section
variable {P : Program} {B : Nat}

theorem resVals_sound {g : Ghost} {h : Heap} {w : World} (R : Rel P B g h w) {t : List Value} {tm : Array Value} (hl : LR g t tm.toList) : ∀ {rs : List ResultVar} {as : List ARs}, resOf P rs = some as → ∀ {l : List Value}, resVals t h as = some l →
    ∃ ys : List Value, (rs.mapM fun x => match x with
      | ResultVar.tmp t => pure (tm.getD t undef)
      | ResultVar.cell a t => do loadVar t (← asAddr (tm.getD a undef)) : Sem (List Value)).run P w = .ok ys w ∧ LR g l ys := by
  have hget : ∀ i, VRel g (t.getD i undef) (tm.getD i undef) := by
    intro i
    rw [List.getD_eq_getElem?_getD, Array.getD_eq_getD_getElem?]
    cases e : t[i]? with
    | none => exact .top _
    | some v =>
      obtain ⟨y, hy, hv⟩ := hl.get e
      have : tm[i]? = some y := by simpa using hy
      rw [this]; exact hv
  intro rs
  induction rs with
  | nil =>
    intro as ha l hr
    simp [resOf] at ha; subst ha
    simp [resVals] at hr; subst hr
    exact ⟨[], by simp, LR.nil g⟩
  | cons x rs ih =>
    intro as ha l hr
    cases x with
    | tmp i =>
      simp only [resOf] at ha
      cases hq : resOf P rs with
      | none => simp [hq] at ha
      | some as' =>
        simp [hq] at ha; subst ha
        simp only [resVals] at hr
        split at hr
        · rename_i l' hl'
          simp only [Option.some.injEq] at hr; subst hr
          obtain ⟨ys, h1, h2⟩ := ih hq hl'
          refine ⟨tm.getD i undef :: ys, ?_, LR.cons (hget i) h2⟩
          rw [List.mapM_cons, run_bindE (a := tm.getD i undef) (w' := w) rfl, run_bindE h1]
          rfl
        · simp at hr
    | cell i ty =>
      simp only [resOf] at ha
      split at ha
      · rename_i q as' hq1 hq2
        simp only [Option.some.injEq] at ha; subst ha
        simp only [resVals] at hr
        split at hr
        · rename_i a l' he hl'
          split at hr
          · rename_i v hv
            simp only [Option.some.injEq] at hr; subst hr
            have hg := hget i
            rw [he] at hg
            obtain ⟨r, hr', har⟩ := rel_ptr hg
            obtain ⟨y, hy, hvy⟩ := loadVar_sound R hq1 har hv
            obtain ⟨ys, h1, h2⟩ := ih hq2 hl'
            refine ⟨y :: ys, ?_, LR.cons hvy h2⟩
            rw [List.mapM_cons]
            rw [run_bindE (a := y) (w' := w) (by simp only [hr']; rw [run_bindE (a := r) (w' := w) rfl]; exact hy), run_bindE h1]
            rfl
          · simp at hr
        · simp at hr
      · simp at ha

theorem oneOf_rel {g : Ghost} {l ys : List Value} (hl : LR g l ys) : VRel g (oneOf l) (if h : ys.toArray.size = 1 then ys.toArray[0] else .tuple ys.toArray) := by
  match l, ys, hl with
  | [], ys, hl => have := hl.nil_inv; subst this; exact .top _
  | [x], ys, hl =>
    obtain ⟨y, ys', rfl, hv, hl'⟩ := hl.cons_inv
    have := hl'.nil_inv; subst this
    simpa [oneOf] using hv
  | x :: x2 :: l, ys, hl =>
    obtain ⟨y, ys', rfl, hv, hl'⟩ := hl.cons_inv
    obtain ⟨y2, ys2, rfl, hv2, hl2⟩ := hl'.cons_inv
    have : ¬ (y :: y2 :: ys2).toArray.size = 1 := by simp
    rw [dif_neg this]
    exact .tuple (by simpa using hl.1) fun i a b ha hb => hl.2 i a b (by simpa [oneOf] using ha) (by simpa using hb)

theorem run_take {w : World} {D : Nat} (hD : w.heap[D]? = some (.deferred (some []))) : (Instr.takeDeferred D).run P w = .ok [] { w with heap := w.heap.setIfInBounds D (.deferred none) } := by
  unfold Instr.takeDeferred
  rw [run_bindE (a := .deferred (some [])) (w' := w) (by simp [getObj, Sem.run, hD])]
  simp only
  rw [run_bindE (a := ()) (w' := { w with heap := w.heap.setIfInBounds D (.deferred none) }) (by simp [setObj, Sem.run, hD])]
  rfl

/-- The marks are taken on the way out. -/
theorem leaves_sound {fn : Func} {tm : Array Value} {g0 : Ghost} {w0 : World} {v y : Value} {h' : Heap} {g : Ghost} (hN : True) : ∀ (Ds : List Nat) (w : World), Ds.Nodup → (∀ D ∈ Ds, w0.heap.size ≤ D ∧ D < w.heap.size ∧ w.heap[D]? = some (.deferred (some [])) ∧ ¬ InR g D) →
    Rel P B g h' w → Ext g0 w0 g w → (∀ w', Rel P B g h' w' → (∀ r, InR g r → w'.heap[r]? = w.heap[r]?) → (∀ r, r < B → w'.heap[r]? = w.heap[r]?) → ∃ y, (results fn tm).run P w' = .ok y w' ∧ VRel g v y) → B ≤ w0.heap.size →
    LeavesInM Fence.wide 0 P fn tm (PostC P B g0 w0 v h') (Ds.map mark) .returning w := by
  intro Ds
  induction Ds with
  | nil =>
    intro w _ _ R E hres _
    obtain ⟨y, hy, hv⟩ := hres w R (fun _ _ => rfl) (fun _ _ => rfl)
    exact ⟨y, hy, y, g, rfl, hv, R, E⟩
  | cons D Ds ih =>
    intro w hnd hDs R E hres hB
    obtain ⟨h1, h2, h3, h4⟩ := hDs D (by simp)
    rw [List.nodup_cons] at hnd
    let w' : World := { w with heap := w.heap.setIfInBounds D (.deferred none) }
    have oth : ∀ i, i ≠ D → w'.heap[i]? = w.heap[i]? := fun i hi => setObj_other hi
    have hsz : w'.heap.size = w.heap.size := by simp [w']
    have R' : Rel P B g h' w' := R.of_same (by omega) fun r hr => oth r (fun e => by
      subst e
      rcases hr with hr | hr
      · exact h4 hr
      · omega)
    have E' : Ext g0 w0 g w' := ⟨E.le, E.new, by rw [hsz]; exact E.size, fun r hr hn => by rw [oth r (by omega)]; exact E.same r hr hn, E.os, E.tape, E.output⟩
    refine ⟨by simp, .inl ⟨D, w', rfl, run_take h3, ?_⟩⟩
    refine ih w' hnd.2 (fun D' hD' => ?_) R' E' (fun w2 R2 hs1 hs2 => ?_) hB
    · obtain ⟨a1, a2, a3, a4⟩ := hDs D' (by simp [hD'])
      have hne : D' ≠ D := fun e => hnd.1 (e ▸ hD')
      exact ⟨a1, by rw [hsz]; exact a2, by rw [oth D' hne]; exact a3, a4⟩
    · refine hres w2 R2 (fun r hr => ?_) (fun r hr => ?_)
      · rw [hs1 r hr]; exact oth r (fun e => h4 (e ▸ hr))
      · rw [hs2 r hr]; exact oth r (by omega)

theorem fn_sound {cf : CF} (hcf : CallOK P B cf) (hmix : P.follows .mixedOrders = true) {n : Nat} {f : FuncId} {fn : Func} {a : AFn} (hf : P.funcs[f]? = some fn) (ha : compF P fn = some a) {args : List Value} {h : Heap} {v : Value} {h' : Heap} (hr : runFn P cf n a args h = some (v, h'))
    {g : Ghost} {w : World} {args' : Array Value} (R : Rel P B g h w) (hl : LR g args args'.toList) : CallsIn Fence.wide 0 P f args' w (PostC P B g w v h') := by
  unfold compF at ha
  split at ha
  case h_2 => simp at ha
  rename_i c rs hb hrs
  split at ha
  case isFalse => simp at ha
  rename_i hsp
  simp only [Option.some.injEq] at ha; subst ha
  refine callsIn_of_wp_marks hf hb trivial ?_
  unfold runFn at hr
  simp only [hsp, if_true] at hr
  unfold runBody at hr
  have hl0 : LR g (args ++ List.replicate (fn.ntmps - args.length) undef) (args' ++ Array.replicate (fn.ntmps - args'.size) undef).toList := by
    have hsz : args'.size = args.length := by have := hl.1; simp at this; omega
    rw [hsz]
    have := hl.append (LR.replicate (g := g) (VRel.top undef) (fn.ntmps - args.length))
    simpa using this
  have fin : ∀ {e : Ex} {t : List Value} {h1 : Heap} {a' : Act} {w' : World}, (∃ g', Ext g w g' w' ∧ Rel P B g' h1 w' ∧ LR g' t a'.tmps.toList ∧ Marks g' w' w.heap.size a'.defers) → (resVals t h1 rs).map (fun l => (oneOf l, h1)) = some (v, h') → LeavesInM Fence.wide 0 P fn a'.tmps (PostC P B g w v h') a'.defers .returning w' := by
    intro e t h1 a' w' ⟨g', E1, R1, hl1, hm1⟩ hres
    cases hq : resVals t h1 rs with
    | none => simp [hq] at hres
    | some l =>
      simp [hq] at hres
      obtain ⟨rfl, rfl⟩ := hres
      obtain ⟨Ds, d1, d2, d3⟩ := hm1
      rw [d2]
      refine leaves_sound (v := oneOf l) (y := undef) trivial Ds w' d1 (fun D hD => d3 D hD) R1 E1 (fun w2 R2 _ _ => ?_) R.base
      obtain ⟨ys, hy, hly⟩ := resVals_sound R2 hl1 hrs hq
      refine ⟨_, ?_, oneOf_rel hly⟩
      unfold results
      have : (fn.results.mapM fun x => match x with
        | ResultVar.tmp t => pure (a'.tmps.getD t undef)
        | ResultVar.cell a t => do loadVar t (← asAddr (a'.tmps.getD a undef)) : Sem (Array Value)).run P w2 = .ok ys.toArray w2 := by
        rw [Array.mapM_eq_mapM_toList, Sem.run_map, hy]; rfl
      refine (run_bindE (a := ys.toArray) (w' := w2) ?_).trans ?_
      · exact this
      · rfl
  split at hr
  · simp at hr
  · rename_i e t h1 hne hex
    refine wpIn_mono (exec_sound hcf hmix n _ _ c _ _ _ _ _ _ _ hex g w _ none w.heap.size (fun q hq => by simp at hq) R hl0 ⟨[], List.nodup_nil, rfl, fun D hD => by simp at hD⟩ (Nat.le_refl _)) ?_
    intro ex a' w' hq
    obtain ⟨hex', hrest⟩ := hq
    cases e with
    | normal => rw [exRel_normal hex']; exact fin (e := .normal) hrest hr
    | ret => rw [exRel_ret hex']; exact fin (e := .ret) hrest hr
    | exit i => exact (hne _ rfl).elim
  · simp at hr

theorem params_rel {g : Ghost} : ∀ (ps : List Nat) {as bs : List Value} (hab : LR g as bs) {t : List Value} {tm : Array Value} (hl : LR g t tm.toList), LR g ((ps.zip as).foldl (fun t (i, v) => t.set i v) t) ((ps.zip bs).foldl (fun tm (i, v) => tm.setIfInBounds i v) tm).toList := by
  intro ps
  induction ps with
  | nil => intro as bs hab t tm hl; simpa using hl
  | cons p ps ih =>
    intro as bs hab t tm hl
    cases as with
    | nil => rw [hab.nil_inv]; simpa using hl
    | cons x as =>
      obtain ⟨y, bs', rfl, hv, hab'⟩ := hab.cons_inv
      simp only [List.zip_cons_cons, List.foldl_cons]
      refine ih hab' ?_
      have := hl.set hv p
      simpa using this

theorem yield_sound {cf : CF} (hcf : CallOK P B cf) (hmix : P.follows .mixedOrders = true) {n l : Nat} {args : List Value} {h : Heap} {v : Value} {h' : Heap} (hr : runYield P cf n l args h = some (v, h'))
    {g : Ghost} {w : World} {args' : Array Value} (R : Rel P B g h w) (hl : LR g args args'.toList) {r : Nat} (hlp : g.lp l = some r) :
    ∃ fid t' as bd, (Instr.yield r args').run P w = .ok (.round r fid t' as bd) w ∧ RoundIn Fence.wide 0 P r fid t' as bd w (PostC P B g w v h') := by
  unfold runYield at hr
  split at hr
  · simp at hr
  rename_i p hp
  split at hr
  · simp at hr
  rename_i hlen
  obtain ⟨r', L, hl', hL⟩ := R.lps _ _ hp
  rw [hlp] at hl'; simp only [Option.some.injEq] at hl'; subst hl'
  have hsz : args'.size = L.params.size := by
    have h1 := hl.1
    have h2 : args.length = p.params.length := by simpa using hlen
    rw [hL.params] at h2
    simp at h1 h2; omega
  refine ⟨L.fn, (L.params.zip args').foldl (fun tmps (t, a) => tmps.setIfInBounds t a) L.tmps, L.assign, L.body, ?_, ?_⟩
  · unfold Instr.yield
    rw [run_bindE (run_getLoop hL.at_)]
    rw [if_neg (by omega)]
    rfl
  refine roundIn_of_wpIn trivial ?_
  have hrd : RndOk g (some r) := fun q hq => by simp only [Option.some.injEq] at hq; subst hq; exact ⟨l, hlp⟩
  have ht0 : LR g ((p.params.zip args).foldl (fun t (i, v) => t.set i v) p.tmps) ((L.params.zip args').foldl (fun tmps (t, a) => tmps.setIfInBounds t a) L.tmps).toList := by
    have := params_rel p.params hl hL.tmps
    rw [hL.params] at this ⊢
    have e : (L.params.zip args').foldl (fun tmps (t, a) => tmps.setIfInBounds t a) L.tmps = (L.params.toList.zip args'.toList).foldl (fun tm (i, v) => tm.setIfInBounds i v) L.tmps := by
      rw [← Array.foldl_toList, Array.toList_zip]
    rw [e]; exact this
  have hmk : ∀ {g : Ghost} {w : World}, Marks g w w.heap.size ([] : List Deferred) := fun {g w} => ⟨[], List.nodup_nil, rfl, fun D hD => by simp at hD⟩
  obtain ⟨al, res, x0, y0, hassign⟩ := hL.assign
  obtain ⟨al2, res2, x2, y2, hbody⟩ := hL.body
  split at hr
  case h_2 => simp at hr
  rename_i t1 h1 hasg
  split at hr
  · simp at hr
  rename_i p1 hp1
  split at hr
  · simp at hr
  rename_i hready
  rw [hassign] at hasg
  refine wpIn_mono (exec_sound hcf hmix n _ _ L.assign _ _ _ _ _ _ _ hasg g w { tmps := _, defers := [] } (some r) w.heap.size hrd R ht0 hmk (Nat.le_refl _)) ?_
  intro ex a1 w1 hq
  obtain ⟨hex, g1, E1, R1, hl1, hm1⟩ := hq
  rw [exRel_normal hex]
  have hlp1 := E1.le.lp _ _ hlp
  obtain ⟨r', L1, hl', hL1⟩ := R1.lps _ _ hp1
  rw [hlp1] at hl'; simp only [Option.some.injEq] at hl'; subst hl'
  have hst1 : L1.state = .ready := by
    have h1 := hL1.state
    have h2 : p1.state = .ready := by simpa using hready
    rw [h2] at h1; exact h1
  have hlt1 := (R1.lpdom _ _ hlp1).2.2.1
  obtain ⟨R2, E2⟩ := R1.setLp (p' := { p1 with state := .busy }) (L' := { L1 with state := .busy }) hlp1 ⟨by simp [hlt1], rfl, hL1.pend, hL1.tmps, hL1.params, hL1.assign, hL1.body⟩
  refine ⟨{ w1 with heap := w1.heap.setIfInBounds r (.loop { L1 with state := .busy }) }, ?_, ?_⟩
  · unfold Instr.beginRound
    rw [run_bindE (run_getLoop hL1.at_), run_bindE (run_setLoop hL1.at_), hst1]
    rfl
  split at hr
  · simp at hr
  rename_i e t3 h3 hbd
  split at hr
  · simp at hr
  rename_i p3 hp3
  rw [hbody] at hbd
  refine wpIn_mono (exec_sound hcf hmix n _ _ L.body _ _ _ _ _ _ _ hbd g1 _ a1 (some r) w.heap.size (rnd_ext hrd E1) R2 hl1 (hm1.ext E2) (E1.trans E2).size) ?_
  intro ex3 a3 w3 hq3
  obtain ⟨hex3, g3, E3, R3, hl3, _⟩ := hq3
  have hlp3 := E3.le.lp _ _ hlp1
  obtain ⟨r', L3, hl', hL3⟩ := R3.lps _ _ hp3
  rw [hlp3] at hl'; simp only [Option.some.injEq] at hl'; subst hl'
  have hlt3 := (R3.lpdom _ _ hlp3).2.2.1
  have E13 : Ext g w g3 w3 := (E1.trans E2).trans E3
  have endr : ∀ (j : Option Code), (Instr.endRound r j).run P w3 = .ok (.bool j.isNone) { w3 with heap := w3.heap.setIfInBounds r (.loop { L3 with state := if j.isNone then .ready else .done, pending := j }) } := by
    intro j
    unfold Instr.endRound
    rw [run_bindE (run_getLoop hL3.at_), run_bindE (run_setLoop hL3.at_)]
    rfl
  cases e with
  | normal =>
    rw [exRel_normal hex3]
    rw [if_pos rfl] at hr
    simp only [Option.some.injEq, Prod.mk.injEq] at hr
    obtain ⟨rfl, rfl⟩ := hr
    obtain ⟨R4, E4⟩ := R3.setLp (p' := { p3 with state := .ready, pending := none }) (L' := { L3 with state := .ready, pending := none }) hlp3 ⟨by simp [hlt3], rfl, rfl, hL3.tmps, hL3.params, hL3.assign, hL3.body⟩
    exact ⟨.bool true, _, endr none, .bool true, g3, rfl, .bool true, R4, E13.trans E4⟩
  | ret =>
    rw [exRel_ret hex3]
    rw [if_neg (by simp)] at hr
    simp only [Option.some.injEq, Prod.mk.injEq] at hr
    obtain ⟨rfl, rfl⟩ := hr
    obtain ⟨R4, E4⟩ := R3.setLp (p' := { p3 with state := .done, pending := some .ret }) (L' := { L3 with state := .done, pending := some .ret }) hlp3 ⟨by simp [hlt3], rfl, rfl, hL3.tmps, hL3.params, hL3.assign, hL3.body⟩
    exact ⟨.bool false, _, endr (some .ret), .bool false, g3, rfl, .bool false, R4, E13.trans E4⟩
  | exit i =>
    rw [exRel_exit hex3]
    rw [if_neg (by simp)] at hr
    simp only [Option.some.injEq, Prod.mk.injEq] at hr
    obtain ⟨rfl, rfl⟩ := hr
    obtain ⟨R4, E4⟩ := R3.setLp (p' := { p3 with state := .done, pending := some (.exit i) }) (L' := { L3 with state := .done, pending := some (.exit i) }) hlp3 ⟨by simp [hlt3], rfl, rfl, hL3.tmps, hL3.params, hL3.assign, hL3.body⟩
    exact ⟨.bool false, _, endr (some (.exit i)), .bool false, g3, rfl, .bool false, R4, E13.trans E4⟩

theorem ext_sound {f : FuncId} {args : List Value} {h : Heap} {v : Value} {h' : Heap} (hr : runExt P f args h = some (v, h')) {g : Ghost} {w : World} {args' : Array Value} (hl : LR g args args'.toList) :
    ∃ y, (callFunc f args').run P w = .ok (.value y) w ∧ VRel g v y ∧ h' = h := by
  unfold runExt at hr
  split at hr
  case h_2 => simp at hr
  rename_i fn hf
  split at hr
  case isFalse => simp at hr
  rename_i hc
  simp only [Bool.and_eq_true] at hc
  obtain ⟨⟨⟨hb, hn⟩, hfn⟩, hp⟩ := hc
  split at hr
  case h_2 => simp at hr
  rename_i e he
  cases hq : pures P (e args.toArray) with
  | none => simp [hq] at hr
  | some v' =>
    simp [hq] at hr
    obtain ⟨rfl, rfl⟩ := hr
    have h1 := LR_plain hl hp
    have h2 : args' = args.toArray := Array.toList_inj.1 (by simpa using h1)
    subst h2
    obtain ⟨hrun, hpl⟩ := pures_run (w := w) hq
    refine ⟨v', ?_, plain_refl hpl, rfl⟩
    unfold callFunc
    rw [run_bindE (run_program P w), hf]
    simp only
    have hn' : ¬ (fn.name == "runtime.NumGoroutine") = true := by
      intro e1; rw [show (fn.name == "runtime.NumGoroutine") = (fn.name == numG) from rfl] at e1; rw [e1] at hn; simp at hn
    rw [if_neg hn', if_pos hb, run_bindE (run_mark P w _)]
    cases hx : Extern.findNext fn with
    | some z => rw [hx] at hfn; simp at hfn
    | none =>
      simp only [he]
      rw [run_bindE hrun]; rfl

/-- What a function's short code answers, the model answers (told by whatever proof). -/
def FnOk (P : Program) (f : FuncId) (a : AFn) : Prop := ∀ (B : Nat) (cf : CF) (n : Nat) (args : List Value) (h : Heap) (v : Value) (h' : Heap), runFn P cf n a args h = some (v, h') →
  ∀ (g : Ghost) (w : World) (args' : Array Value), Rel P B g h w → LR g args args'.toList → CallsIn Fence.wide 0 P f args' w (PostC P B g w v h')

/-- The table says of each function what its code comes to, or something that is known to answer so. -/
def TableOkX (P : Program) (T : Table) : Prop := ∀ f a, T f = some a → ∃ fn, P.funcs[f]? = some fn ∧ (compF P fn = some a ∨ FnOk P f a) ∧ fn.body.isSome = true ∧ (fn.name == numG) = false

theorem TableOk.x {T : Table} (hT : TableOk P T) : TableOkX P T := fun f a h => by
  obtain ⟨fn, h1, h2, h3, h4⟩ := hT f a h
  exact ⟨fn, h1, .inl h2, h3, h4⟩

/-- A world that grew, all that was there as it was. -/
theorem Rel.below {g : Ghost} {h : Heap} {w w' : World} (R : Rel P B g h w) (b : Go.RowKit.Below w.heap.size w w') : Rel P B g h w' ∧ Ext g w g w' :=
  ⟨R.of_same b.size fun r hr => b.block r (by
    rcases hr with hr | hr
    · exact hr.lt R
    · exact Nat.lt_of_lt_of_le hr R.base), Gle.refl g, fun r hr => .inl hr, b.size, fun r hr _ => b.block r hr, b.os, b.tape, b.output⟩

theorem acallN_okX {T : Table} (hT : TableOkX P T) (hmix : P.follows .mixedOrders = true) : ∀ n, CallOK P B (acallN P T n) := by
  intro n
  induction n with
  | zero => intro tg args h v h' hr; simp [acallN] at hr
  | succ n ih =>
    intro tg args h v h' hr g w args' R hl
    cases tg with
    | fn f =>
      simp only [acallN] at hr
      cases hq : T f with
      | none =>
        rw [hq] at hr
        exact .inr (ext_sound hr hl)
      | some a =>
        rw [hq] at hr
        obtain ⟨fn, hf, ha, hb, hn⟩ := hT f a hq
        refine .inl ⟨callFunc_enter hf hb hn, ?_⟩
        rcases ha with ha | ha
        · exact fn_sound ih hmix hf ha hr R hl
        · exact ha B _ n args h v h' hr g w args' R hl
    | yield l =>
      simp only [acallN] at hr
      intro r hlp
      exact yield_sound ih hmix hr R hl hlp

/-- What the abstract machine answers, the model answers. -/
theorem acall_soundX {T : Table} (hT : TableOkX P T) (hmix : P.follows .mixedOrders = true) {n f : Nat} {args : List Value} {h : Heap} {v : Value} {h' : Heap} (hr : acallN P T n (.fn f) args h = some (v, h')) (htab : (T f).isSome = true)
    {g : Ghost} {w : World} {args' : Array Value} (R : Rel P B g h w) (hl : LR g args args'.toList) : Calls P f args' w (PostC P B g w v h') := by
  have := acallN_okX (B := B) hT hmix n (.fn f) args h v h' hr g w args' R hl
  simp only at this
  rcases this with ⟨_, h2⟩ | ⟨y, h1, _, _⟩
  · exact callsIn_wide.1 h2
  · exfalso
    obtain ⟨a, ha⟩ := Option.isSome_iff_exists.1 htab
    obtain ⟨fn, hf, _, hb, hn⟩ := hT f a ha
    rw [callFunc_enter hf hb hn] at h1
    simp at h1

theorem acall_sound {T : Table} (hT : TableOk P T) (hmix : P.follows .mixedOrders = true) {n f : Nat} {args : List Value} {h : Heap} {v : Value} {h' : Heap} (hr : acallN P T n (.fn f) args h = some (v, h')) (htab : (T f).isSome = true)
    {g : Ghost} {w : World} {args' : Array Value} (R : Rel P B g h w) (hl : LR g args args'.toList) : Calls P f args' w (PostC P B g w v h') := acall_soundX hT.x hmix hr htab R hl

end

end Go.Ax
