/- An abstract machine for Go programs: words for walking through code. -/
import Derived.Test.YtpemffaclmpnnaaDoorXV
namespace Go.Ax
set_option linter.unusedVariables false
set_option linter.unusedSimpArgs false

/-- What is left to do behind code, by name (so that it is looked at when it is reached). -/
inductive Cont where
  | seq (b : AC) (k : Cont)
  | block (id : Nat) (k : Cont)
  | fin (rs : List ARs) (Q : Value → Heap → Prop)
  | loop (keep : Nat) (I : Nat → List Value → Heap → Prop) (n : Nat) (k : Cont)
  | of (Q : Ex → List Value → Heap → Prop)

section
variable (P : Program) (T : Table)

def Cont.meets : Cont → Ex → List Value → Heap → Prop
  | .seq b k, .normal, t, h => Does P T b t h fun e t' h' => k.meets e t' h'
  | .seq _ k, e, t, h => k.meets e t h
  | .block id k, .exit i, t, h => if i = id then k.meets .normal t h else k.meets (.exit i) t h
  | .block _ k, e, t, h => k.meets e t h
  | .fin rs Q, .exit _, t, h => False
  | .fin rs Q, _, t, h => ∃ l, resVals t h rs = some l ∧ Q (oneOf l) h
  | .loop keep I n k, .normal, t, h => ∃ j, j < n ∧ I j (forget keep t) h
  | .loop keep I n k, e, t, h => k.meets e t h
  | .of Q, e, t, h => Q e t h

/-- Code c, then what is left. -/
def Go (c : AC) (t : List Value) (h : Heap) (k : Cont) : Prop := Does P T c t h fun e t' h' => k.meets P T e t' h'

/-- An answer, and what holds of it. -/
def got (x : Option (Value × Heap)) (K : Value → Heap → Prop) : Prop := ∃ v h', x = some (v, h') ∧ K v h'

def ends (x : Option Value) (K : Value → Prop) : Prop := ∃ v, x = some v ∧ K v

/-- A line of operations, then what is left. -/
def Runs (l : List AOper) (t : List Value) (h : Heap) (k : Cont) : Prop := ∃ t' h', runOps P (acallW P T) l t h = some (t', h') ∧ k.meets P T .normal t' h'

def runsPut (l : List AOper) (t : List Value) (d : Option Nat) (k : Cont) (v : Value) (h : Heap) : Prop := Runs P T l (putT t d v) h k

def runsIf (o : AOp) (l : List AOper) (t : List Value) (d : Option Nat) (k : Cont) (h : Heap) : Option Bool → Prop
  | some true => got (runOp P (acallW P T) o t h) (runsPut P T l t d k)
  | some false => Runs P T l (putT t d skipV) h k
  | none => False

/-- A region that draws its order. -/
def Draws (l : List AOper) (past : List Heap) (pend : List (AOper × List Value × Value)) (m : Nat) (t : List Value) (h : Heap) (k : Cont) : Prop := ∃ t' h', drun P (acallW P T) l past pend m t h = some (t', h') ∧ k.meets P T .normal t' h'

def pendAll (pend : List (AOper × List Value × Value)) (m : Nat) (h : Heap) : Prop := ∀ p ∈ pend, m ≤ p.1.hi → same P p.1.op p.2.1 p.2.2 h = true

def drawEff (l : List AOper) (past : List Heap) (pend : List (AOper × List Value × Value)) (m : Nat) (t : List Value) (h : Heap) (d : Option Nat) (k : Cont) (v : Value) (h' : Heap) : Prop :=
  pendAll P pend (m + 1) h' ∧ Draws P T l (h :: past) pend (m + 1) (putT t d v) h' k

def pushP (o : AOper) (t : List Value) (v : Value) (pend : List (AOper × List Value × Value)) (m : Nat) : List (AOper × List Value × Value) :=
  if useHeap o.op = true ∧ m < o.hi then (o, t, v) :: pend else pend

def pastAll (past : List Heap) (n : Nat) (op : AOp) (t : List Value) (v : Value) : Prop := ∀ h ∈ past.take n, same P op t v h = true

def drawGet (o : AOper) (l : List AOper) (past : List Heap) (pend : List (AOper × List Value × Value)) (m : Nat) (t : List Value) (k : Cont) (v : Value) (h : Heap) : Prop :=
  pastAll P past (m - o.lo) o.op t v ∧ Draws P T l past (pushP o t v pend m) m (putT t o.dst v) h k

def drawOne (o : AOper) (l : List AOper) (past : List Heap) (pend : List (AOper × List Value × Value)) (m : Nat) (t : List Value) (h : Heap) (k : Cont) : Prop :=
  if o.eff then got (runOp P (acallW P T) o.op t h) (drawEff P T l past pend m t h o.dst k)
  else got (runOp P (acallW P T) o.op t h) (drawGet P T o l past pend m t k)

def drawIf (o : AOper) (l : List AOper) (past : List Heap) (pend : List (AOper × List Value × Value)) (m : Nat) (t : List Value) (h : Heap) (k : Cont) : Option Bool → Prop
  | some true => drawOne P T o l past pend m t h k
  | some false => if o.eff then Draws P T l (h :: past) pend (m + 1) (putT t o.dst skipV) h k else Draws P T l past pend m (putT t o.dst skipV) h k
  | none => False

def Branch (v : Value) (a b : AC) (t : List Value) (h : Heap) (k : Cont) : Prop :=
  match v with
  | .bool true => Go P T a t h k
  | .bool false => Go P T b t h k
  | _ => False
end

section
variable {P : Program} {T : Table} {cf : CF} {t : List Value} {h : Heap} {k : Cont}

theorem gives_go {f : FuncId} {a : AFn} (ha : T f = some a) {args : List Value} (hl : args.length ≤ a.ntmps) {Q : Value → Heap → Prop}
    (g : Go P T a.code (envT a.ntmps (args.mapIdx fun i v => (i, v))) h (.fin a.results Q)) : Gives P T (.fn f) args h Q := by
  refine gives_env ha hl (Does.mono g fun e t' h' q => ?_)
  cases e with
  | exit i => simp [Cont.meets] at q
  | normal => exact ⟨fun i e => by simp at e, q⟩
  | ret => exact ⟨fun i e => by simp at e, q⟩

@[simp] theorem meets_seq {b : AC} : Cont.meets P T (.seq b k) .normal t h = Go P T b t h k := by simp only [Cont.meets, Go]
@[simp] theorem meets_seq_ret {b : AC} : Cont.meets P T (.seq b k) .ret t h = k.meets P T .ret t h := by simp only [Cont.meets]
@[simp] theorem meets_seq_exit {b : AC} {i : Nat} : Cont.meets P T (.seq b k) (.exit i) t h = k.meets P T (.exit i) t h := by simp only [Cont.meets]
@[simp] theorem meets_block {id : Nat} : Cont.meets P T (.block id k) .normal t h = k.meets P T .normal t h := by simp only [Cont.meets]
@[simp] theorem meets_block_ret {id : Nat} : Cont.meets P T (.block id k) .ret t h = k.meets P T .ret t h := by simp only [Cont.meets]
@[simp] theorem meets_block_exit {id i : Nat} : Cont.meets P T (.block id k) (.exit i) t h = if i = id then k.meets P T .normal t h else k.meets P T (.exit i) t h := by simp only [Cont.meets]
@[simp] theorem meets_fin {rs : List ARs} {Q : Value → Heap → Prop} : Cont.meets P T (.fin rs Q) .normal t h = ∃ l, resVals t h rs = some l ∧ Q (oneOf l) h := by simp only [Cont.meets]
@[simp] theorem meets_fin_ret {rs : List ARs} {Q : Value → Heap → Prop} : Cont.meets P T (.fin rs Q) .ret t h = ∃ l, resVals t h rs = some l ∧ Q (oneOf l) h := by simp only [Cont.meets]
@[simp] theorem meets_of {Q : Ex → List Value → Heap → Prop} {e : Ex} : Cont.meets P T (.of Q) e t h = Q e t h := by simp only [Cont.meets]
@[simp] theorem meets_loop {keep n : Nat} {I : Nat → List Value → Heap → Prop} : Cont.meets P T (.loop keep I n k) .normal t h = ∃ j, j < n ∧ I j (forget keep t) h := by simp only [Cont.meets]
@[simp] theorem meets_loop_ret {keep n : Nat} {I : Nat → List Value → Heap → Prop} : Cont.meets P T (.loop keep I n k) .ret t h = k.meets P T .ret t h := by simp only [Cont.meets]
@[simp] theorem meets_loop_exit {keep n i : Nat} {I : Nat → List Value → Heap → Prop} : Cont.meets P T (.loop keep I n k) (.exit i) t h = k.meets P T (.exit i) t h := by simp only [Cont.meets]

theorem does_iff {c : AC} {Q : Ex → List Value → Heap → Prop} {n : Nat} {r} (e : aexec P (acallW P T) n c t h = some r) : Does P T c t h Q ↔ Q r.1 r.2.1 r.2.2 := by
  constructor
  · rintro ⟨m, e', t', h', hr, q⟩
    have h1 := exec_mono (Nat.le_max_left n m) e
    have h2 := exec_mono (Nat.le_max_right n m) hr
    rw [h1] at h2
    obtain rfl := Option.some.inj h2
    exact q
  · intro q; exact ⟨n, r.1, r.2.1, r.2.2, e, q⟩

@[simp] theorem go_skip : Go P T .skip t h k = k.meets P T .normal t h := propext (does_iff (n := 0) (r := (.normal, t, h)) rfl)
@[simp] theorem go_exit {i : Nat} : Go P T (.exit i) t h k = k.meets P T (.exit i) t h := propext (does_iff (n := 0) (r := (.exit i, t, h)) rfl)
@[simp] theorem go_ret : Go P T .ret t h k = k.meets P T .ret t h := propext (does_iff (n := 0) (r := (.ret, t, h)) rfl)

@[simp] theorem go_seq {a b : AC} : Go P T (.seq a b) t h k = Go P T a t h (.seq b k) := by
  refine propext ⟨?_, ?_⟩
  · rintro ⟨n, e, t', h', r, q⟩
    simp only [aexec] at r
    cases ha : aexec P (acallW P T) n a t h with
    | none => simp [ha] at r
    | some x =>
      obtain ⟨ea, ta, h1⟩ := x
      simp only [ha] at r
      cases ea with
      | normal => exact ⟨n, .normal, ta, h1, ha, by show Cont.meets P T _ _ _ _; rw [meets_seq]; exact ⟨n, e, t', h', r, q⟩⟩
      | exit i => simp only [Option.some.injEq, Prod.mk.injEq] at r; obtain ⟨rfl, rfl, rfl⟩ := r; exact ⟨n, .exit i, ta, h1, ha, by show Cont.meets P T _ _ _ _; rw [meets_seq_exit]; exact q⟩
      | ret => simp only [Option.some.injEq, Prod.mk.injEq] at r; obtain ⟨rfl, rfl, rfl⟩ := r; exact ⟨n, .ret, ta, h1, ha, by show Cont.meets P T _ _ _ _; rw [meets_seq_ret]; exact q⟩
  · intro g
    refine does_seq (Does.mono g fun e t' h' q => ?_)
    cases e with
    | normal => rw [meets_seq] at q; exact q
    | exit i => rw [meets_seq_exit] at q; exact q
    | ret => rw [meets_seq_ret] at q; exact q

@[simp] theorem go_block {id : Nat} {b : AC} : Go P T (.block id b) t h k = Go P T b t h (.block id k) := by
  refine propext ⟨?_, ?_⟩
  · rintro ⟨n, e, t', h', r, q⟩
    simp only [aexec] at r
    cases ha : aexec P (acallW P T) n b t h with
    | none => simp [ha] at r
    | some x =>
      obtain ⟨ea, ta, h1⟩ := x
      simp only [ha] at r
      refine ⟨n, ea, ta, h1, ha, ?_⟩
      cases ea with
      | normal => simp only [Option.some.injEq, Prod.mk.injEq] at r; obtain ⟨rfl, rfl, rfl⟩ := r; rw [meets_block]; exact q
      | ret => simp only [Option.some.injEq, Prod.mk.injEq] at r; obtain ⟨rfl, rfl, rfl⟩ := r; rw [meets_block_ret]; exact q
      | exit i =>
        rw [meets_block_exit]
        simp only at r
        split at r
        · rename_i hi; simp only [Option.some.injEq, Prod.mk.injEq] at r; obtain ⟨rfl, rfl, rfl⟩ := r; rw [if_pos hi]; exact q
        · rename_i hi; simp only [Option.some.injEq, Prod.mk.injEq] at r; obtain ⟨rfl, rfl, rfl⟩ := r; rw [if_neg hi]; exact q
  · intro g
    refine does_block (Does.mono g fun e t' h' q => ?_)
    cases e with
    | normal => rw [meets_block] at q; exact q
    | ret => rw [meets_block_ret] at q; exact q
    | exit i => rw [meets_block_exit] at q; exact q

@[simp] theorem go_cond {c : Operand} {a b : AC} : Go P T (.cond c a b) t h k = Branch P T (evalT t c) a b t h k := by
  unfold Branch
  refine propext ⟨?_, ?_⟩
  · rintro ⟨n, e, t', h', r, q⟩
    simp only [aexec] at r
    split at r
    · rename_i hc; rw [hc]; exact ⟨n, e, t', h', r, q⟩
    · rename_i hc; rw [hc]; exact ⟨n, e, t', h', r, q⟩
    · simp at r
  · intro g
    split at g
    · rename_i hc; exact does_cond (x := true) hc (fun _ => g) (fun e => by simp at e)
    · rename_i hc; exact does_cond (x := false) hc (fun e => by simp at e) (fun _ => g)
    · exact g.elim

@[simp] theorem branch_true {a b : AC} : Branch P T (.bool true) a b t h k = Go P T a t h k := rfl
@[simp] theorem branch_false {a b : AC} : Branch P T (.bool false) a b t h k = Go P T b t h k := rfl
theorem branch_if {x : Bool} {a b : AC} (ha : x = true → Go P T a t h k) (hb : x = false → Go P T b t h k) : Branch P T (.bool x) a b t h k := by
  cases x with
  | true => exact ha rfl
  | false => exact hb rfl
theorem branch_dec {p : Prop} [Decidable p] {a b : AC} (ha : p → Go P T a t h k) (hb : ¬ p → Go P T b t h k) : Branch P T (.bool (decide p)) a b t h k :=
  branch_if (fun e => ha (of_decide_eq_true e)) (fun e => hb (of_decide_eq_false e))

@[simp] theorem go_ops {l : List AOper} : Go P T (.ops l) t h k = Runs P T l t h k := by
  refine propext ⟨?_, ?_⟩
  · rintro ⟨n, e, t', h', r, q⟩
    simp only [aexec, Option.map_eq_some_iff] at r
    obtain ⟨⟨a, b⟩, h1, h2⟩ := r
    simp only [Prod.mk.injEq] at h2
    obtain ⟨rfl, rfl, rfl⟩ := h2
    exact ⟨a, b, h1, q⟩
  · rintro ⟨t', h', r, q⟩; exact does_ops r q

@[simp] theorem go_dops {l : List AOper} : Go P T (.dops l) t h k = Draws P T l [] [] 0 t h k := by
  refine propext ⟨?_, ?_⟩
  · rintro ⟨n, e, t', h', r, q⟩
    simp only [aexec, Option.map_eq_some_iff] at r
    obtain ⟨⟨a, b⟩, h1, h2⟩ := r
    simp only [Prod.mk.injEq] at h2
    obtain ⟨rfl, rfl, rfl⟩ := h2
    exact ⟨a, b, h1, q⟩
  · rintro ⟨t', h', r, q⟩; exact does_dops r q

@[simp] theorem runs_nil : Runs P T [] t h k = k.meets P T .normal t h := by
  unfold Runs; simp only [runOps]
  exact propext ⟨fun ⟨_, _, e, q⟩ => by simp at e; obtain ⟨rfl, rfl⟩ := e; exact q, fun q => ⟨t, h, rfl, q⟩⟩

@[simp] theorem got_some {v : Value} {K : Value → Heap → Prop} : got (some (v, h)) K = K v h :=
  propext ⟨fun ⟨_, _, e, q⟩ => by simp at e; obtain ⟨rfl, rfl⟩ := e; exact q, fun q => ⟨v, h, rfl, q⟩⟩

@[simp] theorem runs_plain {d : Option Nat} {o : AOp} {e : Bool} {a b : Nat} {r : List AOper} : Runs P T (⟨d, o, none, e, a, b⟩ :: r) t h k = got (runOp P (acallW P T) o t h) (runsPut P T r t d k) := by
  unfold Runs got runsPut Runs
  simp only [runOps, wanted_none]
  refine propext ⟨?_, ?_⟩
  · rintro ⟨t', h', r1, q⟩
    cases ho : runOp P (acallW P T) o t h with
    | none => simp [ho] at r1
    | some x => obtain ⟨v, h2⟩ := x; simp only [ho] at r1; exact ⟨v, h2, rfl, t', h', r1, q⟩
  · rintro ⟨v, h2, ho, t', h', r1, q⟩
    exact ⟨t', h', by simp only [ho]; exact r1, q⟩

@[simp] theorem runs_guard {d : Option Nat} {o : AOp} {e : Bool} {a b : Nat} {r : List AOper} {g : Option Nat × Bool} : Runs P T (⟨d, o, some g, e, a, b⟩ :: r) t h k = runsIf P T o r t d k h (wantedA t (some g)) := by
  unfold Runs runsIf
  simp only [runOps]
  cases hw : wantedA t (some g) with
  | none => simp
  | some x =>
    cases x with
    | false => rfl
    | true =>
      simp only
      unfold got runsPut Runs
      refine propext ⟨?_, ?_⟩
      · rintro ⟨t', h', r1, q⟩
        cases ho : runOp P (acallW P T) o t h with
        | none => simp [ho] at r1
        | some x => obtain ⟨v, h2⟩ := x; simp only [ho] at r1; exact ⟨v, h2, rfl, t', h', r1, q⟩
      · rintro ⟨v, h2, ho, t', h', r1, q⟩
        exact ⟨t', h', by simp only [ho]; exact r1, q⟩

@[simp] theorem runsPut_eq {r : List AOper} {d : Option Nat} {v : Value} : runsPut P T r t d k v h = Runs P T r (putT t d v) h k := rfl
@[simp] theorem runsIf_true {o : AOp} {r : List AOper} {d : Option Nat} : runsIf P T o r t d k h (some true) = got (runOp P (acallW P T) o t h) (runsPut P T r t d k) := rfl
@[simp] theorem runsIf_false {o : AOp} {r : List AOper} {d : Option Nat} : runsIf P T o r t d k h (some false) = Runs P T r (putT t d skipV) h k := rfl

@[simp] theorem draws_nil {past : List Heap} {pend : List (AOper × List Value × Value)} {m : Nat} : Draws P T [] past pend m t h k = k.meets P T .normal t h := by
  unfold Draws; simp only [drun]
  exact propext ⟨fun ⟨_, _, e, q⟩ => by simp at e; obtain ⟨rfl, rfl⟩ := e; exact q, fun q => ⟨t, h, rfl, q⟩⟩

theorem drun_pend {cf : CF} : ∀ (l : List AOper) (past : List Heap) (pend pend' : List (AOper × List Value × Value)) (m : Nat) (t : List Value) (h : Heap),
    (∀ p ∈ pend, p ∈ pend' ∨ p.1.hi ≤ m ∨ useHeap p.1.op = false) → ∀ r, drun P cf l past pend' m t h = some r → drun P cf l past pend m t h = some r
  | [], _, _, _, _, _, _, _, r, e => e
  | o :: l, past, pend, pend', m, t, h, hp, r, e => by
    simp only [drun] at e ⊢
    have hp1 : ∀ p ∈ pend, p ∈ pend' ∨ p.1.hi ≤ m + 1 ∨ useHeap p.1.op = false := fun p h => (hp p h).imp id (fun h => h.imp (fun h => by omega) id)
    split at e
    · rename_i hw
      split at e
      · rename_i v h' ho
        split at e
        · rename_i hf
          split at e
          · rename_i hall
            rw [if_pos hf, if_pos ?_]
            · exact drun_pend l _ _ _ _ _ _ hp1 r e
            · rw [List.all_eq_true] at hall ⊢
              intro p hpm
              rcases hp p hpm with h1 | h1 | h1
              · exact hall p h1
              · simp; left; omega
              · simp [same, h1]
          · simp at e
        · rename_i hf
          split at e
          · rename_i hall
            rw [if_neg hf, if_pos hall]
            refine drun_pend l _ _ _ _ _ _ ?_ r e
            intro p hpm
            rw [List.mem_cons] at hpm
            rcases hpm with rfl | hpm
            · left; simp
            · rcases hp p hpm with h1 | h1
              · left; simp [h1]
              · right; exact h1
          · simp at e
      · simp at e
    · split at e
      · rename_i hf; rw [if_pos hf]; exact drun_pend l _ _ _ _ _ _ hp1 r e
      · rename_i hf; rw [if_neg hf]; exact drun_pend l _ _ _ _ _ _ hp r e
    · simp at e

theorem pend_all {pend : List (AOper × List Value × Value)} {m : Nat} : (pend.all fun x => match x with | (p, tp, vp) => decide (p.hi < m) || same P p.op tp vp h) = true ↔ pendAll P pend m h := by
  rw [List.all_eq_true]
  unfold pendAll
  constructor
  · intro g p hp hm
    have := g p hp
    simp only [Bool.or_eq_true, decide_eq_true_eq] at this
    exact this.resolve_left (by omega)
  · intro g p hp
    by_cases hh : p.1.hi < m
    · simp [hh]
    · simp [g p hp (by omega)]

theorem drun_push {cf : CF} {o : AOper} {l : List AOper} {past : List Heap} {pend : List (AOper × List Value × Value)} {m : Nat} {v : Value} {t1 : List Value} {h : Heap} {r} :
    drun P cf l past ((o, t, v) :: pend) m t1 h = some r ↔ drun P cf l past (pushP o t v pend m) m t1 h = some r := by
  constructor
  · intro e
    refine drun_pend l _ _ _ _ _ _ ?_ _ e
    intro p hp
    left
    unfold pushP at hp
    split at hp
    · exact hp
    · simp [hp]
  · intro e
    refine drun_pend l _ _ _ _ _ _ ?_ _ e
    intro p hp
    rw [List.mem_cons] at hp
    unfold pushP
    rcases hp with rfl | hp
    · split
      · left; simp
      · rename_i hn
        right
        by_cases hu : useHeap o.op = true
        · left; rw [not_and] at hn; have := hn hu; simp only; omega
        · right; simpa using hu
    · left; split <;> simp [hp]

theorem draws_one {o : AOper} {l : List AOper} {past : List Heap} {pend : List (AOper × List Value × Value)} {m : Nat} (hw : wantedA t o.guard = some true) : Draws P T (o :: l) past pend m t h k = drawOne P T o l past pend m t h k := by
  unfold drawOne got Draws
  simp only [drun, hw]
  refine propext ⟨?_, ?_⟩
  · rintro ⟨t', h2, r, q⟩
    cases ho : runOp P (acallW P T) o.op t h with
    | none => simp [ho] at r
    | some x =>
      obtain ⟨v, h'⟩ := x
      simp only [ho] at r
      split at r
      · rename_i hf
        rw [if_pos hf]
        split at r
        · rename_i hp; exact ⟨v, h', rfl, pend_all.1 hp, t', h2, r, q⟩
        · simp at r
      · rename_i hf
        rw [if_neg hf]
        split at r
        · rename_i hp; exact ⟨v, h', rfl, List.all_eq_true.1 hp, t', h2, drun_push.1 r, q⟩
        · simp at r
  · intro g
    split at g
    · rename_i hf
      obtain ⟨v, h', ho, hp, t', h2, r, q⟩ := g
      refine ⟨t', h2, ?_, q⟩
      simp only [ho]
      rw [if_pos hf, if_pos (pend_all.2 hp)]
      exact r
    · rename_i hf
      obtain ⟨v, h', ho, hp, t', h2, r, q⟩ := g
      refine ⟨t', h2, ?_, q⟩
      simp only [ho]
      rw [if_neg hf, if_pos (List.all_eq_true.2 hp)]
      exact drun_push.2 r

@[simp] theorem draws_plain_eff {d : Option Nat} {o : AOp} {a b : Nat} {r : List AOper} {past : List Heap} {pend : List (AOper × List Value × Value)} {m : Nat} :
    Draws P T (⟨d, o, none, true, a, b⟩ :: r) past pend m t h k = got (runOp P (acallW P T) o t h) (drawEff P T r past pend m t h d k) := by
  rw [draws_one rfl]; simp [drawOne]

@[simp] theorem draws_plain_get {d : Option Nat} {o : AOp} {a b : Nat} {r : List AOper} {past : List Heap} {pend : List (AOper × List Value × Value)} {m : Nat} :
    Draws P T (⟨d, o, none, false, a, b⟩ :: r) past pend m t h k = got (runOp P (acallW P T) o t h) (drawGet P T ⟨d, o, none, false, a, b⟩ r past pend m t k) := by
  rw [draws_one rfl]; simp [drawOne]

@[simp] theorem drawEff_eq {l : List AOper} {past : List Heap} {pend : List (AOper × List Value × Value)} {m : Nat} {d : Option Nat} {v : Value} {h' : Heap} :
    drawEff P T l past pend m t h d k v h' = (pendAll P pend (m + 1) h' ∧ Draws P T l (h :: past) pend (m + 1) (putT t d v) h' k) := rfl

@[simp] theorem drawGet_eq {o : AOper} {l : List AOper} {past : List Heap} {pend : List (AOper × List Value × Value)} {m : Nat} {v : Value} :
    drawGet P T o l past pend m t k v h = (pastAll P past (m - o.lo) o.op t v ∧ Draws P T l past (pushP o t v pend m) m (putT t o.dst v) h k) := rfl

@[simp] theorem pushP_out {d : Option Nat} {o : AOp} {g : Option (Option Nat × Bool)} {e : Bool} {a b m : Nat} {v : Value} {pend : List (AOper × List Value × Value)} (hu : useHeap o = false) : pushP ⟨d, o, g, e, a, b⟩ t v pend m = pend := by
  simp [pushP, hu]
@[simp] theorem pushP_late {d : Option Nat} {o : AOp} {g : Option (Option Nat × Bool)} {e : Bool} {a b m : Nat} {v : Value} {pend : List (AOper × List Value × Value)} (hm : b ≤ m) : pushP ⟨d, o, g, e, a, b⟩ t v pend m = pend := by
  unfold pushP; rw [if_neg (by simp only; omega)]
theorem pushP_in {d : Option Nat} {o : AOp} {g : Option (Option Nat × Bool)} {e : Bool} {a b m : Nat} {v : Value} {pend : List (AOper × List Value × Value)} (hu : useHeap o = true) (hm : m < b) : pushP ⟨d, o, g, e, a, b⟩ t v pend m = (⟨d, o, g, e, a, b⟩, t, v) :: pend := by
  simp [pushP, hu, hm]

@[simp] theorem pendAll_nil {m : Nat} : pendAll P [] m h = True := by simp [pendAll]
@[simp] theorem pendAll_cons {m : Nat} {p : AOper × List Value × Value} {pend : List (AOper × List Value × Value)} : pendAll P (p :: pend) m h = ((m ≤ p.1.hi → same P p.1.op p.2.1 p.2.2 h = true) ∧ pendAll P pend m h) := by
  simp [pendAll]
@[simp] theorem pastAll_zero {past : List Heap} {op : AOp} {v : Value} : pastAll P past 0 op t v = True := by simp [pastAll]
@[simp] theorem pastAll_nil {n : Nat} {op : AOp} {v : Value} : pastAll P [] n op t v = True := by simp [pastAll]
@[simp] theorem pastAll_out {past : List Heap} {n : Nat} {op : AOp} {v : Value} (hu : useHeap op = false) : pastAll P past n op t v = True := by simp [pastAll, same, hu]
@[simp] theorem pastAll_cons {past : List Heap} {n : Nat} {op : AOp} {v : Value} (hu : useHeap op = true) : pastAll P (h :: past) (n + 1) op t v = (same P op t v h = true ∧ pastAll P past n op t v) := by simp [pastAll]

theorem draws_guard {o : AOper} {r : List AOper} {past : List Heap} {pend : List (AOper × List Value × Value)} {m : Nat} :
    Draws P T (o :: r) past pend m t h k = drawIf P T o r past pend m t h k (wantedA t o.guard) := by
  cases hw : wantedA t o.guard with
  | none => unfold Draws drawIf; simp [drun, hw]
  | some b =>
    cases b with
    | true => exact draws_one hw
    | false =>
      simp only [drawIf]
      unfold Draws
      simp only [drun, hw]
      split <;> rfl

@[simp] theorem draws_guarded {d : Option Nat} {o : AOp} {g : Option Nat × Bool} {e : Bool} {a b : Nat} {r : List AOper} {past : List Heap} {pend : List (AOper × List Value × Value)} {m : Nat} :
    Draws P T (⟨d, o, some g, e, a, b⟩ :: r) past pend m t h k = drawIf P T ⟨d, o, some g, e, a, b⟩ r past pend m t h k (wantedA t (some g)) := draws_guard
@[simp] theorem drawIf_true_eff {d : Option Nat} {o : AOp} {g : Option (Option Nat × Bool)} {a b : Nat} {r : List AOper} {past : List Heap} {pend : List (AOper × List Value × Value)} {m : Nat} :
    drawIf P T ⟨d, o, g, true, a, b⟩ r past pend m t h k (some true) = got (runOp P (acallW P T) o t h) (drawEff P T r past pend m t h d k) := by simp [drawIf, drawOne]
@[simp] theorem drawIf_true_get {d : Option Nat} {o : AOp} {g : Option (Option Nat × Bool)} {a b : Nat} {r : List AOper} {past : List Heap} {pend : List (AOper × List Value × Value)} {m : Nat} :
    drawIf P T ⟨d, o, g, false, a, b⟩ r past pend m t h k (some true) = got (runOp P (acallW P T) o t h) (drawGet P T ⟨d, o, g, false, a, b⟩ r past pend m t k) := by simp [drawIf, drawOne]
@[simp] theorem drawIf_false_eff {d : Option Nat} {o : AOp} {g : Option (Option Nat × Bool)} {a b : Nat} {r : List AOper} {past : List Heap} {pend : List (AOper × List Value × Value)} {m : Nat} :
    drawIf P T ⟨d, o, g, true, a, b⟩ r past pend m t h k (some false) = Draws P T r (h :: past) pend (m + 1) (putT t d skipV) h k := by simp [drawIf]
@[simp] theorem drawIf_false_get {d : Option Nat} {o : AOp} {g : Option (Option Nat × Bool)} {a b : Nat} {r : List AOper} {past : List Heap} {pend : List (AOper × List Value × Value)} {m : Nat} :
    drawIf P T ⟨d, o, g, false, a, b⟩ r past pend m t h k (some false) = Draws P T r past pend m (putT t d skipV) h k := by simp [drawIf]

end
end Go.Ax
