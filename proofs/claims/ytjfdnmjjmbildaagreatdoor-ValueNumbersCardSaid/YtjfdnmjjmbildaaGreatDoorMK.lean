/- An abstract machine for Go programs: its runs with the slots in a short list (for closed runs by the kernel). -/
import Derived.Test.YtjfdnmjjmbildaaGreatDoorMG
namespace Go.Ax
set_option linter.unusedVariables false
set_option linter.unusedSimpArgs false

abbrev EnvE := List (Nat × Value)
abbrev CFE := FuncId → List Value → Heap → Option (Value × Heap)

def evalE (N : Nat) (l : EnvE) : Operand → Value
  | .tmp i => if i < N then slot l i else undef
  | .const v => if plain v then v else undef
  | .global g => if g < 4294967296 then .pointer (some ⟨g, 0, none⟩) else undef
  | .func f => .func (.func f) #[] #[]

def putE (l : EnvE) (d : Option Nat) (v : Value) : EnvE :=
  match d with
  | some d => (d, v) :: l
  | none => l

def wantedE (N : Nat) (l : EnvE) : Option (Option Nat × Bool) → Option Bool
  | none => some true
  | some (none, _) => none
  | some (some d, b) =>
    if d < N then
      match slot l d with
      | .bool c => some (c == b)
      | .chan none => some false
      | _ => none
    else none

def runOpE (P : Program) (cf : CFE) (o : AOp) (N : Nat) (l : EnvE) (h : Heap) : Option (Value × Heap) :=
  match aop P h (evalE N l) o with
  | some (.val v h') => some (v, h')
  | some (.call (.fn f) args) => cf f args h
  | _ => none

def runOpsE (P : Program) (cf : CFE) (N : Nat) : List AOper → EnvE → Heap → Option (EnvE × Heap)
  | [], l, h => some (l, h)
  | o :: r, l, h =>
    match wantedE N l o.guard with
    | some true =>
      match runOpE P cf o.op N l h with
      | some (v, h') => runOpsE P cf N r (putE l o.dst v) h'
      | none => none
    | some false => runOpsE P cf N r (putE l o.dst skipV) h
    | none => none

def sameE (P : Program) (op : AOp) (N : Nat) (l : EnvE) (v : Value) (h : Heap) : Bool :=
  !useHeap op ||
  match aop P h (evalE N l) op with
  | some (.val v' _) => veqN 6 v v'
  | _ => false

def drunE (P : Program) (cf : CFE) (N : Nat) : List AOper → List Heap → List (AOper × EnvE × Value) → Nat → EnvE → Heap → Option (EnvE × Heap)
  | [], _, _, _, l, h => some (l, h)
  | o :: r, past, pend, m, l, h =>
    match wantedE N l o.guard with
    | some true =>
      match runOpE P cf o.op N l h with
      | some (v, h') =>
        if o.eff then
          if pend.all fun (p, tp, vp) => p.hi < m + 1 || sameE P p.op N tp vp h' then
            drunE P cf N r (h :: past) pend (m + 1) (putE l o.dst v) h'
          else none
        else if (past.take (m - o.lo)).all (sameE P o.op N l v) then
          drunE P cf N r past ((o, l, v) :: pend) m (putE l o.dst v) h'
        else none
      | none => none
    | some false => if o.eff then drunE P cf N r (h :: past) pend (m + 1) (putE l o.dst skipV) h else drunE P cf N r past pend m (putE l o.dst skipV) h
    | none => none

/-- The newest of each slot that is kept. -/
def prune (keep : Nat) : EnvE → List Nat → EnvE
  | [], _ => []
  | (i, v) :: r, seen => if keep.testBit i && !seen.contains i then (i, v) :: prune keep r (i :: seen) else prune keep r seen

def loopE (keep : Nat) (body : EnvE → Heap → Option (Ex × EnvE × Heap)) : Nat → EnvE → Heap → Option (Ex × EnvE × Heap)
  | 0, _, _ => none
  | n + 1, l, h =>
    match body (prune keep l []) h with
    | some (.normal, l', h') => loopE keep body n l' h'
    | r => r

def aexecE (P : Program) (cf : CFE) (N n : Nat) : AC → EnvE → Heap → Option (Ex × EnvE × Heap)
  | .skip, l, h => some (.normal, l, h)
  | .ops o, l, h => (runOpsE P cf N o l h).map fun (l', h') => (.normal, l', h')
  | .dops o, l, h => (drunE P cf N o [] [] 0 l h).map fun (l', h') => (.normal, l', h')
  | .seq a b, l, h =>
    match aexecE P cf N n a l h with
    | some (.normal, l', h') => aexecE P cf N n b l' h'
    | r => r
  | .cond c a b, l, h =>
    match evalE N l c with
    | .bool true => aexecE P cf N n a l h
    | .bool false => aexecE P cf N n b l h
    | _ => none
  | .block id b, l, h =>
    match aexecE P cf N n b l h with
    | some (.exit i, l', h') => if i = id then some (.normal, l', h') else some (.exit i, l', h')
    | r => r
  | .loop keep b, l, h => loopE keep (aexecE P cf N n b) n l h
  | .rangeF _ _ _ _, _, _ => none
  | .exit id, l, h => some (.exit id, l, h)
  | .ret, l, h => some (.ret, l, h)
  | .bad, _, _ => none

def resValsE (N : Nat) (l : EnvE) (h : Heap) : List ARs → Option (List Value)
  | [] => some []
  | .tmp i :: r =>
    match resValsE N l h r with
    | some x => some (evalE N l (.tmp i) :: x)
    | none => none
  | .cell i agg :: r =>
    match evalE N l (.tmp i), resValsE N l h r with
    | .pointer (some a), some x => match aload h agg a with | some v => some (v :: x) | none => none
    | _, _ => none

def runFnE (P : Program) (cf : CFE) (n : Nat) (f : AFn) (args : List Value) (h : Heap) : Option (Value × Heap) :=
  if f.ntmps < specN then
    if args.length ≤ f.ntmps then
      match aexecE P cf f.ntmps n f.code (args.mapIdx fun i v => (i, v)) h with
      | some (.exit _, _, _) => none
      | some (_, l, h') => (resValsE f.ntmps l h' f.results).map fun x => (oneOf x, h')
      | none => none
    else none
  else runFn P (fun _ _ _ => none) n f args h

def acallE (P : Program) (T : Table) : Nat → CFE
  | 0, _, _, _ => none
  | n + 1, f, args, h =>
    match T f with
    | some a => runFnE P (acallE P T n) n a args h
    | none => runExt P f args h

section
variable {P : Program} {N : Nat}

theorem evalE_eq (l : EnvE) : evalT (envT N l) = evalE N l := by
  funext x
  cases x with
  | tmp i =>
    by_cases h : i < N
    · rw [envT_tmp h]; simp [evalE, h]
    · simp only [evalE, h, if_false, evalT]
      have h' : N ≤ i := Nat.le_of_not_lt h
      rw [List.getD_eq_getElem?_getD, List.getElem?_eq_none (by rw [envT_len]; exact h')]; rfl
  | const v => rfl
  | global g => rfl
  | func f => rfl

theorem putE_eq (l : EnvE) (d : Option Nat) (v : Value) : putT (envT N l) d v = envT N (putE l d v) := by
  cases d with
  | none => rfl
  | some d => exact envT_put N d v l

theorem wantedE_eq (l : EnvE) (g : Option (Option Nat × Bool)) : wantedA (envT N l) g = wantedE N l g := by
  cases g with
  | none => rfl
  | some p =>
    obtain ⟨d, b⟩ := p
    cases d with
    | none => rfl
    | some d =>
      by_cases h : d < N
      · simp only [wantedA, wantedE, h, if_true, Option.bind_some, envT_get h]
        cases slot l d <;> try rfl
        rename_i r
        cases r <;> rfl
      · simp only [wantedA, wantedE, h, if_false, Option.bind_some]
        rw [List.getElem?_eq_none (by rw [envT_len]; omega)]

variable {cfE : CFE} {cf : CF}

theorem runOpE_ok (hcf : ∀ f args h r, cfE f args h = some r → cf (.fn f) args h = some r) {o : AOp} {l : EnvE} {h : Heap} {r : Value × Heap} (e : runOpE P cfE o N l h = some r) : runOp P cf o (envT N l) h = some r := by
  unfold runOpE at e
  unfold runOp
  rw [evalE_eq]
  cases hq : aop P h (evalE N l) o with
  | none => simp [hq] at e
  | some x =>
    rw [hq] at e
    cases x with
    | val v h' => exact e
    | call tg args =>
      cases tg with
      | fn f => exact hcf _ _ _ _ e
      | yield l => simp at e

theorem runOpsE_ok (hcf : ∀ f args h r, cfE f args h = some r → cf (.fn f) args h = some r) : ∀ {ops : List AOper} {l : EnvE} {h : Heap} {l' : EnvE} {h' : Heap}, runOpsE P cfE N ops l h = some (l', h') → runOps P cf ops (envT N l) h = some (envT N l', h')
  | [], l, h, l', h', e => by
    simp only [runOpsE, Option.some.injEq, Prod.mk.injEq] at e
    obtain ⟨rfl, rfl⟩ := e
    rfl
  | o :: r, l, h, l', h', e => by
    simp only [runOpsE] at e
    simp only [runOps, wantedE_eq]
    split at e
    · rename_i hw
      split at e
      · rename_i v h1 hop
        simp only [hw, runOpE_ok hcf hop, putE_eq]
        exact runOpsE_ok hcf e
      · simp at e
    · rename_i hw
      simp only [hw, putE_eq]
      exact runOpsE_ok hcf e
    · simp at e

theorem sameE_eq (op : AOp) (l : EnvE) (v : Value) (h : Heap) : same P op (envT N l) v h = sameE P op N l v h := by
  unfold same sameE
  rw [evalE_eq]
  cases aop P h (evalE N l) op with
  | none => rfl
  | some x => cases x <;> rfl

theorem drunE_ok (hcf : ∀ f args h r, cfE f args h = some r → cf (.fn f) args h = some r) : ∀ {ops : List AOper} {past : List Heap} {pend : List (AOper × EnvE × Value)} {m : Nat} {l : EnvE} {h : Heap} {l' : EnvE} {h' : Heap},
    drunE P cfE N ops past pend m l h = some (l', h') → drun P cf ops past (pend.map fun x => (x.1, envT N x.2.1, x.2.2)) m (envT N l) h = some (envT N l', h')
  | [], past, pend, m, l, h, l', h', e => by
    simp only [drunE, Option.some.injEq, Prod.mk.injEq] at e
    obtain ⟨rfl, rfl⟩ := e
    rfl
  | o :: r, past, pend, m, l, h, l', h', e => by
    simp only [drunE] at e
    simp only [drun, wantedE_eq]
    split at e
    · rename_i hw
      split at e
      · rename_i v h1 hop
        simp only [hw, runOpE_ok hcf hop, putE_eq]
        split at e
        · rename_i he
          rw [if_pos he]
          split at e
          · rename_i hp
            have hp' : ((pend.map fun x => (x.1, envT N x.2.1, x.2.2)).all fun x => match x with | (p, tp, vp) => decide (p.hi < m + 1) || same P p.op tp vp h1) = true := by
              rw [List.all_map]
              rw [List.all_eq_true] at hp ⊢
              intro x hx
              have := hp x hx
              simpa [Function.comp, sameE_eq] using this
            rw [if_pos hp']
            exact drunE_ok hcf e
          · simp at e
        · rename_i he
          rw [if_neg he]
          split at e
          · rename_i hp
            have hp' : ((past.take (m - o.lo)).all (same P o.op (envT N l) v)) = true := by
              rw [List.all_eq_true] at hp ⊢
              intro x hx
              rw [sameE_eq]
              exact hp x hx
            rw [if_pos hp']
            exact drunE_ok hcf (pend := (o, l, v) :: pend) e
          · simp at e
      · simp at e
    · rename_i hw
      simp only [hw, putE_eq]
      split at e
      · rename_i he
        rw [if_pos he]
        exact drunE_ok hcf e
      · rename_i he
        rw [if_neg he]
        exact drunE_ok hcf e
    · simp at e

theorem slot_prune (keep : Nat) : ∀ (l : EnvE) (seen : List Nat) (i : Nat), slot (prune keep l seen) i = if keep.testBit i && !seen.contains i then slot l i else undef
  | [], seen, i => by simp [prune, slot_nil]
  | (j, v) :: r, seen, i => by
    simp only [prune]
    split
    · rename_i h
      rw [slot_cons, slot_cons, slot_prune keep r (j :: seen) i]
      by_cases e : j = i
      · subst e; rw [if_pos rfl, if_pos rfl, if_pos h]
      · rw [if_neg e, if_neg e]
        have h2 : (j :: seen).contains i = seen.contains i := by
          rw [List.contains_cons]
          have : (i == j) = false := by simp; exact fun h => e h.symm
          rw [this, Bool.false_or]
        rw [h2]
    · rename_i h
      rw [slot_prune keep r seen i, slot_cons]
      by_cases e : j = i
      · subst e; rw [if_pos rfl, if_neg h, if_neg h]
      · rw [if_neg e]

theorem forget_prune (keep : Nat) (l : EnvE) : forget keep (envT N l) = envT N (prune keep l []) := by
  apply List.ext_getElem?
  intro i
  unfold forget
  rw [List.getElem?_mapIdx]
  by_cases h : i < N
  · rw [envT_get h, envT_get h, slot_prune]
    simp
  · rw [List.getElem?_eq_none (by rw [envT_len]; omega), List.getElem?_eq_none (by rw [envT_len]; omega)]; rfl

theorem loopE_ok {keep : Nat} {bE : EnvE → Heap → Option (Ex × EnvE × Heap)} {b : Step} (hb : ∀ l h e l' h', bE l h = some (e, l', h') → b (envT N l) h = some (e, envT N l', h')) :
    ∀ {n : Nat} {l : EnvE} {h : Heap} {e : Ex} {l' : EnvE} {h' : Heap}, loopE keep bE n l h = some (e, l', h') → loopN keep b n (envT N l) h = some (e, envT N l', h')
  | 0, l, h, e, l', h', k => by simp [loopE] at k
  | n + 1, l, h, e, l', h', k => by
    simp only [loopE] at k
    simp only [loopN, forget_prune]
    split at k
    · rename_i l1 h1 hq
      rw [hb _ _ _ _ _ hq]
      exact loopE_ok hb k
    · rename_i hne
      cases e with
      | normal => exact absurd k (hne _ _)
      | exit i => rw [hb _ _ _ _ _ k]
      | ret => rw [hb _ _ _ _ _ k]

theorem aexecE_ok {n : Nat} (hcf : ∀ f args h r, cfE f args h = some r → cf (.fn f) args h = some r) : ∀ (c : AC) {l : EnvE} {h : Heap} {e : Ex} {l' : EnvE} {h' : Heap}, aexecE P cfE N n c l h = some (e, l', h') → aexec P cf n c (envT N l) h = some (e, envT N l', h') := by
  intro c
  induction c with
  | skip => intro l h e l' h' k; simp only [aexecE, Option.some.injEq, Prod.mk.injEq] at k; obtain ⟨rfl, rfl, rfl⟩ := k; rfl
  | ops o =>
    intro l h e l' h' k
    simp only [aexecE] at k
    cases hq : runOpsE P cfE N o l h with
    | none => simp [hq] at k
    | some q =>
      simp only [hq, Option.map_some, Option.some.injEq, Prod.mk.injEq] at k
      obtain ⟨rfl, rfl, rfl⟩ := k
      simp only [aexec, runOpsE_ok hcf hq, Option.map_some]
  | dops o =>
    intro l h e l' h' k
    simp only [aexecE] at k
    cases hq : drunE P cfE N o [] [] 0 l h with
    | none => simp [hq] at k
    | some q =>
      simp only [hq, Option.map_some, Option.some.injEq, Prod.mk.injEq] at k
      obtain ⟨rfl, rfl, rfl⟩ := k
      have := drunE_ok hcf hq
      simp only [List.map_nil] at this
      simp only [aexec, this, Option.map_some]
  | seq a b iha ihb =>
    intro l h e l' h' k
    simp only [aexecE] at k
    simp only [aexec]
    split at k
    · rename_i l1 h1 hq
      rw [iha hq]
      exact ihb k
    · rename_i hne
      cases e with
      | normal => exact absurd k (hne _ _)
      | exit i => rw [iha k]
      | ret => rw [iha k]
  | cond c a b iha ihb =>
    intro l h e l' h' k
    simp only [aexecE] at k
    simp only [aexec, evalE_eq]
    split at k
    · rename_i hc; rw [hc]; exact iha k
    · rename_i hc; rw [hc]; exact ihb k
    · simp at k
  | block id b ih =>
    intro l h e l' h' k
    simp only [aexecE] at k
    simp only [aexec]
    split at k
    · rename_i i l1 h1 hq
      rw [ih hq]
      simp only
      split at k
      · rename_i hi
        simp only [Option.some.injEq, Prod.mk.injEq] at k
        obtain ⟨rfl, rfl, rfl⟩ := k
        rw [if_pos hi]
      · rename_i hi
        simp only [Option.some.injEq, Prod.mk.injEq] at k
        obtain ⟨rfl, rfl, rfl⟩ := k
        rw [if_neg hi]
    · rename_i hne
      cases e with
      | normal => rw [ih k]
      | exit i => exact absurd k (hne _ _ _)
      | ret => rw [ih k]
  | loop keep b ih =>
    intro l h e l' h' k
    simp only [aexecE] at k
    simp only [aexec]
    exact loopE_ok (fun l h e l' h' q => ih q) k
  | rangeF f ps a b iha ihb => intro l h e l' h' k; simp [aexecE] at k
  | exit id => intro l h e l' h' k; simp only [aexecE, Option.some.injEq, Prod.mk.injEq] at k; obtain ⟨rfl, rfl, rfl⟩ := k; rfl
  | ret => intro l h e l' h' k; simp only [aexecE, Option.some.injEq, Prod.mk.injEq] at k; obtain ⟨rfl, rfl, rfl⟩ := k; rfl
  | bad => intro l h e l' h' k; simp [aexecE] at k

theorem resValsE_eq (l : EnvE) (h : Heap) : ∀ rs : List ARs, resVals (envT N l) h rs = resValsE N l h rs
  | [] => rfl
  | .tmp i :: r => by
    have e : (envT N l).getD i undef = evalE N l (.tmp i) := by rw [← evalE_eq]; rfl
    simp only [resVals, resValsE, resValsE_eq l h r, e]
    cases resValsE N l h r <;> rfl
  | .cell i agg :: r => by
    have e : (envT N l).getD i undef = evalE N l (.tmp i) := by rw [← evalE_eq]; rfl
    simp only [resVals, resValsE, resValsE_eq l h r, e]
    generalize evalE N l (.tmp i) = x
    generalize resValsE N l h r = y
    cases x with
    | pointer a =>
      cases a with
      | none => rfl
      | some a =>
        cases y with
        | none => rfl
        | some y => simp only; cases aload h agg a <;> rfl
    | _ => rfl

theorem runFnE_ok {n : Nat} (hcf : ∀ f args h r, cfE f args h = some r → cf (.fn f) args h = some r) {a : AFn} {args : List Value} {h : Heap} {r : Value × Heap} (k : runFnE P cfE n a args h = some r) : runFn P cf n a args h = some r := by
  unfold runFnE at k
  split at k
  · rename_i h1
    split at k
    · rename_i h2
      unfold runFn
      rw [if_pos h1]
      unfold runBody
      rw [envT_start args _ h2]
      split at k
      · simp at k
      · rename_i e l h' hne hq
        rw [aexecE_ok hcf _ hq]
        cases e with
        | exit i => exact absurd rfl (hne i)
        | normal => simp only; rw [resValsE_eq]; exact k
        | ret => simp only; rw [resValsE_eq]; exact k
      · simp at k
    · simp at k
  · obtain ⟨S, hS, hF⟩ := fin_fn k
    have : S = [] := by
      cases S with
      | nil => rfl
      | cons s r => have := hS s (by simp); simp at this
    subst this
    exact hF cf n (Nat.le_refl _) (Agree.nil cf)

theorem acallE_ok {T : Table} : ∀ {n : Nat} {f : FuncId} {args : List Value} {h : Heap} {r : Value × Heap}, acallE P T n f args h = some r → acallN P T n (.fn f) args h = some r
  | 0, f, args, h, r, k => by simp [acallE] at k
  | n + 1, f, args, h, r, k => by
    simp only [acallE] at k
    simp only [acallN]
    cases hq : T f with
    | none => simp only [hq] at k ⊢; exact k
    | some a =>
      simp only [hq] at k ⊢
      exact runFnE_ok (fun f args h r q => acallE_ok q) k
end
end Go.Ax
