/- An abstract machine for Go programs: its runs (definitions). -/
import Derived.Test.YtpemffaclmpnnaaDoorXC
namespace Go.Ax

def veqN : Nat → Value → Value → Bool
  | _, .bool a, .bool b => a == b
  | _, .int k a, .int k' b => k == k' && a == b
  | _, .float k a, .float k' b => k == k' && a == b
  | _, .string a, .string b => a.data.toList == b.data.toList
  | _, .pointer a, .pointer b => a == b
  | _, .slice a l c, .slice b l' c' => a == b && l == l' && c == c'
  | _, .nilFunc, .nilFunc => true
  | _, .nilIface, .nilIface => true
  | n + 1, .iface t a, .iface u b => t == u && veqN n a b
  | n + 1, .agg a, .agg b => a.size == b.size && (a.toList.zip b.toList).all fun (x, y) => veqN n x y
  | n + 1, .tuple a, .tuple b => a.size == b.size && (a.toList.zip b.toList).all fun (x, y) => veqN n x y
  | n + 1, .func f a b, .func f' a' b' => f == f' && a.size == a'.size && b.size == b'.size && ((a.toList.zip a'.toList).all fun (x, y) => veqN n x y) && (b.toList.zip b'.toList).all fun (x, y) => veqN n x y
  | _, _, _ => false

/-- Does what it answers hang on memory? -/
def useHeap : AOp → Bool
  | .load _ _ => true
  | .slc _ _ _ _ _ => true
  | .b2s _ => true
  | .bin _ _ (.ptr _) _ _ => true
  | op => isEff op

def same (P : Program) (op : AOp) (t : List Value) (v : Value) (h : Heap) : Bool :=
  !useHeap op ||
  match aop P h (evalT t) op with
  | some (.val v' _) => veqN 6 v v'
  | _ => false

/-- A region that draws its order, run in the text's order; what only reads is looked at again at every state of the memory that it could meet. -/
def drun (P : Program) (cf : CF) : List AOper → List Heap → List (AOper × List Value × Value) → Nat → List Value → Heap → Option (List Value × Heap)
  | [], _, _, _, t, h => some (t, h)
  | o :: r, past, pend, m, t, h =>
    match wantedA t o.guard with
    | some true =>
      match runOp P cf o.op t h with
      | some (v, h') =>
        if o.eff then
          if pend.all fun (p, tp, vp) => p.hi < m + 1 || same P p.op tp vp h' then
            drun P cf r (h :: past) pend (m + 1) (putT t o.dst v) h'
          else none
        else if (past.take (m - o.lo)).all (same P o.op t v) then
          drun P cf r past ((o, t, v) :: pend) m (putT t o.dst v) h'
        else none
      | none => none
    | some false => if o.eff then drun P cf r (h :: past) pend (m + 1) (putT t o.dst skipV) h else drun P cf r past pend m (putT t o.dst skipV) h
    | none => none

def forget (keep : Nat) (t : List Value) : List Value := t.mapIdx fun i v => if keep.testBit i then v else undef

def loopN (keep : Nat) (body : Step) : Nat → Step
  | 0, _, _ => none
  | n + 1, t, h =>
    match body (forget keep t) h with
    | some (.normal, t', h') => loopN keep body n t' h'
    | r => r

def aexec (P : Program) (cf : CF) (n : Nat) : AC → Step
  | .skip, t, h => some (.normal, t, h)
  | .ops l, t, h => (runOps P cf l t h).map fun (t', h') => (.normal, t', h')
  | .dops l, t, h => (drun P cf l [] [] 0 t h).map fun (t', h') => (.normal, t', h')
  | .seq a b, t, h =>
    match aexec P cf n a t h with
    | some (.normal, t', h') => aexec P cf n b t' h'
    | r => r
  | .cond c a b, t, h =>
    match evalT t c with
    | .bool true => aexec P cf n a t h
    | .bool false => aexec P cf n b t h
    | _ => none
  | .block id b, t, h =>
    match aexec P cf n b t h with
    | some (.exit i, t', h') => if i = id then some (.normal, t', h') else some (.exit i, t', h')
    | r => r
  | .loop keep b, t, h => loopN keep (aexec P cf n b) n t h
  | .rangeF f ps as bd, t, h =>
    match acallee (evalT t f) [.func (.yield h.lps.length) #[] #[]] with
    | some (.call (.fn f') args) =>
      if ((P.funcs[f']?).any (·.body.isSome)) = false then none else
      match cf (.fn f') args { h with lps := h.lps ++ [{ state := .ready, pending := none, tmps := t, params := ps, assign := as, body := bd }] } with
      | some (_, h2) =>
        match h2.lps[h.lps.length]? with
        | some lp =>
          if lp.state = .busy then none
          else some (lp.pending.getD .normal, t, { h2 with lps := h2.lps.set h.lps.length { lp with state := .exhausted } })
        | none => none
      | none => none
    | _ => none
  | .exit id, t, h => some (.exit id, t, h)
  | .ret, t, h => some (.ret, t, h)
  | .bad, _, _ => none

def resVals (t : List Value) (h : Heap) : List ARs → Option (List Value)
  | [] => some []
  | .tmp i :: r =>
    match resVals t h r with
    | some l => some (t.getD i undef :: l)
    | none => none
  | .cell i agg :: r =>
    match t.getD i undef, resVals t h r with
    | .pointer (some a), some l => match aload h agg a with | some v => some (v :: l) | none => none
    | _, _ => none

def oneOf : List Value → Value
  | [v] => v
  | l => .tuple l.toArray

/-- A function's run from its code. -/
def runFn (P : Program) (cf : CF) (n : Nat) (f : AFn) (args : List Value) (h : Heap) : Option (Value × Heap) :=
  match aexec P cf n f.code (args ++ List.replicate (f.ntmps - args.length) undef) h with
  | some (.exit _, _, _) => none
  | some (_, t, h') => (resVals t h' f.results).map fun l => (oneOf l, h')
  | none => none

def numG : String := "runtime.NumGoroutine"

/-- A function of the library without a body in Go, at values without addresses. -/
def runExt (P : Program) (f : FuncId) (args : List Value) (h : Heap) : Option (Value × Heap) :=
  match P.funcs[f]? with
  | some fn =>
    if fn.body.isNone && !(fn.name == numG) && (Extern.findNext fn).isNone && args.all plain then
      match Extern.find fn with
      | some e => (pures P (e args.toArray)).map fun v => (v, h)
      | none => none
    else none
  | none => none

/-- A round of a loop over a function. -/
def runYield (P : Program) (cf : CF) (n : Nat) (l : Nat) (args : List Value) (h : Heap) : Option (Value × Heap) :=
  match h.lps[l]? with
  | none => none
  | some p =>
    if args.length ≠ p.params.length then none else
    match aexec P cf n p.assign ((p.params.zip args).foldl (fun t (i, v) => t.set i v) p.tmps) h with
    | some (.normal, t1, h1) =>
      match h1.lps[l]? with
      | none => none
      | some p1 =>
        if p1.state ≠ .ready then none else
        match aexec P cf n p.body t1 { h1 with lps := h1.lps.set l { p1 with state := .busy } } with
        | none => none
        | some (e, _, h3) =>
          match h3.lps[l]? with
          | none => none
          | some p3 =>
            if e = .normal then some (.bool true, { h3 with lps := h3.lps.set l { p3 with state := .ready, pending := none } })
            else some (.bool false, { h3 with lps := h3.lps.set l { p3 with state := .done, pending := some e } })
    | _ => none

abbrev Table := FuncId → Option AFn

def acallN (P : Program) (T : Table) : Nat → CF
  | 0, _, _, _ => none
  | n + 1, .fn f, args, h =>
    match T f with
    | some a => runFn P (acallN P T n) n a args h
    | none => runExt P f args h
  | n + 1, .yield l, args, h => runYield P (acallN P T n) n l args h

/-- The table says of each function what its code comes to. -/
def TableOk (P : Program) (T : Table) : Prop := ∀ f a, T f = some a → ∃ fn, P.funcs[f]? = some fn ∧ compF P fn = some a ∧ fn.body.isSome = true ∧ (fn.name == numG) = false

end Go.Ax
