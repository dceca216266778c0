/- An abstract machine for Go programs: from the model's code to its own, and its runs (definitions). -/
import Derived.Test.YtpemffaclmpnnaaDoorXA
namespace Go.Ax

/-! ### from the model's code -/

def allPlain (l : List Value) : Bool := l.all plain

def tmpsOf (xs : List Operand) : List Nat := xs.filterMap fun | .tmp t => some t | _ => none

def isC : Operand → Bool
  | .const _ => true
  | _ => false

def zeroOf (P : Program) (t : TypeId) : Option (List Value) :=
  match P.info? t with
  | some i => match i.zero with | some z => if allPlain z.cells.toList then some z.cells.toList else none | none => none
  | none => none

def eqk (P : Program) (t : TypeId) (x y : Operand) : EqK :=
  match P.underlying t with
  | some .bool => .bool
  | some (.pointer e) => .ptr ((asize P e).getD 0)
  | some (.slice _) => .slice
  | some (.func _ _ _) => .func
  | some (.interface ms) => .iface (isC x || isC y || ms.isEmpty)
  | _ => .other

def partsOf (place : Nat → Option (Nat × Nat)) : List (Nat × Operand) → Option (List (Nat × Nat × Operand))
  | [] => some []
  | (i, x) :: r =>
    match place i, partsOf place r with
    | some (o, s), some l => some ((o, s, x) :: l)
    | _, _ => none

def placesOf (P : Program) : List Field → Option (List (Nat × Nat))
  | [] => some []
  | f :: r =>
    match asize P f.type, placesOf P r with
    | some s, some l => some ((f.offset, s) :: l)
    | _, _ => none

def isIntD : TypeDesc → Bool
  | .int _ => true
  | _ => false

def compCall (P : Program) (c : Call) : AOp :=
  match c.callee with
  | .value f => .call f c.args.toList
  | .invoke r n => .invoke r n c.args.toList
  | .builtin b =>
    match b, c.args.toList, c.argTypes.toList with
    | .len, x :: _, t :: _ =>
      match P.underlying t with
      | some .string => .lenS x
      | some (.slice _) => .len x
      | some (.array n _) => .lenC n
      | some (.pointer a) => match P.underlying a with | some (.array n _) => .lenC n | _ => .bad
      | _ => .bad
    | .cap, x :: _, t :: _ =>
      match P.underlying t with
      | some (.slice _) => .cap x
      | _ => .bad
    | .append, [s, x], [st, xt] =>
      match P.underlying st, P.underlying xt with
      | some (.slice e), some xd =>
        if isIntD xd then .bad else
        match P.info? e, zeroOf P e with
        | some i, some z => .app i.size i.bytes z s x
        | _, _ => .bad
      | _, _ => .bad
    | .copy, [d, s], t :: _ =>
      match P.underlying t with
      | some (.slice e) => match asize P e with | some n => .copy n d s | none => .bad
      | _ => .bad
    | .max, xs, _ => .mm true xs
    | .min, xs, _ => .mm false xs
    | _, _, _ => .bad

def u8Elem (P : Program) (e : TypeId) : Bool :=
  match P.underlying e with
  | some (.int .u8) => true
  | _ => false

def compOp (P : Program) (op : Op) : AOp :=
  match op with
  | .move x => .mv x
  | .assign x => .mv x
  | .pick c a b => .pick c a b
  | .alloc t => match zeroOf P t with | some z => .new z | none => .bad
  | .box _ x => .box x
  | .build t parts =>
    match P.underlying t, zeroOf P t with
    | some (.struct fields), some z =>
      match placesOf P fields.toList with
      | some pl => match partsOf (pl[·]?) parts.toList with | some l => .build z l | none => .bad
      | none => .bad
    | some (.array _ e), some z =>
      match asize P e with
      | some s => match partsOf (fun i => some (i * s, s)) parts.toList with | some l => .build z l | none => .bad
      | none => .bad
    | _, _ => .bad
  | .buildSlice t len parts =>
    match P.underlying t with
    | some (.slice e) =>
      match asize P e, zeroOf P e with
      | some s, some z =>
        if len * s ≤ 16777216 ∧ z.length = s ∧ len < gcap then
          match partsOf (fun i => some (i * s, s)) parts.toList with
          | some l => .lit len s (List.replicate len z).flatten l
          | none => .bad
        else .bad
      | _, _ => .bad
    | _ => .bad
  | .load t x => match aggOf P t with | some g => .load g x | none => .bad
  | .store t a x => match asize P t with | some n => .store n a x | none => .bad
  | .nilCheck x => .chk x
  | .binOp op t x y _ => .bin op t (eqk P t x y) x y
  | .unOp op _ x => .un op x
  | .convert s d x =>
    match P.underlying s, P.underlying d with
    | some _, some (.int k) => .convI k s d x
    | some .string, some (.slice e) => if u8Elem P e then .s2b x else .bad
    | some (.slice e), some .string => if u8Elem P e then .b2s x else .bad
    | some _, some _ => .conv s d x
    | _, _ => .bad
  | .makeInterface t x =>
    match P.underlying t with
    | some (.interface _) => .bad
    | some _ => .mkI t x
    | none => .bad
  | .makeFunc fn a b => match fn with | .yield _ => .bad | _ => .mkF fn a.toList b.toList
  | .makeSlice t l c =>
    match P.underlying t with
    | some (.slice e) =>
      match P.info? e, zeroOf P e with
      | some i, some z => .mkS i.size i.bytes z l c
      | _, _ => .bad
    | _ => .bad
  | .slice t x lo hi mx =>
    match P.underlying t with
    | some (.slice e) => match asize P e with | some s => .slc s x lo hi mx | none => .bad
    | some .string => if mx.isSome then .bad else .slcStr t x lo hi
    | some (.array n e) => match asize P e with | some s => if n < gcap then .slcArr n s x lo hi mx else .bad | none => .bad
    | _ => .bad
  | .fieldAddr t x i =>
    match P.underlying t with
    | some (.struct fields) =>
      match fields[i]? with
      | some f => match asize P f.type with | some s => if s = 0 then .bad else .fad f.offset x | none => .bad
      | none => .bad
    | _ => .bad
  | .field t x i =>
    match P.underlying t with
    | some (.struct fields) =>
      match fields[i]? with
      | some f => match aggOf P f.type with | some g => .fld g f.offset x | none => .bad
      | none => .bad
    | _ => .bad
  | .indexAddr t x i =>
    match P.underlying t with
    | some (.slice e) => match asize P e with | some s => .iadS s x i | none => .bad
    | some (.array n e) => match asize P e with | some s => .iadA n s x i | none => .bad
    | _ => .bad
  | .index t x i =>
    match P.underlying t with
    | some .string => .ixS x i
    | some (.array n e) =>
      match asize P e, aggOf P e with
      | some s, some g => .ixA n s g x i
      | _, _ => .bad
    | _ => .bad
  | .typeAssert x _ a ok =>
    match P.underlying a, P.info? a with
    | some (.interface ms), some i => match i.zero with | some z => if plain z then .asrt x a (some ms) z ok else .bad | none => .bad
    | some _, some i => match i.zero with | some z => if plain z then .asrt x a none z ok else .bad | none => .bad
    | _, _ => .bad
  | .extract x i => .extr x i
  | .call c => compCall P c
  | _ => .bad

/-- Does it act on memory (other than by reading)? -/
def isEff : AOp → Bool
  | .new _ | .box _ | .lit _ _ _ _ | .store _ _ _ | .s2b _ | .mkS _ _ _ _ _ | .call _ _ | .invoke _ _ _ | .app _ _ _ _ _ | .copy _ _ _ | .bad => true
  | _ => false

/-- For each operation of a region: what must be done before it (a set, as bits). -/
def befores (ops : List Oper) : List Nat :=
  ops.foldl (fun acc o => acc ++ [o.after.toList.foldl (fun s e => if Region.binds .any e then s ||| 2 ^ e.on ||| acc.getD e.on 0 else s) 0]) []

def compGuard (ops : Array Oper) (g : Option (Nat × Bool)) : Option (Option Nat × Bool) :=
  g.map fun (j, b) => ((ops[j]?).bind (·.dst), b)

def effOf (P : Program) (ops : Array Oper) : List Nat := (List.range ops.size).filter fun i => match ops[i]? with | some o => isEff (compOp P o.op) | none => false

def compOper (P : Program) (ops : Array Oper) (bs effs : List Nat) (i : Nat) (o : Oper) : AOper :=
  { dst := o.dst, op := compOp P o.op, guard := compGuard ops o.guard, eff := isEff (compOp P o.op)
    lo := (effs.takeWhile fun j => (bs.getD i 0).testBit j).length
    hi := (effs.takeWhile fun j => !(bs.getD j 0).testBit i).length }

def compOps (P : Program) (ops : Array Oper) : List AOper :=
  let bs := befores ops.toList
  let effs := effOf P ops
  ops.toList.mapIdx fun i o => compOper P ops bs effs i o

/-! may a region that draws its order be run in the text's order? -/

def usesOf (ops : Array Oper) (o : Oper) : List Nat :=
  tmpsOf o.op.operands.toList ++ (match o.guard with | some (j, _) => ((ops[j]?).bind (·.dst)).toList | none => [])

def isNewOp : Op → Bool
  | .alloc _ => true
  | _ => false

def effAt (P : Program) (ops : Array Oper) (i : Nat) : Bool := match ops[i]? with | some o => isEff (compOp P o.op) | none => false

def apartO (ops : Array Oper) (x y : Oper) : Bool :=
  (match x.dst with | some d => !(usesOf ops y).contains d && y.dst != some d | none => true) &&
  (match y.dst with | some d => !(usesOf ops x).contains d | none => true)

def pairOk (P : Program) (ops : Array Oper) (ord : Bool) (x y : Oper) : Bool :=
  ord || (apartO ops x y && (!isEff (compOp P x.op) || !isEff (compOp P y.op) || isNewOp y.op))

/-- A new block that may be made before an effect that stands ahead of it in the text. -/
def floats (P : Program) (ops : Array Oper) (b : Nat) (j : Nat) : Bool := (List.range j).any fun e => effAt P ops e && !b.testBit e

def looseOk (P : Program) (ops : Array Oper) (d : Nat) : Bool :=
  ops.toList.all fun o => (isEff (compOp P o.op) && !isNewOp o.op) || !(usesOf ops o).contains d

def drawOk (P : Program) (ops : Array Oper) : Bool :=
  let bs := befores ops.toList
  (List.range ops.size).all fun j =>
    match ops[j]? with
    | none => false
    | some y =>
      (y.after.toList.all fun e => !Region.binds .any e || decide (e.on < j)) &&
      ((List.range j).all fun i => match ops[i]? with | none => false | some x => pairOk P ops ((bs.getD j 0).testBit i) x y) &&
      (!isNewOp y.op || !floats P ops (bs.getD j 0) j || (match y.dst with | some d => looseOk P ops d | none => true))

/-! which slots are read later (only to forget the others: nothing rests on it) -/

def clear (m : Nat) (d : Option Nat) : Nat :=
  match d with
  | some d => if m.testBit d then m - 2 ^ d else m
  | none => m

def addBits (m : Nat) (l : List Nat) : Nat := l.foldl (fun m t => m ||| 2 ^ t) m

def liveOps (ops : Array Oper) (m : Nat) : Nat :=
  ops.toList.foldr (fun o m =>
    let m := if o.guard.isNone then clear m o.dst else m
    let m := match o.guard with | some (j, _) => addBits m ((ops[j]?).bind (·.dst)).toList | none => m
    addBits m (tmpsOf o.op.operands.toList)) m

def look (l : List (Nat × Nat)) (id : Nat) : Nat :=
  match l with
  | [] => 0
  | (i, m) :: r => if i = id then m else look r id

def live (all res : Nat) : Code → Nat → List (Nat × Nat) → Nat
  | .region _ ops _, L, _ => liveOps ops L
  | .seq a b, L, E => live all res a (live all res b L E) E
  | .cond c x y, L, E => addBits (live all res x L E ||| live all res y L E) (tmpsOf [c])
  | .block id b, L, E => live all res b L ((id, L) :: E)
  | .loop b, _, E => live all res b (live all res b (live all res b 0 E) E) E
  | .exit id, _, E => look E id
  | .ret, _, _ => res
  | .rangeFunc _ _ _ _, _, _ => all
  | _, L, _ => L

def comp (P : Program) (all res : Nat) : Code → Nat → List (Nat × Nat) → AC
  | .skip, _, _ => .skip
  | .label _, _, _ => .skip
  | .region _ ops draw, _, _ => if draw then (if drawOk P ops then .dops (compOps P ops) else .bad) else .ops (compOps P ops)
  | .seq a b, L, E => .seq (comp P all res a (live all res b L E) E) (comp P all res b L E)
  | .cond c x y, L, E => .cond c (comp P all res x L E) (comp P all res y L E)
  | .block id b, L, E => .block id (comp P all res b L ((id, L) :: E))
  | .loop b, _, E => .loop (live all res (.loop b) 0 E) (comp P all res b (live all res (.loop b) 0 E) E)
  | .exit id, _, _ => .exit id
  | .ret, _, _ => .ret
  | .rangeFunc f ps a b, _, _ => .rangeF f ps.toList (comp P all res a all []) (comp P all res b 0 [])
  | _, _, _ => .bad

inductive ARs where
  | tmp (t : Nat)
  | cell (a : Nat) (agg : Option Nat)

structure AFn where
  code : AC
  ntmps : Nat
  results : List ARs

def resOf (P : Program) : List ResultVar → Option (List ARs)
  | [] => some []
  | .tmp t :: r => (resOf P r).map (.tmp t :: ·)
  | .cell a t :: r => match aggOf P t, resOf P r with | some g, some l => some (.cell a g :: l) | _, _ => none

def compF (P : Program) (fn : Func) : Option AFn :=
  match fn.body, resOf P fn.results.toList with
  | some c, some rs => some
      { code := comp P (2 ^ fn.ntmps - 1) (addBits 0 (fn.results.toList.map fun | .tmp t => t | .cell a _ => a)) c (addBits 0 (fn.results.toList.map fun | .tmp t => t | .cell a _ => a)) []
        ntmps := fn.ntmps
        results := rs }
  | _, _ => none

/-! ### its runs -/

abbrev CF := Tgt → List Value → Heap → Option (Value × Heap)
abbrev Step := List Value → Heap → Option (Ex × List Value × Heap)

def runOp (P : Program) (cf : CF) (o : AOp) (t : List Value) (h : Heap) : Option (Value × Heap) :=
  match aop P h (evalT t) o with
  | some (.val v h') => some (v, h')
  | some (.call f args) => cf f args h
  | none => none

def putT (t : List Value) (d : Option Nat) (v : Value) : List Value :=
  match d with
  | some d => t.set d v
  | none => t

def wantedA (t : List Value) : Option (Option Nat × Bool) → Option Bool
  | none => some true
  | some (d, b) =>
    match d.bind (t[·]?) with
    | some (.bool c) => some (c == b)
    | some (.chan none) => some false
    | _ => none

def runOps (P : Program) (cf : CF) : List AOper → List Value → Heap → Option (List Value × Heap)
  | [], t, h => some (t, h)
  | o :: r, t, h =>
    match wantedA t o.guard with
    | some true =>
      match runOp P cf o.op t h with
      | some (v, h') => runOps P cf r (putT t o.dst v) h'
      | none => none
    | some false => runOps P cf r (putT t o.dst skipV) h
    | none => none

end Go.Ax
