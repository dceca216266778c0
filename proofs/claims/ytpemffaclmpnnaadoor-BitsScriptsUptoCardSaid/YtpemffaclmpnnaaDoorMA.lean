/- An abstract machine for Go programs: its memory, its operations, its runs (definitions). -/
import Derived.Calls
import Derived.Below
namespace Go.Ax

/-! ### values: those of the model, with abstract addresses.
An address with spot 'some v' lies in block 'block' of the abstract memory, seen at version v; one without a spot lies in memory that is only read.
A slice's capacity from gcap on says that it is not known. -/

def gcap : Nat := 18446744073709551616

structure Blk where
  cells : List Value
  sizes : List Nat
  dead : Nat
  es : Nat

inductive LState where
  | ready | busy | done | exhausted
  deriving DecidableEq

inductive Ex where
  | normal | exit (i : Nat) | ret
  deriving DecidableEq

/-! ### the code: what the model's code comes to, its types looked up -/

/-- How two values of a type are compared. -/
inductive EqK where
  | bool | ptr (es : Nat) | slice | func | iface (lit : Bool) | other
  deriving DecidableEq

inductive AOp where
  | mv (x : Operand)
  | pick (c a b : Operand)
  | new (cells : List Value)
  | box (x : Operand)
  | build (zero : List Value) (parts : List (Nat × Nat × Operand))
  | lit (len es : Nat) (zero : List Value) (parts : List (Nat × Nat × Operand))
  | load (agg : Option Nat) (x : Operand)
  | store (n : Nat) (a x : Operand)
  | chk (x : Operand)
  | bin (op : BinOp) (t : TypeId) (q : EqK) (x y : Operand)
  | un (op : UnOp) (x : Operand)
  | convI (k : IntKind) (s d : TypeId) (x : Operand)
  | conv (s d : TypeId) (x : Operand)
  | s2b (x : Operand)
  | b2s (x : Operand)
  | mkI (t : TypeId) (x : Operand)
  | mkF (fn : Fn) (first captured : List Operand)
  | mkS (es bytes : Nat) (zero : List Value) (l c : Operand)
  | slc (es : Nat) (x : Operand) (lo hi mx : Option Operand)
  | slcStr (t : TypeId) (x : Operand) (lo hi : Option Operand)
  | slcArr (n es : Nat) (x : Operand) (lo hi mx : Option Operand)
  | fad (off : Nat) (x : Operand)
  | fld (agg : Option Nat) (off : Nat) (x : Operand)
  | iadS (es : Nat) (x i : Operand)
  | iadA (n es : Nat) (x i : Operand)
  | ixA (n es : Nat) (agg : Option Nat) (x i : Operand)
  | ixS (x i : Operand)
  | asrt (x : Operand) (t : TypeId) (want : Option (Array (String × TypeId))) (zero : Value) (ok : Bool)
  | extr (x : Operand) (i : Nat)
  | call (f : Operand) (args : List Operand)
  | invoke (r : Operand) (name : String) (args : List Operand)
  | len (x : Operand)
  | lenS (x : Operand)
  | lenC (n : Nat)
  | cap (x : Operand)
  | app (es bytes : Nat) (zero : List Value) (s x : Operand)
  | copy (es : Nat) (d s : Operand)
  | mm (mx : Bool) (args : List Operand)
  | bad

/-- One operation: where its answer goes, what must hold that it be done; 'at' and 'to': in a region that draws its order, between how many effects it may fall. -/
structure AOper where
  dst : Option Nat
  op : AOp
  guard : Option (Option Nat × Bool)
  eff : Bool
  lo : Nat
  hi : Nat

inductive AC where
  | skip
  | ops (l : List AOper)
  | dops (l : List AOper)
  | seq (a b : AC)
  | cond (c : Operand) (a b : AC)
  | block (id : Nat) (b : AC)
  | loop (keep : Nat) (b : AC)
  | rangeF (f : Operand) (params : List Nat) (assign body : AC)
  | exit (id : Nat)
  | ret
  | bad

/-- A loop over a function: where it stands, how it is to be left, the frame's slots. -/
structure Lp where
  state : LState
  pending : Option Ex
  tmps : List Value
  params : List Nat
  assign : AC
  body : AC

structure Heap where
  ro : Nat → Nat → Option Value
  dyn : List Blk
  lps : List Lp

/-- A value that one cell can hold. -/
def goodC : Value → Bool
  | .tuple _ | .agg _ | .chan _ => false
  | _ => true

/-- A value whose cells are known. -/
def good : Value → Bool
  | .tuple _ | .chan _ => false
  | _ => true

def skipV : Value := .chan none

/-- Some number that is none (of 64 bits): which bits it has is not known. -/
def nanV : Value := .chan (some 0)

/-- Some value that one cell holds: which it is is not known. -/
def cellV : Value := .map (some 0)

def aadd (a : Addr) (n : Nat) : Addr := { block := a.block, off := a.off + n, spot := a.spot }

def hload (h : Heap) (a : Addr) : Option Value :=
  match a.spot with
  | none => h.ro a.block a.off
  | some v =>
    match h.dyn[a.block]? with
    | some k => if k.dead ≤ v ∧ a.off < k.sizes.getD v 0 then k.cells[a.off]? else none
    | none => none

def hstore (h : Heap) (a : Addr) (x : Value) : Option Heap :=
  match a.spot with
  | none => none
  | some v =>
    match h.dyn[a.block]? with
    | some k =>
      if v + 1 = k.sizes.length ∧ a.off < k.cells.length ∧ k.dead ≤ v ∧ goodC x = true then
        some { h with dyn := h.dyn.set a.block { k with cells := k.cells.set a.off x, dead := v } }
      else none
    | none => none

def hnew (h : Heap) (cells : List Value) (es : Nat) : Heap :=
  { h with dyn := h.dyn ++ [{ cells := cells, sizes := [cells.length], dead := 0, es := es }] }

/-- The address of the next new block. -/
def hnext (h : Heap) : Addr := ⟨h.dyn.length, 0, some 0⟩

def loadN (h : Heap) (a : Addr) : Nat → Option (List Value)
  | 0 => some []
  | n + 1 =>
    match hload h a with
    | some v =>
      match loadN h (aadd a 1) n with
      | some r => some (v :: r)
      | none => none
    | none => none

def storeN (h : Heap) (a : Addr) : List Value → Option Heap
  | [] => some h
  | v :: r =>
    match hstore h a v with
    | some h' => storeN h' (aadd a 1) r
    | none => none

/-- No address in it (to a depth that all texts keep). -/
def plainN : Nat → Value → Bool
  | _, .bool _ => true
  | _, .int _ _ => true
  | _, .float _ _ => true
  | _, .complex _ _ _ => true
  | _, .string _ => true
  | _, .pointer none => true
  | _, .nilFunc => true
  | _, .nilIface => true
  | _, .slice none l c => l == 0 && c == 0
  | n + 1, .iface _ v => plainN n v
  | n + 1, .agg cs => cs.toList.all (plainN n)
  | n + 1, .tuple cs => !cs.isEmpty && cs.toList.all (plainN n)
  | _, _ => false

def plain (v : Value) : Bool := plainN 12 v

/-- A computation of the model that asks nothing but the program. -/
def apure {α : Type} (P : Program) : Sem α → Option α
  | .pure a => some a
  | .program k => apure P (k P)
  | .mark _ k => apure P k
  | _ => none

def pures (P : Program) (s : Sem Value) : Option Value :=
  match apure P s with
  | some v => if plain v then some v else none
  | none => none

/-! ### the operations on values -/

def evalT (t : List Value) : Operand → Value
  | .tmp i => t.getD i undef
  | .const v => if plain v then v else undef
  | .global g => if g < 4294967296 then .pointer (some ⟨g, 0, none⟩) else undef
  | .func f => .func (.func f) #[] #[]

def abin (op : BinOp) (k : IntKind) (a b : Int) : Option Value :=
  match op with
  | .add => some (.int k (k.wrap (a + b)))
  | .sub => some (.int k (k.wrap (a - b)))
  | .mul => some (.int k (k.wrap (a * b)))
  | .quo => if b = 0 then none else some (.int k (k.wrap (a.tdiv b)))
  | .rem => if b = 0 then none else some (.int k (a.tmod b))
  | .and => some (.int k (k.wrap (BitVec.ofInt k.bits a &&& BitVec.ofInt k.bits b).toNat))
  | .or => some (.int k (k.wrap (BitVec.ofInt k.bits a ||| BitVec.ofInt k.bits b).toNat))
  | .xor => some (.int k (k.wrap (BitVec.ofInt k.bits a ^^^ BitVec.ofInt k.bits b).toNat))
  | .andNot => some (.int k (k.wrap (BitVec.ofInt k.bits a &&& ~~~BitVec.ofInt k.bits b).toNat))
  | .eql => some (.bool (a == b))
  | .neq => some (.bool (a != b))
  | .lss => some (.bool (a < b))
  | .leq => some (.bool (a ≤ b))
  | .gtr => some (.bool (a > b))
  | .geq => some (.bool (a ≥ b))
  | .shl => if b < 0 then none else some (.int k (k.wrap (a * 2 ^ min b.toNat k.bits)))
  | .shr => if b < 0 then none else some (.int k (a.fdiv (2 ^ min b.toNat k.bits)))

def plainBlk (h : Heap) (b : Nat) : Bool :=
  match h.dyn[b]? with
  | some k => k.es == 0
  | none => false

/-- Two addresses alike? -/
def sameA (h : Heap) (a b : Addr) : Option Bool :=
  match a.spot, b.spot with
  | some v, some u =>
    if a.block = b.block then (if v = u then some (a.off == b.off) else none)
    else if (hload h a).isSome && (hload h b).isSome && plainBlk h a.block && plainBlk h b.block then some false else none
  | _, _ => none

/-- Two values alike, where the program need not be asked. -/
def aeq (h : Heap) (q : EqK) (x y : Value) : Option Bool :=
  match q, x, y with
  | .bool, .bool a, .bool b => some (a == b)
  | .ptr _, .pointer none, .pointer none => some true
  | .ptr _, .pointer (some _), .pointer none => some false
  | .ptr _, .pointer none, .pointer (some _) => some false
  | .ptr es, .pointer (some a), .pointer (some b) => if es = 0 then none else sameA h a b
  | .slice, .slice none _ _, .slice none _ _ => some true
  | .slice, .slice (some _) _ _, .slice none _ _ => some false
  | .slice, .slice none _ _, .slice (some _) _ _ => some false
  | .func, .nilFunc, .nilFunc => some true
  | .func, .nilFunc, .func _ _ _ => some false
  | .func, .func _ _ _, .nilFunc => some false
  | .iface lit, .nilIface, .nilIface => if lit then some true else none
  | .iface _, .nilIface, .iface _ _ => some false
  | .iface _, .iface _ _, .nilIface => some false
  | .iface _, .iface s _, .iface u _ => if s = u then none else some false
  | _, _, _ => none

def abinP (P : Program) (op : BinOp) (t : TypeId) (xo yo : Operand) (x y : Value) : Option Value :=
  if plain x && plain y then pures P (do eqGuard op t xo yo x y; binOp op t x y) else none

/-- A number that is none is unlike any. -/
def nanNeq : Value → Value → Option Value
  | .chan (some 0), .float .f64 _ => some (.bool true)
  | _, _ => none

/-- A difference that is no number. -/
def nanSub : Value → Value → Option Value
  | .float .f64 a, .float .f64 b => if Ieee.double.sub a b = none then some nanV else none
  | _, _ => none

def abinop (P : Program) (h : Heap) (op : BinOp) (t : TypeId) (q : EqK) (xo yo : Operand) (x y : Value) : Option Value :=
  match x, y with
  | .int k a, .int k' b => if op = .shl ∨ op = .shr ∨ k = k' then abin op k a b else none
  | x, y =>
    match op with
    | .eql => match aeq h q x y with | some b => some (.bool b) | none => abinP P .eql t xo yo x y
    | .neq => match aeq h q x y with | some b => some (.bool (!b)) | none => match abinP P .neq t xo yo x y with | some v => some v | none => nanNeq x y
    | .sub => match abinP P .sub t xo yo x y with | some v => some v | none => nanSub x y
    | op => abinP P op t xo yo x y

def aun (P : Program) (op : UnOp) (x : Value) : Option Value :=
  match op, x with
  | .neg, .int k n => some (.int k (k.wrap (0 - n)))
  | .xor, .int k n => abin .xor k (if k.signed then -1 else k.max) n
  | .not, .bool b => some (.bool (!b))
  | op, x => if plain x then pures P (Op.unary op x) else none

def asliceBound (x : Value) (y : Nat) : Option Nat :=
  match x with
  | .int _ i => if 0 ≤ i ∧ i ≤ y then some i.toNat else none
  | _ => none

def optBound (x : Option Value) (y d : Nat) : Option Nat :=
  match x with
  | some v => asliceBound v y
  | none => some d

/-- How far a slice of unknown capacity may be cut: its block's end, at the newest version. -/
def topOf (h : Heap) (es : Nat) (a : Addr) (len : Nat) : Nat :=
  match a.spot with
  | none => len
  | some v =>
    match h.dyn[a.block]? with
    | some k => if v + 1 = k.sizes.length ∧ k.es = es ∧ 0 < es ∧ k.dead ≤ v then (k.cells.length - a.off) / es else len
    | none => len

def esOk (h : Heap) (es : Nat) (a : Addr) : Bool :=
  match a.spot with
  | none => true
  | some _ =>
    match h.dyn[a.block]? with
    | some k => k.es == es
    | none => false

/-- Cutting a slice whose capacity is known. -/
def cutK (es : Nat) (a : Option Addr) (len cap : Nat) (lo hi mx : Option Value) : Option Value :=
  match optBound mx cap cap with
  | none => none
  | some m =>
    if mx.isSome && hi.isNone then none else
    match optBound hi m len with
    | none => none
    | some u =>
      match optBound lo u 0 with
      | none => none
      | some l => some (.slice (if m = l then a else a.map (aadd · (l * es))) (u - l) (m - l))

def aslice (h : Heap) (es : Nat) (x : Value) (lo hi mx : Option Value) : Option Value :=
  match x with
  | .slice none len cap => if len = 0 ∧ cap = 0 then cutK es none len cap lo hi mx else none
  | .slice (some a) len cap =>
    if cap < gcap then cutK es (some a) len cap lo hi mx
    else if mx.isSome then none
    else if cap ≠ gcap then (if hi.isNone && lo.isNone then some x else none)
    else
      match optBound hi (if hi.isNone then len else max len (topOf h es a len)) len with
      | none => none
      | some u =>
        match optBound lo u 0 with
        | none => none
        | some l =>
          if l = 0 then some (.slice (some a) u gcap)
          else if l < u then (if esOk h es a then some (.slice (some (aadd a (l * es))) (u - l) gcap) else none)
          else some (.slice (some ⟨0, 0, none⟩) 0 (gcap + 1))
  | _ => none

def apart (agg : Option Nat) (cs : Array Value) (off : Nat) : Option Value :=
  match agg with
  | some n => some (.agg (cs.extract off (off + n)))
  | none => cs[off]?

def fillL (cells : List Value) : List (Nat × Nat × Value) → Option (List Value)
  | [] => some cells
  | (off, size, v) :: r =>
    if good v = false ∨ v.cells.size ≠ size ∨ off + v.cells.size > cells.length then none
    else fillL (cells.take off ++ v.cells.toList ++ cells.drop (off + size)) r

def slen : Value → Option Nat
  | .slice _ n _ => some n
  | .string s => some s.size
  | _ => none

def byteCells (l : List UInt8) : List Value := l.map fun b => .int .u8 b.toNat

def firstN (h : Heap) (es n : Nat) : Value → Option (List Value)
  | .slice (some a) _ _ => loadN h a (n * es)
  | .slice none _ _ => some []
  | .string s => some (byteCells (s.data.toList.take n))
  | _ => none

/-- The end of an append that may need a new block. -/
def appNew (h : Heap) (es bytes : Nat) (old new : List Value) (n : Nat) : Option (Value × Heap) :=
  if n * bytes ≤ 140737488355328 ∧ n ≤ 140737488355328 then
    some (.slice (some (hnext h)) n gcap, hnew h (old ++ new) es)
  else none

def aappend (h : Heap) (es bytes : Nat) (zero : List Value) (s x : Value) : Option (Value × Heap) :=
  match s, slen x with
  | .slice base len cap, some n =>
    match firstN h es n x with
    | none => none
    | some new =>
      if n = 0 then (if cap < len then none else some (.slice base len cap, h))
      else if zero.length ≠ es ∨ new.length ≠ n * es ∨ new.all goodC = false then none
      else
        match base with
        | none => if len = 0 ∧ cap = 0 then appNew h es bytes [] new n else none
        | some a =>
          if cap < gcap then
            if len + n ≤ cap then
              match storeN h (aadd a (len * es)) new with
              | some h' => some (.slice (some a) (len + n) cap, h')
              | none => none
            else
              match loadN h a (len * es) with
              | some old => appNew h es bytes old new (len + n)
              | none => none
          else if cap = gcap ∧ a.off = 0 ∧ (len + n) * bytes ≤ 140737488355328 ∧ len + n ≤ 140737488355328 then
            match a.spot with
            | none => none
            | some v =>
              match h.dyn[a.block]? with
              | some k =>
                if v + 1 = k.sizes.length ∧ k.es = es ∧ len * es = k.cells.length ∧ k.dead ≤ v then
                  some (.slice (some ⟨a.block, 0, some (v + 1)⟩) (len + n) gcap,
                    { h with dyn := h.dyn.set a.block { k with cells := k.cells ++ new, sizes := k.sizes ++ [(len + n) * es] } })
                else none
              | none => none
          else none
  | _, _ => none

def acopy (h : Heap) (es : Nat) (d s : Value) : Option (Value × Heap) :=
  match d, slen s with
  | .slice base dl _, some sl =>
    match firstN h es (min sl dl) s with
    | none => none
    | some new =>
      match base with
      | none => some (.int .i64 (min sl dl : Nat), h)
      | some a =>
        match storeN h a new with
        | some h' => some (.int .i64 (min sl dl : Nat), h')
        | none => none
  | _, _ => none

def bytesOf : List Value → Option (List UInt8)
  | [] => some []
  | .int .u8 n :: r => (bytesOf r).map (UInt8.ofNat n.toNat :: ·)
  | _ :: _ => none

/-- What a method's name at a value comes to: the function, and its receiver. -/
inductive APl where
  | val (v : Value)
  | var (a : Addr)

def asize (P : Program) (t : TypeId) : Option Nat := (P.info? t).map (·.size)

def isAggD : TypeDesc → Bool
  | .struct _ | .array _ _ => true
  | _ => false

/-- How a variable of a type is read: its cells at once, or its one cell. -/
def aggOf (P : Program) (t : TypeId) : Option (Option Nat) :=
  match P.underlying t with
  | some d => if isAggD d then (match asize P t with | some n => some (some n) | none => none) else some none
  | none => none

def aload (h : Heap) (agg : Option Nat) (a : Addr) : Option Value :=
  match agg with
  | some n => (loadN h a n).map fun l => .agg l.toArray
  | none => hload h a

def APl.get (P : Program) (h : Heap) (t : TypeId) : APl → Option Value
  | .val v => some v
  | .var a => match aggOf P t with | some g => aload h g a | none => none

def afollow (P : Program) (h : Heap) : List FieldStep → TypeId → APl → Option (TypeId × APl)
  | [], t, x => some (t, x)
  | s :: rest, t, x =>
    match P.underlying s.struct with
    | some (.struct fields) =>
      match fields[s.index]? with
      | some f =>
        if s.deref then
          match x.get P h t with
          | some (.pointer (some a)) => if (asize P f.type).getD 0 = 0 then none else afollow P h rest f.type (.var (aadd a f.offset))
          | _ => none
        else
          match x with
          | .var a => if (asize P f.type).getD 0 = 0 then none else afollow P h rest f.type (.var (aadd a f.offset))
          | .val (.agg cs) =>
            match aggOf P f.type with
            | some g => match apart g cs f.offset with | some v => afollow P h rest f.type (.val v) | none => none
            | none => none
          | .val _ => none
      | none => none
    | _ => none

def arecv (P : Program) (h : Heap) (xt : TypeId) (x : APl) (ptr : Bool) : Option Value :=
  match P.underlying xt with
  | none => none
  | some (.pointer elem) =>
    if ptr then x.get P h xt
    else
      match x.get P h xt with
      | some (.pointer (some a)) => match aggOf P elem with | some g => aload h g a | none => none
      | _ => none
  | some _ =>
    if ptr then (match x with | .var a => some (.pointer (some a)) | .val _ => none)
    else x.get P h xt

def amethod (P : Program) (h : Heap) (t : TypeId) (v : Value) (name : String) : Option (FuncId × Value) :=
  match P.info? t with
  | none => none
  | some i =>
    match i.methods.find? (·.name == name) with
    | none => none
    | some m =>
      match afollow P h m.path.toList t (.val v) with
      | none => none
      | some (xt, x) =>
        match m.func with
        | none => none
        | some (f, ptr) => (arecv P h xt x ptr).map fun r => (f, r)

inductive Tgt where
  | fn (f : FuncId)
  | yield (l : Nat)

inductive ARes where
  | val (v : Value) (h : Heap)
  | call (f : Tgt) (args : List Value)

def toVal (h : Heap) : Option Value → Option ARes
  | some v => some (.val v h)
  | none => none

def toRes : Option (Value × Heap) → Option ARes
  | some (v, h) => some (.val v h)
  | none => none

def acallee (f : Value) (args : List Value) : Option ARes :=
  match f with
  | .func (.func id) first captured => some (.call (.fn id) (first.toList ++ args ++ captured.toList))
  | .func (.yield l) first captured => if captured.size = 0 then some (.call (.yield l) (first.toList ++ args)) else none
  | _ => none

def aop (P : Program) (h : Heap) (ρ : Operand → Value) : AOp → Option ARes
  | .mv x => some (.val (ρ x) h)
  | .pick c a b => match ρ c with | .bool true => some (.val (ρ a) h) | .bool false => some (.val (ρ b) h) | _ => none
  | .new cells => some (.val (.pointer (some (hnext h))) (hnew h cells 0))
  | .box x => if good (ρ x) then some (.val (.pointer (some (hnext h))) (hnew h (ρ x).cells.toList 0)) else none
  | .build zero parts =>
    match fillL zero (parts.map fun (o, s, x) => (o, s, ρ x)) with
    | some l => some (.val (.agg l.toArray) h)
    | none => none
  | .lit len es zero parts =>
    match fillL zero (parts.map fun (o, s, x) => (o, s, ρ x)) with
    | some l => some (.val (.slice (some (hnext h)) len len) (hnew h l es))
    | none => none
  | .load agg x => match ρ x with | .pointer (some a) => toVal h (aload h agg a) | _ => none
  | .store n a x =>
    match ρ a with
    | .pointer (some p) =>
      if good (ρ x) = true ∧ (ρ x).cells.size = n then
        match storeN h p (ρ x).cells.toList with
        | some h' => some (.val undef h')
        | none => none
      else none
    | _ => none
  | .chk x =>
    match ρ x with
    | .pointer (some a) => some (.val (.pointer (some a)) h)
    | .iface t v => some (.val (.iface t v) h)
    | .func (.func f) a b => some (.val (.func (.func f) a b) h)
    | .func (.yield f) a b => some (.val (.func (.yield f) a b) h)
    | _ => none
  | .bin op t q x y => toVal h (abinop P h op t q x y (ρ x) (ρ y))
  | .un op x => toVal h (aun P op (ρ x))
  | .convI k s d x =>
    match ρ x with
    | .int _ n => some (.val (.int k (k.wrap n)) h)
    | x => if plain x then toVal h (pures P (convert s d x)) else none
  | .conv s d x => if plain (ρ x) then toVal h (pures P (convert s d (ρ x))) else none
  | .s2b x =>
    match ρ x with
    | .string s => some (.val (.slice (some (hnext h)) s.size gcap) (hnew h (byteCells s.data.toList) 1))
    | _ => none
  | .b2s x =>
    match ρ x with
    | .slice none _ _ => some (.val (.string .empty) h)
    | .slice (some a) len _ =>
      match loadN h a len with
      | some l => match bytesOf l with | some b => some (.val (.string ⟨b.toArray⟩) h) | none => none
      | none => none
    | _ => none
  | .mkI t x => some (.val (.iface t (ρ x)) h)
  | .mkF fn first captured => some (.val (.func fn (first.map ρ).toArray (captured.map ρ).toArray) h)
  | .mkS es bytes zero l c =>
    match ρ l, ρ c with
    | .int .i64 l, .int .i64 c =>
      if 0 ≤ l ∧ l ≤ c ∧ c * bytes ≤ 140737488355328 ∧ c ≤ 140737488355328 ∧ zero.length = es then
        some (.val (.slice (some (hnext h)) l.toNat c.toNat) (hnew h (List.replicate c.toNat zero).flatten es))
      else none
    | _, _ => none
  | .slc es x lo hi mx => toVal h (aslice h es (ρ x) (lo.map ρ) (hi.map ρ) (mx.map ρ))
  | .slcStr _ x lo hi =>
    match ρ x with
    | .string s =>
      match optBound (hi.map ρ) s.size s.size with
      | none => none
      | some u =>
        match optBound (lo.map ρ) u 0 with
        | none => none
        | some l => some (.val (.string (s.extract l u)) h)
    | _ => none
  | .slcArr n es x lo hi mx =>
    match ρ x with
    | .pointer (some a) => toVal h (cutK es (some a) n n (lo.map ρ) (hi.map ρ) (mx.map ρ))
    | _ => none
  | .fad off x => match ρ x with | .pointer (some a) => some (.val (.pointer (some (aadd a off))) h) | _ => none
  | .fld agg off x => match ρ x with | .agg cs => toVal h (apart agg cs off) | _ => none
  | .iadS es x i =>
    match ρ x, ρ i with
    | .slice (some a) len _, .int _ i => if 0 ≤ i ∧ i < len then some (.val (.pointer (some (aadd a (i.toNat * es)))) h) else none
    | _, _ => none
  | .iadA n es x i =>
    match ρ x, ρ i with
    | .pointer (some a), .int _ i => if 0 ≤ i ∧ i < n then some (.val (.pointer (some (aadd a (i.toNat * es)))) h) else none
    | _, _ => none
  | .ixA n es agg x i =>
    match ρ x, ρ i with
    | .agg cs, .int _ i => if 0 ≤ i ∧ i < n then toVal h (apart agg cs (i.toNat * es)) else none
    | _, _ => none
  | .ixS x i =>
    match ρ x, ρ i with
    | .string s, .int _ i =>
      if 0 ≤ i then (match s.data.toList[i.toNat]? with | some b => some (.val (.int .u8 b.toNat) h) | none => none) else none
    | _, _ => none
  | .asrt x t want zero ok =>
    let fails : Option ARes := if ok then some (.val (.tuple #[zero, .bool false]) h) else none
    match ρ x, want with
    | .nilIface, _ => fails
    | .iface s v, none =>
      if s = t then some (.val (if ok then .tuple #[v, .bool true] else v) h) else fails
    | .iface s v, some ms =>
      match P.info? s with
      | some i => if (Instr.missingMethod ms i.methods).isNone then some (.val (if ok then .tuple #[.iface s v, .bool true] else .iface s v) h) else fails
      | none => none
    | _, _ => none
  | .extr x i => match ρ x with | .tuple vs => toVal h vs[i]? | _ => none
  | .call f args => acallee (ρ f) (args.map ρ)
  | .invoke r name args =>
    match ρ r with
    | .iface t v => match amethod P h t v name with | some (f, rv) => some (.call (.fn f) (rv :: args.map ρ)) | none => none
    | _ => none
  | .len x => match ρ x with | .slice _ n _ => some (.val (.int .i64 n) h) | _ => none
  | .lenS x => match ρ x with | .string s => some (.val (.int .i64 s.size) h) | _ => none
  | .lenC n => some (.val (.int .i64 n) h)
  | .cap x => match ρ x with | .slice _ _ c => if c < gcap then some (.val (.int .i64 c) h) else none | _ => none
  | .app es bytes zero s x => toRes (aappend h es bytes zero (ρ s) (ρ x))
  | .copy es d s => toRes (acopy h es (ρ d) (ρ s))
  | .mm mx args =>
    match args.map ρ with
    | [.int k a, .int _ b] => some (.val (.int k (if mx then (if b > a then b else a) else (if b < a then b else a))) h)
    | l => if l.all plain then toVal h (pures P (if mx then Builtin.max_ #[] 0 l.toArray else Builtin.min_ #[] 0 l.toArray)) else none
  | .bad => none

end Go.Ax

/- An abstract machine for Go programs: from the model's code to its own, and its runs (definitions). -/
namespace Go.Ax

/-! ### from the model's code -/

def allPlain (l : List Value) : Bool := l.all plain

def tmpsOf (xs : List Operand) : List Nat := xs.filterMap fun | .tmp t => some t | _ => none

def isC : Operand → Bool
  | .const _ => true
  | _ => false

def zeroOf (P : Program) (t : TypeId) : Option (List Value) :=
  match P.info? t with
  | some i => match i.zero with | some z => if allPlain z.cells.toList then some z.cells.toList else none | none => none
  | none => none

def eqk (P : Program) (t : TypeId) (x y : Operand) : EqK :=
  match P.underlying t with
  | some .bool => .bool
  | some (.pointer e) => .ptr ((asize P e).getD 0)
  | some (.slice _) => .slice
  | some (.func _ _ _) => .func
  | some (.interface ms) => .iface (isC x || isC y || ms.isEmpty)
  | _ => .other

def partsOf (place : Nat → Option (Nat × Nat)) : List (Nat × Operand) → Option (List (Nat × Nat × Operand))
  | [] => some []
  | (i, x) :: r =>
    match place i, partsOf place r with
    | some (o, s), some l => some ((o, s, x) :: l)
    | _, _ => none

def placesOf (P : Program) : List Field → Option (List (Nat × Nat))
  | [] => some []
  | f :: r =>
    match asize P f.type, placesOf P r with
    | some s, some l => some ((f.offset, s) :: l)
    | _, _ => none

def isIntD : TypeDesc → Bool
  | .int _ => true
  | _ => false

def compCall (P : Program) (c : Call) : AOp :=
  match c.callee with
  | .value f => .call f c.args.toList
  | .invoke r n => .invoke r n c.args.toList
  | .builtin b =>
    match b, c.args.toList, c.argTypes.toList with
    | .len, x :: _, t :: _ =>
      match P.underlying t with
      | some .string => .lenS x
      | some (.slice _) => .len x
      | some (.array n _) => .lenC n
      | some (.pointer a) => match P.underlying a with | some (.array n _) => .lenC n | _ => .bad
      | _ => .bad
    | .cap, x :: _, t :: _ =>
      match P.underlying t with
      | some (.slice _) => .cap x
      | _ => .bad
    | .append, [s, x], [st, xt] =>
      match P.underlying st, P.underlying xt with
      | some (.slice e), some xd =>
        if isIntD xd then .bad else
        match P.info? e, zeroOf P e with
        | some i, some z => .app i.size i.bytes z s x
        | _, _ => .bad
      | _, _ => .bad
    | .copy, [d, s], t :: _ =>
      match P.underlying t with
      | some (.slice e) => match asize P e with | some n => .copy n d s | none => .bad
      | _ => .bad
    | .max, xs, _ => .mm true xs
    | .min, xs, _ => .mm false xs
    | _, _, _ => .bad

def u8Elem (P : Program) (e : TypeId) : Bool :=
  match P.underlying e with
  | some (.int .u8) => true
  | _ => false

def compOp (P : Program) (op : Op) : AOp :=
  match op with
  | .move x => .mv x
  | .assign x => .mv x
  | .pick c a b => .pick c a b
  | .alloc t => match zeroOf P t with | some z => .new z | none => .bad
  | .box _ x => .box x
  | .build t parts =>
    match P.underlying t, zeroOf P t with
    | some (.struct fields), some z =>
      match placesOf P fields.toList with
      | some pl => match partsOf (pl[·]?) parts.toList with | some l => .build z l | none => .bad
      | none => .bad
    | some (.array _ e), some z =>
      match asize P e with
      | some s => match partsOf (fun i => some (i * s, s)) parts.toList with | some l => .build z l | none => .bad
      | none => .bad
    | _, _ => .bad
  | .buildSlice t len parts =>
    match P.underlying t with
    | some (.slice e) =>
      match asize P e, zeroOf P e with
      | some s, some z =>
        if len * s ≤ 16777216 ∧ z.length = s ∧ len < gcap then
          match partsOf (fun i => some (i * s, s)) parts.toList with
          | some l => .lit len s (List.replicate len z).flatten l
          | none => .bad
        else .bad
      | _, _ => .bad
    | _ => .bad
  | .load t x => match aggOf P t with | some g => .load g x | none => .bad
  | .store t a x => match asize P t with | some n => .store n a x | none => .bad
  | .nilCheck x => .chk x
  | .binOp op t x y _ => .bin op t (eqk P t x y) x y
  | .unOp op _ x => .un op x
  | .convert s d x =>
    match P.underlying s, P.underlying d with
    | some _, some (.int k) => .convI k s d x
    | some .string, some (.slice e) => if u8Elem P e then .s2b x else .bad
    | some (.slice e), some .string => if u8Elem P e then .b2s x else .bad
    | some _, some _ => .conv s d x
    | _, _ => .bad
  | .makeInterface t x =>
    match P.underlying t with
    | some (.interface _) => .bad
    | some _ => .mkI t x
    | none => .bad
  | .makeFunc fn a b => match fn with | .yield _ => .bad | _ => .mkF fn a.toList b.toList
  | .makeSlice t l c =>
    match P.underlying t with
    | some (.slice e) =>
      match P.info? e, zeroOf P e with
      | some i, some z => .mkS i.size i.bytes z l c
      | _, _ => .bad
    | _ => .bad
  | .slice t x lo hi mx =>
    match P.underlying t with
    | some (.slice e) => match asize P e with | some s => .slc s x lo hi mx | none => .bad
    | some .string => if mx.isSome then .bad else .slcStr t x lo hi
    | some (.array n e) => match asize P e with | some s => if n < gcap then .slcArr n s x lo hi mx else .bad | none => .bad
    | _ => .bad
  | .fieldAddr t x i =>
    match P.underlying t with
    | some (.struct fields) =>
      match fields[i]? with
      | some f => match asize P f.type with | some s => if s = 0 then .bad else .fad f.offset x | none => .bad
      | none => .bad
    | _ => .bad
  | .field t x i =>
    match P.underlying t with
    | some (.struct fields) =>
      match fields[i]? with
      | some f => match aggOf P f.type with | some g => .fld g f.offset x | none => .bad
      | none => .bad
    | _ => .bad
  | .indexAddr t x i =>
    match P.underlying t with
    | some (.slice e) => match asize P e with | some s => .iadS s x i | none => .bad
    | some (.array n e) => match asize P e with | some s => .iadA n s x i | none => .bad
    | _ => .bad
  | .index t x i =>
    match P.underlying t with
    | some .string => .ixS x i
    | some (.array n e) =>
      match asize P e, aggOf P e with
      | some s, some g => .ixA n s g x i
      | _, _ => .bad
    | _ => .bad
  | .typeAssert x _ a ok =>
    match P.underlying a, P.info? a with
    | some (.interface ms), some i => match i.zero with | some z => if plain z then .asrt x a (some ms) z ok else .bad | none => .bad
    | some _, some i => match i.zero with | some z => if plain z then .asrt x a none z ok else .bad | none => .bad
    | _, _ => .bad
  | .extract x i => .extr x i
  | .call c => compCall P c
  | _ => .bad

/-- Does it act on memory (other than by reading)? -/
def isEff : AOp → Bool
  | .new _ | .box _ | .lit _ _ _ _ | .store _ _ _ | .s2b _ | .mkS _ _ _ _ _ | .call _ _ | .invoke _ _ _ | .app _ _ _ _ _ | .copy _ _ _ | .bad => true
  | _ => false

/-- For each operation of a region: what must be done before it (a set, as bits). -/
def befores (ops : List Oper) : List Nat :=
  ops.foldl (fun acc o => acc ++ [o.after.toList.foldl (fun s e => if Region.binds .any e then s ||| 2 ^ e.on ||| acc.getD e.on 0 else s) 0]) []

def compGuard (ops : Array Oper) (g : Option (Nat × Bool)) : Option (Option Nat × Bool) :=
  g.map fun (j, b) => ((ops[j]?).bind (·.dst), b)

def effOf (P : Program) (ops : Array Oper) : List Nat := (List.range ops.size).filter fun i => match ops[i]? with | some o => isEff (compOp P o.op) | none => false

def compOper (P : Program) (ops : Array Oper) (bs effs : List Nat) (i : Nat) (o : Oper) : AOper :=
  { dst := o.dst, op := compOp P o.op, guard := compGuard ops o.guard, eff := isEff (compOp P o.op)
    lo := (effs.takeWhile fun j => (bs.getD i 0).testBit j).length
    hi := (effs.takeWhile fun j => !(bs.getD j 0).testBit i).length }

def compOps (P : Program) (ops : Array Oper) : List AOper :=
  let bs := befores ops.toList
  let effs := effOf P ops
  ops.toList.mapIdx fun i o => compOper P ops bs effs i o

/-! may a region that draws its order be run in the text's order? -/

def usesOf (ops : Array Oper) (o : Oper) : List Nat :=
  tmpsOf o.op.operands.toList ++ (match o.guard with | some (j, _) => ((ops[j]?).bind (·.dst)).toList | none => [])

def isNewOp : Op → Bool
  | .alloc _ => true
  | _ => false

def effAt (P : Program) (ops : Array Oper) (i : Nat) : Bool := match ops[i]? with | some o => isEff (compOp P o.op) | none => false

def apartO (ops : Array Oper) (x y : Oper) : Bool :=
  (match x.dst with | some d => !(usesOf ops y).contains d && y.dst != some d | none => true) &&
  (match y.dst with | some d => !(usesOf ops x).contains d | none => true)

def pairOk (P : Program) (ops : Array Oper) (ord : Bool) (x y : Oper) : Bool :=
  ord || (apartO ops x y && (!isEff (compOp P x.op) || !isEff (compOp P y.op) || isNewOp y.op))

/-- A new block that may be made before an effect that stands ahead of it in the text. -/
def floats (P : Program) (ops : Array Oper) (b : Nat) (j : Nat) : Bool := (List.range j).any fun e => effAt P ops e && !b.testBit e

def looseOk (P : Program) (ops : Array Oper) (d : Nat) : Bool :=
  ops.toList.all fun o => (isEff (compOp P o.op) && !isNewOp o.op) || !(usesOf ops o).contains d

def drawOk (P : Program) (ops : Array Oper) : Bool :=
  let bs := befores ops.toList
  (List.range ops.size).all fun j =>
    match ops[j]? with
    | none => false
    | some y =>
      (y.after.toList.all fun e => !Region.binds .any e || decide (e.on < j)) &&
      ((List.range j).all fun i => match ops[i]? with | none => false | some x => pairOk P ops ((bs.getD j 0).testBit i) x y) &&
      (!isNewOp y.op || !floats P ops (bs.getD j 0) j || (match y.dst with | some d => looseOk P ops d | none => true))

/-! which slots are read later (only to forget the others: nothing rests on it) -/

def clear (m : Nat) (d : Option Nat) : Nat :=
  match d with
  | some d => if m.testBit d then m - 2 ^ d else m
  | none => m

def addBits (m : Nat) (l : List Nat) : Nat := l.foldl (fun m t => m ||| 2 ^ t) m

def liveOps (ops : Array Oper) (m : Nat) : Nat :=
  ops.toList.foldr (fun o m =>
    let m := if o.guard.isNone then clear m o.dst else m
    let m := match o.guard with | some (j, _) => addBits m ((ops[j]?).bind (·.dst)).toList | none => m
    addBits m (tmpsOf o.op.operands.toList)) m

def look (l : List (Nat × Nat)) (id : Nat) : Nat :=
  match l with
  | [] => 0
  | (i, m) :: r => if i = id then m else look r id

def live (all res : Nat) : Code → Nat → List (Nat × Nat) → Nat
  | .region _ ops _, L, _ => liveOps ops L
  | .seq a b, L, E => live all res a (live all res b L E) E
  | .cond c x y, L, E => addBits (live all res x L E ||| live all res y L E) (tmpsOf [c])
  | .block id b, L, E => live all res b L ((id, L) :: E)
  | .loop b, _, E => live all res b (live all res b (live all res b 0 E) E) E
  | .exit id, _, E => look E id
  | .ret, _, _ => res
  | .rangeFunc _ _ _ _, _, _ => all
  | .scope b, L, E => live all res b L E
  | _, L, _ => L

def comp (P : Program) (all res : Nat) : Code → Nat → List (Nat × Nat) → AC
  | .skip, _, _ => .skip
  | .label _, _, _ => .skip
  | .region _ ops draw, _, _ => if draw then (if drawOk P ops then .dops (compOps P ops) else .bad) else .ops (compOps P ops)
  | .seq a b, L, E => .seq (comp P all res a (live all res b L E) E) (comp P all res b L E)
  | .cond c x y, L, E => .cond c (comp P all res x L E) (comp P all res y L E)
  | .block id b, L, E => .block id (comp P all res b L ((id, L) :: E))
  | .loop b, _, E => .loop (live all res (.loop b) 0 E) (comp P all res b (live all res (.loop b) 0 E) E)
  | .exit id, _, _ => .exit id
  | .ret, _, _ => .ret
  | .rangeFunc f ps a b, _, _ => .rangeF f ps.toList (comp P all res a all []) (comp P all res b 0 [])
  | .scope b, L, E => comp P all res b L E
  | _, _, _ => .bad

inductive ARs where
  | tmp (t : Nat)
  | cell (a : Nat) (agg : Option Nat)

structure AFn where
  code : AC
  ntmps : Nat
  results : List ARs

def specN : Nat := 1048576

def resOf (P : Program) : List ResultVar → Option (List ARs)
  | [] => some []
  | .tmp t :: r => (resOf P r).map (.tmp t :: ·)
  | .cell a t :: r => match aggOf P t, resOf P r with | some g, some l => some (.cell a g :: l) | _, _ => none

def compF (P : Program) (fn : Func) : Option AFn :=
  match fn.body, resOf P fn.results.toList with
  | some c, some rs => if fn.ntmps < specN then some
      { code := comp P (2 ^ fn.ntmps - 1) (addBits 0 (fn.results.toList.map fun | .tmp t => t | .cell a _ => a)) c (addBits 0 (fn.results.toList.map fun | .tmp t => t | .cell a _ => a)) []
        ntmps := fn.ntmps
        results := rs }
      else none
  | _, _ => none

/-! ### its runs -/

abbrev CF := Tgt → List Value → Heap → Option (Value × Heap)
abbrev Step := List Value → Heap → Option (Ex × List Value × Heap)

def runOp (P : Program) (cf : CF) (o : AOp) (t : List Value) (h : Heap) : Option (Value × Heap) :=
  match aop P h (evalT t) o with
  | some (.val v h') => some (v, h')
  | some (.call f args) => cf f args h
  | none => none

def putT (t : List Value) (d : Option Nat) (v : Value) : List Value :=
  match d with
  | some d => t.set d v
  | none => t

def wantedA (t : List Value) : Option (Option Nat × Bool) → Option Bool
  | none => some true
  | some (d, b) =>
    match d.bind (t[·]?) with
    | some (.bool c) => some (c == b)
    | some (.chan none) => some false
    | _ => none

def runOps (P : Program) (cf : CF) : List AOper → List Value → Heap → Option (List Value × Heap)
  | [], t, h => some (t, h)
  | o :: r, t, h =>
    match wantedA t o.guard with
    | some true =>
      match runOp P cf o.op t h with
      | some (v, h') => runOps P cf r (putT t o.dst v) h'
      | none => none
    | some false => runOps P cf r (putT t o.dst skipV) h
    | none => none

end Go.Ax

/- An abstract machine for Go programs: its runs (definitions). -/
namespace Go.Ax

def veqN : Nat → Value → Value → Bool
  | _, .bool a, .bool b => a == b
  | _, .int k a, .int k' b => k == k' && a == b
  | _, .float k a, .float k' b => k == k' && a == b
  | _, .string a, .string b => a.data.toList == b.data.toList
  | _, .pointer a, .pointer b => a == b
  | _, .slice a l c, .slice b l' c' => a == b && l == l' && c == c'
  | _, .nilFunc, .nilFunc => true
  | _, .nilIface, .nilIface => true
  | _, .map a, .map b => a == b
  | n + 1, .iface t a, .iface u b => t == u && veqN n a b
  | n + 1, .agg a, .agg b => a.size == b.size && (a.toList.zip b.toList).all fun (x, y) => veqN n x y
  | n + 1, .tuple a, .tuple b => a.size == b.size && (a.toList.zip b.toList).all fun (x, y) => veqN n x y
  | n + 1, .func f a b, .func f' a' b' => f == f' && a.size == a'.size && b.size == b'.size && ((a.toList.zip a'.toList).all fun (x, y) => veqN n x y) && (b.toList.zip b'.toList).all fun (x, y) => veqN n x y
  | _, _, _ => false

/-- Does what it answers hang on memory? -/
def useHeap : AOp → Bool
  | .load _ _ => true
  | .slc _ _ _ _ _ => true
  | .b2s _ => true
  | .bin _ _ (.ptr _) _ _ => true
  | op => isEff op

def same (P : Program) (op : AOp) (t : List Value) (v : Value) (h : Heap) : Bool :=
  !useHeap op ||
  match aop P h (evalT t) op with
  | some (.val v' _) => veqN 6 v v'
  | _ => false

/-- A region that draws its order, run in the text's order; what only reads is looked at again at every state of the memory that it could meet. -/
def drun (P : Program) (cf : CF) : List AOper → List Heap → List (AOper × List Value × Value) → Nat → List Value → Heap → Option (List Value × Heap)
  | [], _, _, _, t, h => some (t, h)
  | o :: r, past, pend, m, t, h =>
    match wantedA t o.guard with
    | some true =>
      match runOp P cf o.op t h with
      | some (v, h') =>
        if o.eff then
          if pend.all fun (p, tp, vp) => p.hi < m + 1 || same P p.op tp vp h' then
            drun P cf r (h :: past) pend (m + 1) (putT t o.dst v) h'
          else none
        else if (past.take (m - o.lo)).all (same P o.op t v) then
          drun P cf r past ((o, t, v) :: pend) m (putT t o.dst v) h'
        else none
      | none => none
    | some false => if o.eff then drun P cf r (h :: past) pend (m + 1) (putT t o.dst skipV) h else drun P cf r past pend m (putT t o.dst skipV) h
    | none => none

def forget (keep : Nat) (t : List Value) : List Value := t.mapIdx fun i v => if keep.testBit i then v else undef

def loopN (keep : Nat) (body : Step) : Nat → Step
  | 0, _, _ => none
  | n + 1, t, h =>
    match body (forget keep t) h with
    | some (.normal, t', h') => loopN keep body n t' h'
    | r => r

def aexec (P : Program) (cf : CF) (n : Nat) : AC → Step
  | .skip, t, h => some (.normal, t, h)
  | .ops l, t, h => (runOps P cf l t h).map fun (t', h') => (.normal, t', h')
  | .dops l, t, h => (drun P cf l [] [] 0 t h).map fun (t', h') => (.normal, t', h')
  | .seq a b, t, h =>
    match aexec P cf n a t h with
    | some (.normal, t', h') => aexec P cf n b t' h'
    | r => r
  | .cond c a b, t, h =>
    match evalT t c with
    | .bool true => aexec P cf n a t h
    | .bool false => aexec P cf n b t h
    | _ => none
  | .block id b, t, h =>
    match aexec P cf n b t h with
    | some (.exit i, t', h') => if i = id then some (.normal, t', h') else some (.exit i, t', h')
    | r => r
  | .loop keep b, t, h => loopN keep (aexec P cf n b) n t h
  | .rangeF f ps as bd, t, h =>
    match acallee (evalT t f) [.func (.yield h.lps.length) #[] #[]] with
    | some (.call (.fn f') args) =>
      if ((P.funcs[f']?).any (·.body.isSome)) = false then none else
      match cf (.fn f') args { h with lps := h.lps ++ [{ state := .ready, pending := none, tmps := t, params := ps, assign := as, body := bd }] } with
      | some (_, h2) =>
        match h2.lps[h.lps.length]? with
        | some lp =>
          if lp.state = .busy then none
          else some (lp.pending.getD .normal, t, { h2 with lps := h2.lps.set h.lps.length { lp with state := .exhausted } })
        | none => none
      | none => none
    | _ => none
  | .exit id, t, h => some (.exit id, t, h)
  | .ret, t, h => some (.ret, t, h)
  | .bad, _, _ => none

def resVals (t : List Value) (h : Heap) : List ARs → Option (List Value)
  | [] => some []
  | .tmp i :: r =>
    match resVals t h r with
    | some l => some (t.getD i undef :: l)
    | none => none
  | .cell i agg :: r =>
    match t.getD i undef, resVals t h r with
    | .pointer (some a), some l => match aload h agg a with | some v => some (v :: l) | none => none
    | _, _ => none

def oneOf : List Value → Value
  | [v] => v
  | l => .tuple l.toArray

def runBody (P : Program) (cf : CF) (n : Nat) (f : AFn) (t : List Value) (h : Heap) : Option (Value × Heap) :=
  match aexec P cf n f.code t h with
  | some (.exit _, _, _) => none
  | some (_, t, h') => (resVals t h' f.results).map fun l => (oneOf l, h')
  | none => none

/-- A function's run from its code. (From specN slots on: a code that is no function's own, of one argument.) -/
def runFn (P : Program) (cf : CF) (n : Nat) (f : AFn) (args : List Value) (h : Heap) : Option (Value × Heap) :=
  if f.ntmps < specN then runBody P cf n f (args ++ List.replicate (f.ntmps - args.length) undef) h
  else if args.length = 1 then runBody P cf n f (args ++ List.replicate 3 undef) h else none

def numG : String := "runtime.NumGoroutine"

/-- A function of the library without a body in Go, at values without addresses. -/
def runExt (P : Program) (f : FuncId) (args : List Value) (h : Heap) : Option (Value × Heap) :=
  match P.funcs[f]? with
  | some fn =>
    if fn.body.isNone && !(fn.name == numG) && (Extern.findNext fn).isNone && args.all plain then
      match Extern.find fn with
      | some e => (pures P (e args.toArray)).map fun v => (v, h)
      | none => none
    else none
  | none => none

/-- A round of a loop over a function. -/
def runYield (P : Program) (cf : CF) (n : Nat) (l : Nat) (args : List Value) (h : Heap) : Option (Value × Heap) :=
  match h.lps[l]? with
  | none => none
  | some p =>
    if args.length ≠ p.params.length then none else
    match aexec P cf n p.assign ((p.params.zip args).foldl (fun t (i, v) => t.set i v) p.tmps) h with
    | some (.normal, t1, h1) =>
      match h1.lps[l]? with
      | none => none
      | some p1 =>
        if p1.state ≠ .ready then none else
        match aexec P cf n p.body t1 { h1 with lps := h1.lps.set l { p1 with state := .busy } } with
        | none => none
        | some (e, _, h3) =>
          match h3.lps[l]? with
          | none => none
          | some p3 =>
            if e = .normal then some (.bool true, { h3 with lps := h3.lps.set l { p3 with state := .ready, pending := none } })
            else some (.bool false, { h3 with lps := h3.lps.set l { p3 with state := .done, pending := some e } })
    | _ => none

abbrev Table := FuncId → Option AFn

def acallN (P : Program) (T : Table) : Nat → CF
  | 0, _, _, _ => none
  | n + 1, .fn f, args, h =>
    match T f with
    | some a => runFn P (acallN P T n) n a args h
    | none => runExt P f args h
  | n + 1, .yield l, args, h => runYield P (acallN P T n) n l args h

/-- The table says of each function what its code comes to. -/
def TableOk (P : Program) (T : Table) : Prop := ∀ f a, T f = some a → ∃ fn, P.funcs[f]? = some fn ∧ compF P fn = some a ∧ fn.body.isSome = true ∧ (fn.name == numG) = false

end Go.Ax
