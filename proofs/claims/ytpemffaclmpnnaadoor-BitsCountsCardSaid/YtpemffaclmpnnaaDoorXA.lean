/- An abstract machine for Go programs: its memory, its operations, its runs (definitions). -/
import Derived.Calls
import Derived.Below
namespace Go.Ax

/-! ### values: those of the model, with abstract addresses.
An address with spot 'some v' lies in block 'block' of the abstract memory, seen at version v; one without a spot lies in memory that is only read.
A slice's capacity from gcap on says that it is not known. -/

def gcap : Nat := 18446744073709551616

structure Blk where
  cells : List Value
  sizes : List Nat
  dead : Nat
  es : Nat

inductive LState where
  | ready | busy | done | exhausted
  deriving DecidableEq

inductive Ex where
  | normal | exit (i : Nat) | ret
  deriving DecidableEq

/-! ### the code: what the model's code comes to, its types looked up -/

/-- How two values of a type are compared. -/
inductive EqK where
  | bool | ptr (es : Nat) | slice | func | iface (lit : Bool) | other
  deriving DecidableEq

inductive AOp where
  | mv (x : Operand)
  | pick (c a b : Operand)
  | new (cells : List Value)
  | box (x : Operand)
  | build (zero : List Value) (parts : List (Nat × Nat × Operand))
  | lit (len es : Nat) (zero : List Value) (parts : List (Nat × Nat × Operand))
  | load (agg : Option Nat) (x : Operand)
  | store (n : Nat) (a x : Operand)
  | chk (x : Operand)
  | bin (op : BinOp) (t : TypeId) (q : EqK) (x y : Operand)
  | un (op : UnOp) (x : Operand)
  | convI (k : IntKind) (s d : TypeId) (x : Operand)
  | conv (s d : TypeId) (x : Operand)
  | s2b (x : Operand)
  | b2s (x : Operand)
  | mkI (t : TypeId) (x : Operand)
  | mkF (fn : Fn) (first captured : List Operand)
  | mkS (es bytes : Nat) (zero : List Value) (l c : Operand)
  | slc (es : Nat) (x : Operand) (lo hi mx : Option Operand)
  | slcStr (t : TypeId) (x : Operand) (lo hi : Option Operand)
  | slcArr (n es : Nat) (x : Operand) (lo hi mx : Option Operand)
  | fad (off : Nat) (x : Operand)
  | fld (agg : Option Nat) (off : Nat) (x : Operand)
  | iadS (es : Nat) (x i : Operand)
  | iadA (n es : Nat) (x i : Operand)
  | ixA (n es : Nat) (agg : Option Nat) (x i : Operand)
  | ixS (x i : Operand)
  | asrt (x : Operand) (t : TypeId) (want : Option (Array (String × TypeId))) (zero : Value) (ok : Bool)
  | extr (x : Operand) (i : Nat)
  | call (f : Operand) (args : List Operand)
  | invoke (r : Operand) (name : String) (args : List Operand)
  | len (x : Operand)
  | lenS (x : Operand)
  | lenC (n : Nat)
  | cap (x : Operand)
  | app (es bytes : Nat) (zero : List Value) (s x : Operand)
  | copy (es : Nat) (d s : Operand)
  | mm (mx : Bool) (args : List Operand)
  | bad

/-- One operation: where its answer goes, what must hold that it be done; 'at' and 'to': in a region that draws its order, between how many effects it may fall. -/
structure AOper where
  dst : Option Nat
  op : AOp
  guard : Option (Option Nat × Bool)
  eff : Bool
  lo : Nat
  hi : Nat

inductive AC where
  | skip
  | ops (l : List AOper)
  | dops (l : List AOper)
  | seq (a b : AC)
  | cond (c : Operand) (a b : AC)
  | block (id : Nat) (b : AC)
  | loop (keep : Nat) (b : AC)
  | rangeF (f : Operand) (params : List Nat) (assign body : AC)
  | exit (id : Nat)
  | ret
  | bad

/-- A loop over a function: where it stands, how it is to be left, the frame's slots. -/
structure Lp where
  state : LState
  pending : Option Ex
  tmps : List Value
  params : List Nat
  assign : AC
  body : AC

structure Heap where
  ro : Nat → Nat → Option Value
  dyn : List Blk
  lps : List Lp

/-- A value that one cell can hold. -/
def goodC : Value → Bool
  | .tuple _ | .agg _ | .chan _ => false
  | _ => true

/-- A value whose cells are known. -/
def good : Value → Bool
  | .tuple _ | .chan _ => false
  | _ => true

def skipV : Value := .chan none

def aadd (a : Addr) (n : Nat) : Addr := { block := a.block, off := a.off + n, spot := a.spot }

def hload (h : Heap) (a : Addr) : Option Value :=
  match a.spot with
  | none => h.ro a.block a.off
  | some v =>
    match h.dyn[a.block]? with
    | some k => if k.dead ≤ v ∧ a.off < k.sizes.getD v 0 then k.cells[a.off]? else none
    | none => none

def hstore (h : Heap) (a : Addr) (x : Value) : Option Heap :=
  match a.spot with
  | none => none
  | some v =>
    match h.dyn[a.block]? with
    | some k =>
      if v + 1 = k.sizes.length ∧ a.off < k.cells.length ∧ k.dead ≤ v ∧ goodC x = true then
        some { h with dyn := h.dyn.set a.block { k with cells := k.cells.set a.off x, dead := v } }
      else none
    | none => none

def hnew (h : Heap) (cells : List Value) (es : Nat) : Heap :=
  { h with dyn := h.dyn ++ [{ cells := cells, sizes := [cells.length], dead := 0, es := es }] }

/-- The address of the next new block. -/
def hnext (h : Heap) : Addr := ⟨h.dyn.length, 0, some 0⟩

def loadN (h : Heap) (a : Addr) : Nat → Option (List Value)
  | 0 => some []
  | n + 1 =>
    match hload h a with
    | some v =>
      match loadN h (aadd a 1) n with
      | some r => some (v :: r)
      | none => none
    | none => none

def storeN (h : Heap) (a : Addr) : List Value → Option Heap
  | [] => some h
  | v :: r =>
    match hstore h a v with
    | some h' => storeN h' (aadd a 1) r
    | none => none

/-- No address in it (to a depth that all texts keep). -/
def plainN : Nat → Value → Bool
  | _, .bool _ => true
  | _, .int _ _ => true
  | _, .float _ _ => true
  | _, .complex _ _ _ => true
  | _, .string _ => true
  | _, .pointer none => true
  | _, .nilFunc => true
  | _, .nilIface => true
  | _, .slice none l c => l == 0 && c == 0
  | n + 1, .iface _ v => plainN n v
  | n + 1, .agg cs => cs.toList.all (plainN n)
  | n + 1, .tuple cs => !cs.isEmpty && cs.toList.all (plainN n)
  | _, _ => false

def plain (v : Value) : Bool := plainN 12 v

/-- A computation of the model that asks nothing but the program. -/
def apure {α : Type} (P : Program) : Sem α → Option α
  | .pure a => some a
  | .program k => apure P (k P)
  | .mark _ k => apure P k
  | _ => none

def pures (P : Program) (s : Sem Value) : Option Value :=
  match apure P s with
  | some v => if plain v then some v else none
  | none => none

/-! ### the operations on values -/

def evalT (t : List Value) : Operand → Value
  | .tmp i => t.getD i undef
  | .const v => if plain v then v else undef
  | .global g => if g < 4294967296 then .pointer (some ⟨g, 0, none⟩) else undef
  | .func f => .func (.func f) #[] #[]

def abin (op : BinOp) (k : IntKind) (a b : Int) : Option Value :=
  match op with
  | .add => some (.int k (k.wrap (a + b)))
  | .sub => some (.int k (k.wrap (a - b)))
  | .mul => some (.int k (k.wrap (a * b)))
  | .quo => if b = 0 then none else some (.int k (k.wrap (a.tdiv b)))
  | .rem => if b = 0 then none else some (.int k (a.tmod b))
  | .and => some (.int k (k.wrap (BitVec.ofInt k.bits a &&& BitVec.ofInt k.bits b).toNat))
  | .or => some (.int k (k.wrap (BitVec.ofInt k.bits a ||| BitVec.ofInt k.bits b).toNat))
  | .xor => some (.int k (k.wrap (BitVec.ofInt k.bits a ^^^ BitVec.ofInt k.bits b).toNat))
  | .andNot => some (.int k (k.wrap (BitVec.ofInt k.bits a &&& ~~~BitVec.ofInt k.bits b).toNat))
  | .eql => some (.bool (a == b))
  | .neq => some (.bool (a != b))
  | .lss => some (.bool (a < b))
  | .leq => some (.bool (a ≤ b))
  | .gtr => some (.bool (a > b))
  | .geq => some (.bool (a ≥ b))
  | .shl => if b < 0 then none else some (.int k (k.wrap (a * 2 ^ min b.toNat k.bits)))
  | .shr => if b < 0 then none else some (.int k (a.fdiv (2 ^ min b.toNat k.bits)))

def plainBlk (h : Heap) (b : Nat) : Bool :=
  match h.dyn[b]? with
  | some k => k.es == 0
  | none => false

/-- Two addresses alike? -/
def sameA (h : Heap) (a b : Addr) : Option Bool :=
  match a.spot, b.spot with
  | some v, some u =>
    if a.block = b.block then (if v = u then some (a.off == b.off) else none)
    else if (hload h a).isSome && (hload h b).isSome && plainBlk h a.block && plainBlk h b.block then some false else none
  | _, _ => none

/-- Two values alike, where the program need not be asked. -/
def aeq (h : Heap) (q : EqK) (x y : Value) : Option Bool :=
  match q, x, y with
  | .bool, .bool a, .bool b => some (a == b)
  | .ptr _, .pointer none, .pointer none => some true
  | .ptr _, .pointer (some _), .pointer none => some false
  | .ptr _, .pointer none, .pointer (some _) => some false
  | .ptr es, .pointer (some a), .pointer (some b) => if es = 0 then none else sameA h a b
  | .slice, .slice none _ _, .slice none _ _ => some true
  | .slice, .slice (some _) _ _, .slice none _ _ => some false
  | .slice, .slice none _ _, .slice (some _) _ _ => some false
  | .func, .nilFunc, .nilFunc => some true
  | .func, .nilFunc, .func _ _ _ => some false
  | .func, .func _ _ _, .nilFunc => some false
  | .iface lit, .nilIface, .nilIface => if lit then some true else none
  | .iface _, .nilIface, .iface _ _ => some false
  | .iface _, .iface _ _, .nilIface => some false
  | .iface _, .iface s _, .iface u _ => if s = u then none else some false
  | _, _, _ => none

def abinP (P : Program) (op : BinOp) (t : TypeId) (xo yo : Operand) (x y : Value) : Option Value :=
  if plain x && plain y then pures P (do eqGuard op t xo yo x y; binOp op t x y) else none

def abinop (P : Program) (h : Heap) (op : BinOp) (t : TypeId) (q : EqK) (xo yo : Operand) (x y : Value) : Option Value :=
  match x, y with
  | .int k a, .int k' b => if op = .shl ∨ op = .shr ∨ k = k' then abin op k a b else none
  | x, y =>
    match op with
    | .eql => match aeq h q x y with | some b => some (.bool b) | none => abinP P .eql t xo yo x y
    | .neq => match aeq h q x y with | some b => some (.bool (!b)) | none => abinP P .neq t xo yo x y
    | op => abinP P op t xo yo x y

def aun (P : Program) (op : UnOp) (x : Value) : Option Value :=
  match op, x with
  | .neg, .int k n => some (.int k (k.wrap (0 - n)))
  | .xor, .int k n => abin .xor k (if k.signed then -1 else k.max) n
  | .not, .bool b => some (.bool (!b))
  | op, x => if plain x then pures P (Op.unary op x) else none

def asliceBound (x : Value) (y : Nat) : Option Nat :=
  match x with
  | .int _ i => if 0 ≤ i ∧ i ≤ y then some i.toNat else none
  | _ => none

def optBound (x : Option Value) (y d : Nat) : Option Nat :=
  match x with
  | some v => asliceBound v y
  | none => some d

/-- How far a slice of unknown capacity may be cut: its block's end, at the newest version. -/
def topOf (h : Heap) (es : Nat) (a : Addr) (len : Nat) : Nat :=
  match a.spot with
  | none => len
  | some v =>
    match h.dyn[a.block]? with
    | some k => if v + 1 = k.sizes.length ∧ k.es = es ∧ 0 < es ∧ k.dead ≤ v then (k.cells.length - a.off) / es else len
    | none => len

def esOk (h : Heap) (es : Nat) (a : Addr) : Bool :=
  match a.spot with
  | none => true
  | some _ =>
    match h.dyn[a.block]? with
    | some k => k.es == es
    | none => false

/-- Cutting a slice whose capacity is known. -/
def cutK (es : Nat) (a : Option Addr) (len cap : Nat) (lo hi mx : Option Value) : Option Value :=
  match optBound mx cap cap with
  | none => none
  | some m =>
    if mx.isSome && hi.isNone then none else
    match optBound hi m len with
    | none => none
    | some u =>
      match optBound lo u 0 with
      | none => none
      | some l => some (.slice (if m = l then a else a.map (aadd · (l * es))) (u - l) (m - l))

def aslice (h : Heap) (es : Nat) (x : Value) (lo hi mx : Option Value) : Option Value :=
  match x with
  | .slice none len cap => if len = 0 ∧ cap = 0 then cutK es none len cap lo hi mx else none
  | .slice (some a) len cap =>
    if cap < gcap then cutK es (some a) len cap lo hi mx
    else if mx.isSome then none
    else if cap ≠ gcap then (if hi.isNone && lo.isNone then some x else none)
    else
      match optBound hi (if hi.isNone then len else max len (topOf h es a len)) len with
      | none => none
      | some u =>
        match optBound lo u 0 with
        | none => none
        | some l =>
          if l = 0 then some (.slice (some a) u gcap)
          else if l < u then (if esOk h es a then some (.slice (some (aadd a (l * es))) (u - l) gcap) else none)
          else some (.slice (some ⟨0, 0, none⟩) 0 (gcap + 1))
  | _ => none

def apart (agg : Option Nat) (cs : Array Value) (off : Nat) : Option Value :=
  match agg with
  | some n => some (.agg (cs.extract off (off + n)))
  | none => cs[off]?

def fillL (cells : List Value) : List (Nat × Nat × Value) → Option (List Value)
  | [] => some cells
  | (off, size, v) :: r =>
    if good v = false ∨ v.cells.size ≠ size ∨ off + v.cells.size > cells.length then none
    else fillL (cells.take off ++ v.cells.toList ++ cells.drop (off + size)) r

def slen : Value → Option Nat
  | .slice _ n _ => some n
  | .string s => some s.size
  | _ => none

def byteCells (l : List UInt8) : List Value := l.map fun b => .int .u8 b.toNat

def firstN (h : Heap) (es n : Nat) : Value → Option (List Value)
  | .slice (some a) _ _ => loadN h a (n * es)
  | .slice none _ _ => some []
  | .string s => some (byteCells (s.data.toList.take n))
  | _ => none

/-- The end of an append that may need a new block. -/
def appNew (h : Heap) (es bytes : Nat) (old new : List Value) (n : Nat) : Option (Value × Heap) :=
  if n * bytes ≤ 140737488355328 ∧ n ≤ 140737488355328 then
    some (.slice (some (hnext h)) n gcap, hnew h (old ++ new) es)
  else none

def aappend (h : Heap) (es bytes : Nat) (zero : List Value) (s x : Value) : Option (Value × Heap) :=
  match s, slen x with
  | .slice base len cap, some n =>
    match firstN h es n x with
    | none => none
    | some new =>
      if n = 0 then (if cap < len then none else some (.slice base len cap, h))
      else if zero.length ≠ es ∨ new.length ≠ n * es ∨ new.all goodC = false then none
      else
        match base with
        | none => if len = 0 ∧ cap = 0 then appNew h es bytes [] new n else none
        | some a =>
          if cap < gcap then
            if len + n ≤ cap then
              match storeN h (aadd a (len * es)) new with
              | some h' => some (.slice (some a) (len + n) cap, h')
              | none => none
            else
              match loadN h a (len * es) with
              | some old => appNew h es bytes old new (len + n)
              | none => none
          else if cap = gcap ∧ a.off = 0 ∧ (len + n) * bytes ≤ 140737488355328 ∧ len + n ≤ 140737488355328 then
            match a.spot with
            | none => none
            | some v =>
              match h.dyn[a.block]? with
              | some k =>
                if v + 1 = k.sizes.length ∧ k.es = es ∧ len * es = k.cells.length ∧ k.dead ≤ v then
                  some (.slice (some ⟨a.block, 0, some (v + 1)⟩) (len + n) gcap,
                    { h with dyn := h.dyn.set a.block { k with cells := k.cells ++ new, sizes := k.sizes ++ [(len + n) * es] } })
                else none
              | none => none
          else none
  | _, _ => none

def acopy (h : Heap) (es : Nat) (d s : Value) : Option (Value × Heap) :=
  match d, slen s with
  | .slice base dl _, some sl =>
    match firstN h es (min sl dl) s with
    | none => none
    | some new =>
      match base with
      | none => some (.int .i64 (min sl dl : Nat), h)
      | some a =>
        match storeN h a new with
        | some h' => some (.int .i64 (min sl dl : Nat), h')
        | none => none
  | _, _ => none

def bytesOf : List Value → Option (List UInt8)
  | [] => some []
  | .int .u8 n :: r => (bytesOf r).map (UInt8.ofNat n.toNat :: ·)
  | _ :: _ => none

/-- What a method's name at a value comes to: the function, and its receiver. -/
inductive APl where
  | val (v : Value)
  | var (a : Addr)

def asize (P : Program) (t : TypeId) : Option Nat := (P.info? t).map (·.size)

def isAggD : TypeDesc → Bool
  | .struct _ | .array _ _ => true
  | _ => false

/-- How a variable of a type is read: its cells at once, or its one cell. -/
def aggOf (P : Program) (t : TypeId) : Option (Option Nat) :=
  match P.underlying t with
  | some d => if isAggD d then (match asize P t with | some n => some (some n) | none => none) else some none
  | none => none

def aload (h : Heap) (agg : Option Nat) (a : Addr) : Option Value :=
  match agg with
  | some n => (loadN h a n).map fun l => .agg l.toArray
  | none => hload h a

def APl.get (P : Program) (h : Heap) (t : TypeId) : APl → Option Value
  | .val v => some v
  | .var a => match aggOf P t with | some g => aload h g a | none => none

def afollow (P : Program) (h : Heap) : List FieldStep → TypeId → APl → Option (TypeId × APl)
  | [], t, x => some (t, x)
  | s :: rest, t, x =>
    match P.underlying s.struct with
    | some (.struct fields) =>
      match fields[s.index]? with
      | some f =>
        if s.deref then
          match x.get P h t with
          | some (.pointer (some a)) => if (asize P f.type).getD 0 = 0 then none else afollow P h rest f.type (.var (aadd a f.offset))
          | _ => none
        else
          match x with
          | .var a => if (asize P f.type).getD 0 = 0 then none else afollow P h rest f.type (.var (aadd a f.offset))
          | .val (.agg cs) =>
            match aggOf P f.type with
            | some g => match apart g cs f.offset with | some v => afollow P h rest f.type (.val v) | none => none
            | none => none
          | .val _ => none
      | none => none
    | _ => none

def arecv (P : Program) (h : Heap) (xt : TypeId) (x : APl) (ptr : Bool) : Option Value :=
  match P.underlying xt with
  | none => none
  | some (.pointer elem) =>
    if ptr then x.get P h xt
    else
      match x.get P h xt with
      | some (.pointer (some a)) => match aggOf P elem with | some g => aload h g a | none => none
      | _ => none
  | some _ =>
    if ptr then (match x with | .var a => some (.pointer (some a)) | .val _ => none)
    else x.get P h xt

def amethod (P : Program) (h : Heap) (t : TypeId) (v : Value) (name : String) : Option (FuncId × Value) :=
  match P.info? t with
  | none => none
  | some i =>
    match i.methods.find? (·.name == name) with
    | none => none
    | some m =>
      match afollow P h m.path.toList t (.val v) with
      | none => none
      | some (xt, x) =>
        match m.func with
        | none => none
        | some (f, ptr) => (arecv P h xt x ptr).map fun r => (f, r)

inductive Tgt where
  | fn (f : FuncId)
  | yield (l : Nat)

inductive ARes where
  | val (v : Value) (h : Heap)
  | call (f : Tgt) (args : List Value)

def toVal (h : Heap) : Option Value → Option ARes
  | some v => some (.val v h)
  | none => none

def toRes : Option (Value × Heap) → Option ARes
  | some (v, h) => some (.val v h)
  | none => none

def acallee (f : Value) (args : List Value) : Option ARes :=
  match f with
  | .func (.func id) first captured => some (.call (.fn id) (first.toList ++ args ++ captured.toList))
  | .func (.yield l) first captured => if captured.size = 0 then some (.call (.yield l) (first.toList ++ args)) else none
  | _ => none

def aop (P : Program) (h : Heap) (ρ : Operand → Value) : AOp → Option ARes
  | .mv x => some (.val (ρ x) h)
  | .pick c a b => match ρ c with | .bool true => some (.val (ρ a) h) | .bool false => some (.val (ρ b) h) | _ => none
  | .new cells => some (.val (.pointer (some (hnext h))) (hnew h cells 0))
  | .box x => if good (ρ x) then some (.val (.pointer (some (hnext h))) (hnew h (ρ x).cells.toList 0)) else none
  | .build zero parts =>
    match fillL zero (parts.map fun (o, s, x) => (o, s, ρ x)) with
    | some l => some (.val (.agg l.toArray) h)
    | none => none
  | .lit len es zero parts =>
    match fillL zero (parts.map fun (o, s, x) => (o, s, ρ x)) with
    | some l => some (.val (.slice (some (hnext h)) len len) (hnew h l es))
    | none => none
  | .load agg x => match ρ x with | .pointer (some a) => toVal h (aload h agg a) | _ => none
  | .store n a x =>
    match ρ a with
    | .pointer (some p) =>
      if good (ρ x) = true ∧ (ρ x).cells.size = n then
        match storeN h p (ρ x).cells.toList with
        | some h' => some (.val undef h')
        | none => none
      else none
    | _ => none
  | .chk x =>
    match ρ x with
    | .pointer (some a) => some (.val (.pointer (some a)) h)
    | .iface t v => some (.val (.iface t v) h)
    | .func (.func f) a b => some (.val (.func (.func f) a b) h)
    | .func (.yield f) a b => some (.val (.func (.yield f) a b) h)
    | _ => none
  | .bin op t q x y => toVal h (abinop P h op t q x y (ρ x) (ρ y))
  | .un op x => toVal h (aun P op (ρ x))
  | .convI k s d x =>
    match ρ x with
    | .int _ n => some (.val (.int k (k.wrap n)) h)
    | x => if plain x then toVal h (pures P (convert s d x)) else none
  | .conv s d x => if plain (ρ x) then toVal h (pures P (convert s d (ρ x))) else none
  | .s2b x =>
    match ρ x with
    | .string s => some (.val (.slice (some (hnext h)) s.size gcap) (hnew h (byteCells s.data.toList) 1))
    | _ => none
  | .b2s x =>
    match ρ x with
    | .slice none _ _ => some (.val (.string .empty) h)
    | .slice (some a) len _ =>
      match loadN h a len with
      | some l => match bytesOf l with | some b => some (.val (.string ⟨b.toArray⟩) h) | none => none
      | none => none
    | _ => none
  | .mkI t x => some (.val (.iface t (ρ x)) h)
  | .mkF fn first captured => some (.val (.func fn (first.map ρ).toArray (captured.map ρ).toArray) h)
  | .mkS es bytes zero l c =>
    match ρ l, ρ c with
    | .int .i64 l, .int .i64 c =>
      if 0 ≤ l ∧ l ≤ c ∧ c * bytes ≤ 140737488355328 ∧ c ≤ 140737488355328 ∧ zero.length = es then
        some (.val (.slice (some (hnext h)) l.toNat c.toNat) (hnew h (List.replicate c.toNat zero).flatten es))
      else none
    | _, _ => none
  | .slc es x lo hi mx => toVal h (aslice h es (ρ x) (lo.map ρ) (hi.map ρ) (mx.map ρ))
  | .slcStr _ x lo hi =>
    match ρ x with
    | .string s =>
      match optBound (hi.map ρ) s.size s.size with
      | none => none
      | some u =>
        match optBound (lo.map ρ) u 0 with
        | none => none
        | some l => some (.val (.string (s.extract l u)) h)
    | _ => none
  | .slcArr n es x lo hi mx =>
    match ρ x with
    | .pointer (some a) => toVal h (cutK es (some a) n n (lo.map ρ) (hi.map ρ) (mx.map ρ))
    | _ => none
  | .fad off x => match ρ x with | .pointer (some a) => some (.val (.pointer (some (aadd a off))) h) | _ => none
  | .fld agg off x => match ρ x with | .agg cs => toVal h (apart agg cs off) | _ => none
  | .iadS es x i =>
    match ρ x, ρ i with
    | .slice (some a) len _, .int _ i => if 0 ≤ i ∧ i < len then some (.val (.pointer (some (aadd a (i.toNat * es)))) h) else none
    | _, _ => none
  | .iadA n es x i =>
    match ρ x, ρ i with
    | .pointer (some a), .int _ i => if 0 ≤ i ∧ i < n then some (.val (.pointer (some (aadd a (i.toNat * es)))) h) else none
    | _, _ => none
  | .ixA n es agg x i =>
    match ρ x, ρ i with
    | .agg cs, .int _ i => if 0 ≤ i ∧ i < n then toVal h (apart agg cs (i.toNat * es)) else none
    | _, _ => none
  | .ixS x i =>
    match ρ x, ρ i with
    | .string s, .int _ i =>
      if 0 ≤ i then (match s.data.toList[i.toNat]? with | some b => some (.val (.int .u8 b.toNat) h) | none => none) else none
    | _, _ => none
  | .asrt x t want zero ok =>
    let fails : Option ARes := if ok then some (.val (.tuple #[zero, .bool false]) h) else none
    match ρ x, want with
    | .nilIface, _ => fails
    | .iface s v, none =>
      if s = t then some (.val (if ok then .tuple #[v, .bool true] else v) h) else fails
    | .iface s v, some ms =>
      match P.info? s with
      | some i => if (Instr.missingMethod ms i.methods).isNone then some (.val (if ok then .tuple #[.iface s v, .bool true] else .iface s v) h) else fails
      | none => none
    | _, _ => none
  | .extr x i => match ρ x with | .tuple vs => toVal h vs[i]? | _ => none
  | .call f args => acallee (ρ f) (args.map ρ)
  | .invoke r name args =>
    match ρ r with
    | .iface t v => match amethod P h t v name with | some (f, rv) => some (.call (.fn f) (rv :: args.map ρ)) | none => none
    | _ => none
  | .len x => match ρ x with | .slice _ n _ => some (.val (.int .i64 n) h) | _ => none
  | .lenS x => match ρ x with | .string s => some (.val (.int .i64 s.size) h) | _ => none
  | .lenC n => some (.val (.int .i64 n) h)
  | .cap x => match ρ x with | .slice _ _ c => if c < gcap then some (.val (.int .i64 c) h) else none | _ => none
  | .app es bytes zero s x => toRes (aappend h es bytes zero (ρ s) (ρ x))
  | .copy es d s => toRes (acopy h es (ρ d) (ρ s))
  | .mm mx args =>
    match args.map ρ with
    | [.int k a, .int _ b] => some (.val (.int k (if mx then (if b > a then b else a) else (if b < a then b else a))) h)
    | l => if l.all plain then toVal h (pures P (if mx then Builtin.max_ #[] 0 l.toArray else Builtin.min_ #[] 0 l.toArray)) else none
  | .bad => none

end Go.Ax
