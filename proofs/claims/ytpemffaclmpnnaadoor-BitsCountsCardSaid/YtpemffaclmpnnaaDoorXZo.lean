/- An abstract machine for Go programs: what each operation answers, for walking. -/
import Derived.Test.YtpemffaclmpnnaaDoorXZ
namespace Go.Ax
set_option linter.unusedVariables false
set_option linter.unusedSimpArgs false

section
variable {P : Program} {T : Table} {cf : CF} {t : List Value} {h : Heap} {k : Cont}

@[simp] theorem envT_elem {N i : Nat} {l : List (Nat × Value)} (hi : i < (envT N l).length) : (envT N l)[i] = slot l i := by
  have := envT_get (N := N) (i := i) (by simpa [envT_len] using hi) l
  rw [List.getElem?_eq_getElem hi] at this
  exact Option.some.inj this

attribute [simp] envT_get slot_nil slot_cons envT_len envT_tmp envT_getD envT_put envT_put_none wanted_env wanted_none

theorem go_loop {keep n : Nat} {b : AC} (I : Nat → List Value → Heap → Prop) (i : I n (forget keep t) h)
    (step : ∀ n t h, I n t h → Go P T b t h (.loop keep I n k)) : Go P T (.loop keep b) t h k := by
  refine does_loop I (fun n t h i => Does.mono (step n t h i) fun e t' h' q => ?_) i
  cases e with
  | normal => rw [meets_loop] at q; exact q
  | exit i => rw [meets_loop_exit] at q; exact q
  | ret => rw [meets_loop_ret] at q; exact q

theorem got_call {tg : Tgt} {args : List Value} {R K : Value → Heap → Prop} (g : Gives P T tg args h R) (i : ∀ v h', R v h' → K v h') : got (acallW P T tg args h) K := by
  obtain ⟨v, h', e, q⟩ := g; exact ⟨v, h', e, i v h' q⟩

@[simp] theorem ev_const_int {kd : IntKind} {n : Int} : evalT t (.const (.int kd n)) = .int kd n := rfl
@[simp] theorem ev_const_bool {b : Bool} : evalT t (.const (.bool b)) = .bool b := rfl
@[simp] theorem ev_const_str {s : ByteArray} : evalT t (.const (.string s)) = .string s := rfl
@[simp] theorem ev_const_ptr : evalT t (.const (.pointer none)) = .pointer none := rfl
@[simp] theorem ev_const_slice : evalT t (.const (.slice none 0 0)) = .slice none 0 0 := rfl
@[simp] theorem ev_const_nilf : evalT t (.const .nilFunc) = .nilFunc := rfl
@[simp] theorem ev_const_nili : evalT t (.const .nilIface) = .nilIface := rfl
@[simp] theorem ev_func {f : FuncId} : evalT t (.func f) = .func (.func f) #[] #[] := rfl

@[simp] theorem op_mv {x : Operand} : runOp P cf (.mv x) t h = some (evalT t x, h) := rfl

def pickR (h : Heap) : Value → Value → Value → Option (Value × Heap)
  | .bool true, a, _ => some (a, h)
  | .bool false, _, b => some (b, h)
  | _, _, _ => none
@[simp] theorem op_pick {c a b : Operand} : runOp P cf (.pick c a b) t h = pickR h (evalT t c) (evalT t a) (evalT t b) := by
  unfold runOp; simp only [aop]; unfold pickR
  cases evalT t c <;> try rfl
  rename_i b; cases b <;> rfl
@[simp] theorem pick_true {a b : Value} : pickR h (.bool true) a b = some (a, h) := rfl
@[simp] theorem pick_false {a b : Value} : pickR h (.bool false) a b = some (b, h) := rfl
theorem pick_bool {x : Bool} {a b : Value} : pickR h (.bool x) a b = some (if x then a else b, h) := by cases x <;> rfl

@[simp] theorem op_new {c : List Value} : runOp P cf (.new c) t h = some (.pointer (some (hnext h)), hnew h c 0) := rfl

def boxR (h : Heap) (v : Value) : Option (Value × Heap) := if good v then some (.pointer (some (hnext h)), hnew h v.cells.toList 0) else none
@[simp] theorem op_box {x : Operand} : runOp P cf (.box x) t h = boxR h (evalT t x) := by
  unfold runOp boxR; simp only [aop]; cases good (evalT t x) <;> rfl
@[simp] theorem box_agg {cs : Array Value} : boxR h (.agg cs) = some (.pointer (some (hnext h)), hnew h cs.toList 0) := rfl

def fillR (h : Heap) : Option (List Value) → Option (Value × Heap)
  | some l => some (.agg l.toArray, h)
  | none => none
@[simp] theorem op_build {z : List Value} {ps : List (Nat × Nat × Operand)} : runOp P cf (.build z ps) t h = fillR h (fillL z (ps.map fun (o, s, x) => (o, s, evalT t x))) := by
  unfold runOp fillR; simp only [aop]; cases fillL z (ps.map fun (o, s, x) => (o, s, evalT t x)) <;> rfl
@[simp] theorem fillR_some {l : List Value} : fillR h (some l) = some (.agg l.toArray, h) := rfl
def litR (h : Heap) (len es : Nat) : Option (List Value) → Option (Value × Heap)
  | some l => some (.slice (some (hnext h)) len len, hnew h l es)
  | none => none
@[simp] theorem op_lit {len es : Nat} {z : List Value} {ps : List (Nat × Nat × Operand)} : runOp P cf (.lit len es z ps) t h = litR h len es (fillL z (ps.map fun (o, s, x) => (o, s, evalT t x))) := by
  unfold runOp litR; simp only [aop]; cases fillL z (ps.map fun (o, s, x) => (o, s, evalT t x)) <;> rfl
@[simp] theorem litR_some {len es : Nat} {l : List Value} : litR h len es (some l) = some (.slice (some (hnext h)) len len, hnew h l es) := rfl
@[simp] theorem fill_nil {z : List Value} : fillL z [] = some z := rfl
theorem fill_cons {z : List Value} {o s : Nat} {v : Value} {r : List (Nat × Nat × Value)} : fillL z ((o, s, v) :: r) = if good v = false ∨ v.cells.size ≠ s ∨ o + v.cells.size > z.length then none else fillL (z.take o ++ v.cells.toList ++ z.drop (o + s)) r := rfl
@[simp] theorem fill_one {z : List Value} {o : Nat} {v : Value} {r : List (Nat × Nat × Value)} (hg : goodC v = true) (ho : o < z.length) : fillL z ((o, 1, v) :: r) = fillL (z.set o v) r := by
  have hc : v.cells = #[v] := by cases v <;> first | rfl | simp [goodC] at hg
  have hg' : good v = true := by cases v <;> first | rfl | simp [goodC] at hg
  rw [fill_cons, hc, if_neg (by simp [hg']; omega)]
  congr 1
  rw [List.set_eq_take_append_cons_drop, if_pos ho]
  simp

@[simp] theorem good_int {kd : IntKind} {n : Int} : goodC (.int kd n) = true := by simp [goodC]
@[simp] theorem good_bool {b : Bool} : goodC (.bool b) = true := by simp [goodC]
@[simp] theorem good_str {s : ByteArray} : goodC (.string s) = true := by simp [goodC]
@[simp] theorem good_ptr {a : Option Addr} : goodC (.pointer a) = true := by simp [goodC]
@[simp] theorem good_slice {a : Option Addr} {n c : Nat} : goodC (.slice a n c) = true := by simp [goodC]
@[simp] theorem good_iface {ty : TypeId} {v : Value} : goodC (.iface ty v) = true := by simp [goodC]
@[simp] theorem good_nili : goodC .nilIface = true := by simp [goodC]
@[simp] theorem good_nilf : goodC .nilFunc = true := by simp [goodC]
@[simp] theorem good_func {f : Fn} {a b : Array Value} : goodC (.func f a b) = true := by simp [goodC]
@[simp] theorem good_float {kd : FloatKind} {b} : goodC (.float kd b) = true := by simp [goodC]

def loadR (h : Heap) (agg : Option Nat) : Value → Option (Value × Heap)
  | .pointer (some a) => (aload h agg a).map fun v => (v, h)
  | _ => none
@[simp] theorem op_load {agg : Option Nat} {x : Operand} : runOp P cf (.load agg x) t h = loadR h agg (evalT t x) := by
  unfold runOp loadR; simp only [aop]
  split
  · rename_i a e
    split at e
    · rename_i q hq; rw [hq]; simp only; cases hl : aload h agg q <;> simp_all [toVal]
    · simp at e
  · rename_i e
    split at e
    · rename_i q hq; simp only [toVal] at e; split at e <;> simp at e
    · simp at e
  · rename_i e
    split at e
    · rename_i q hq; rw [hq]; simp only; cases hl : aload h agg q <;> simp_all [toVal]
    · split
      · rename_i q hq _; simp_all
      · rfl
@[simp] theorem load_ptr {a : Addr} : loadR h none (.pointer (some a)) = (hload h a).map fun v => (v, h) := rfl
@[simp] theorem load_agg {a : Addr} {n : Nat} : loadR h (some n) (.pointer (some a)) = (loadN h a n).map fun l => (.agg l.toArray, h) := by
  simp only [loadR, aload]; cases loadN h a n <;> rfl

def storeR (h : Heap) (n : Nat) : Value → Value → Option (Value × Heap)
  | .pointer (some p), v => if good v = true ∧ v.cells.size = n then (storeN h p v.cells.toList).map fun h' => (undef, h') else none
  | _, _ => none
@[simp] theorem op_store {n : Nat} {a x : Operand} : runOp P cf (.store n a x) t h = storeR h n (evalT t a) (evalT t x) := by
  unfold runOp storeR; simp only [aop]
  generalize evalT t a = u
  cases u with
  | pointer p =>
    cases p with
    | none => rfl
    | some p =>
      simp only
      by_cases hc : good (evalT t x) = true ∧ (evalT t x).cells.size = n
      · rw [if_pos hc, if_pos hc]; cases storeN h p (evalT t x).cells.toList <;> rfl
      · rw [if_neg hc, if_neg hc]
  | _ => rfl
@[simp] theorem store_one {p : Addr} {v : Value} (hg : goodC v = true) : storeR h 1 (.pointer (some p)) v = (hstore h p v).map fun h' => (undef, h') := by
  have hc : v.cells = #[v] := by cases v <;> first | rfl | simp [goodC] at hg
  have hg' : good v = true := by cases v <;> first | rfl | simp [goodC] at hg
  simp only [storeR, hc, hg']
  rw [if_pos (by simp)]
  simp only [storeN]
  cases hstore h p v <;> rfl
@[simp] theorem store_agg {p : Addr} {cs : Array Value} : storeR h cs.size (.pointer (some p)) (.agg cs) = (storeN h p cs.toList).map fun h' => (undef, h') := by
  simp only [storeR]
  rw [if_pos ⟨rfl, rfl⟩]; rfl

def chkR (h : Heap) : Value → Option (Value × Heap)
  | .pointer (some a) => some (.pointer (some a), h)
  | .iface ty v => some (.iface ty v, h)
  | .func (.func f) a b => some (.func (.func f) a b, h)
  | .func (.yield f) a b => some (.func (.yield f) a b, h)
  | _ => none
@[simp] theorem op_chk {x : Operand} : runOp P cf (.chk x) t h = chkR h (evalT t x) := by
  unfold runOp chkR; simp only [aop]
  generalize evalT t x = u
  cases u with
  | pointer p => cases p <;> rfl
  | func f a b => cases f <;> rfl
  | _ => rfl
@[simp] theorem chk_ptr {a : Addr} : chkR h (.pointer (some a)) = some (.pointer (some a), h) := rfl
@[simp] theorem chk_iface {ty : TypeId} {v : Value} : chkR h (.iface ty v) = some (.iface ty v, h) := rfl
@[simp] theorem chk_func {f : FuncId} {a b : Array Value} : chkR h (.func (.func f) a b) = some (.func (.func f) a b, h) := rfl
@[simp] theorem chk_yield {f : Nat} {a b : Array Value} : chkR h (.func (.yield f) a b) = some (.func (.yield f) a b, h) := rfl

def valR (h : Heap) : Option Value → Option (Value × Heap)
  | some v => some (v, h)
  | none => none
@[simp] theorem valR_some {v : Value} : valR h (some v) = some (v, h) := rfl
theorem toVal_run (x : Option Value) : (match toVal h x with | some (.val v h') => some (v, h') | some (.call f args) => cf f args h | none => none) = valR h x := by cases x <;> rfl

@[simp] theorem op_bin {op : BinOp} {ty : TypeId} {q : EqK} {x y : Operand} : runOp P cf (.bin op ty q x y) t h = valR h (abinop P h op ty q x y (evalT t x) (evalT t y)) := toVal_run _
@[simp] theorem op_un {op : UnOp} {x : Operand} : runOp P cf (.un op x) t h = valR h (aun P op (evalT t x)) := toVal_run _
@[simp] theorem bin_int {op : BinOp} {ty : TypeId} {q : EqK} {x y : Operand} {kd : IntKind} {a b : Int} : abinop P h op ty q x y (.int kd a) (.int kd b) = abin op kd a b := by simp [abinop]
@[simp] theorem bin_shl {ty : TypeId} {q : EqK} {x y : Operand} {kd kd' : IntKind} {a b : Int} : abinop P h .shl ty q x y (.int kd a) (.int kd' b) = abin .shl kd a b := by simp [abinop]
@[simp] theorem bin_shr {ty : TypeId} {q : EqK} {x y : Operand} {kd kd' : IntKind} {a b : Int} : abinop P h .shr ty q x y (.int kd a) (.int kd' b) = abin .shr kd a b := by simp [abinop]
theorem ab_add {kd : IntKind} {a b : Int} : abin .add kd a b = some (.int kd (kd.wrap (a + b))) := rfl
theorem ab_sub {kd : IntKind} {a b : Int} : abin .sub kd a b = some (.int kd (kd.wrap (a - b))) := rfl
theorem ab_mul {kd : IntKind} {a b : Int} : abin .mul kd a b = some (.int kd (kd.wrap (a * b))) := rfl
theorem ab_quo {kd : IntKind} {a b : Int} : abin .quo kd a b = if b = 0 then none else some (.int kd (kd.wrap (a.tdiv b))) := rfl
theorem ab_rem {kd : IntKind} {a b : Int} : abin .rem kd a b = if b = 0 then none else some (.int kd (a.tmod b)) := rfl
@[simp] theorem ab_add_i64 {a b : Int} : abin .add .i64 a b = some (.int .i64 (IntKind.wrap .i64 (a + b))) := rfl
@[simp] theorem ab_sub_i64 {a b : Int} : abin .sub .i64 a b = some (.int .i64 (IntKind.wrap .i64 (a - b))) := rfl
@[simp] theorem ab_mul_i64 {a b : Int} : abin .mul .i64 a b = some (.int .i64 (IntKind.wrap .i64 (a * b))) := rfl
@[simp] theorem ab_quo_i64 {a b : Int} : abin .quo .i64 a b = if b = 0 then none else some (.int .i64 (IntKind.wrap .i64 (a.tdiv b))) := rfl
@[simp] theorem ab_rem_i64 {a b : Int} : abin .rem .i64 a b = if b = 0 then none else some (.int .i64 (a.tmod b)) := rfl
@[simp] theorem ab_eql {kd : IntKind} {a b : Int} : abin .eql kd a b = some (.bool (decide (a = b))) := rfl
@[simp] theorem ab_neq {kd : IntKind} {a b : Int} : abin .neq kd a b = some (.bool (decide (¬ a = b))) := by
  show some (Value.bool (!(a == b))) = _
  congr 2
  by_cases e : a = b <;> simp [e]
@[simp] theorem ab_lss {kd : IntKind} {a b : Int} : abin .lss kd a b = some (.bool (decide (a < b))) := rfl
@[simp] theorem ab_leq {kd : IntKind} {a b : Int} : abin .leq kd a b = some (.bool (decide (a ≤ b))) := rfl
@[simp] theorem ab_gtr {kd : IntKind} {a b : Int} : abin .gtr kd a b = some (.bool (decide (b < a))) := rfl
@[simp] theorem ab_geq {kd : IntKind} {a b : Int} : abin .geq kd a b = some (.bool (decide (b ≤ a))) := rfl
@[simp] theorem eq_ptr_nil {ty : TypeId} {n : Nat} {x y : Operand} {a : Addr} : abinop P h .eql ty (.ptr n) x y (.pointer (some a)) (.pointer none) = some (.bool false) := rfl
@[simp] theorem eq_nil_nil {ty : TypeId} {n : Nat} {x y : Operand} : abinop P h .eql ty (.ptr n) x y (.pointer none) (.pointer none) = some (.bool true) := rfl
@[simp] theorem ne_ptr_nil {ty : TypeId} {n : Nat} {x y : Operand} {a : Addr} : abinop P h .neq ty (.ptr n) x y (.pointer (some a)) (.pointer none) = some (.bool true) := rfl
@[simp] theorem ne_nil_nil {ty : TypeId} {n : Nat} {x y : Operand} : abinop P h .neq ty (.ptr n) x y (.pointer none) (.pointer none) = some (.bool false) := rfl
@[simp] theorem eq_sl_nil {ty : TypeId} {x y : Operand} {a : Option Addr} {n c : Nat} : abinop P h .eql ty .slice x y (.slice a n c) (.slice none 0 0) = some (.bool a.isNone) := by cases a <;> rfl
@[simp] theorem ne_sl_nil {ty : TypeId} {x y : Operand} {a : Option Addr} {n c : Nat} : abinop P h .neq ty .slice x y (.slice a n c) (.slice none 0 0) = some (.bool a.isSome) := by cases a <;> rfl
@[simp] theorem eq_bool {ty : TypeId} {x y : Operand} {a b : Bool} : abinop P h .eql ty .bool x y (.bool a) (.bool b) = some (.bool (a == b)) := rfl
@[simp] theorem ne_bool {ty : TypeId} {x y : Operand} {a b : Bool} : abinop P h .neq ty .bool x y (.bool a) (.bool b) = some (.bool (a != b)) := rfl
@[simp] theorem eq_fn_nil {ty : TypeId} {x y : Operand} {f : Fn} {a b : Array Value} : abinop P h .eql ty .func x y (.func f a b) .nilFunc = some (.bool false) := rfl
@[simp] theorem un_not {b : Bool} : aun P .not (.bool b) = some (.bool (!b)) := rfl

def convR (P : Program) (h : Heap) (kd : IntKind) (s d : TypeId) : Value → Option (Value × Heap)
  | .int _ n => some (.int kd (kd.wrap n), h)
  | x => if plain x then valR h (pures P (convert s d x)) else none
@[simp] theorem op_convI {kd : IntKind} {s d : TypeId} {x : Operand} : runOp P cf (.convI kd s d x) t h = convR P h kd s d (evalT t x) := by
  unfold runOp convR; simp only [aop]
  generalize evalT t x = u
  cases u <;> try rfl
  all_goals
    simp only
    split <;> rename_i e
    · split at e
      · rename_i hp; rw [if_pos hp]; unfold toVal at e; split at e
        · rename_i hv; simp at e; obtain ⟨rfl, rfl⟩ := e; rw [hv]; rfl
        · simp at e
      · simp at e
    · split at e
      · unfold toVal at e; split at e <;> simp at e
      · simp at e
    · split at e
      · rename_i hp; rw [if_pos hp]; unfold toVal at e; split at e
        · simp at e
        · rename_i hv; rw [hv]; rfl
      · rename_i hp; rw [if_neg hp]
@[simp] theorem conv_int {kd kd' : IntKind} {s d : TypeId} {n : Int} : convR P h kd s d (.int kd' n) = some (.int kd (kd.wrap n), h) := rfl

@[simp] theorem op_mkF {f : Fn} {a b : List Operand} : runOp P cf (.mkF f a b) t h = some (.func f (a.map (evalT t)).toArray (b.map (evalT t)).toArray, h) := rfl
@[simp] theorem op_mkI {ty : TypeId} {x : Operand} : runOp P cf (.mkI ty x) t h = some (.iface ty (evalT t x), h) := rfl

def mkSR (h : Heap) (es bytes : Nat) (zero : List Value) : Value → Value → Option (Value × Heap)
  | .int .i64 l, .int .i64 c =>
      if 0 ≤ l ∧ l ≤ c ∧ c * bytes ≤ 140737488355328 ∧ c ≤ 140737488355328 ∧ zero.length = es then
        some (.slice (some (hnext h)) l.toNat c.toNat, hnew h (List.replicate c.toNat zero).flatten es)
      else none
  | _, _ => none
@[simp] theorem op_mkS {es bytes : Nat} {zero : List Value} {l c : Operand} : runOp P cf (.mkS es bytes zero l c) t h = mkSR h es bytes zero (evalT t l) (evalT t c) := by
  unfold runOp mkSR; simp only [aop]
  split <;> rename_i e
  · split at e
    · split at e
      · rename_i hl hc hh; simp at e; obtain ⟨rfl, rfl⟩ := e; rw [hl, hc]; simp only; rw [if_pos hh]
      · simp at e
    · simp at e
  · split at e
    · split at e <;> simp at e
    · simp at e
  · split at e
    · split at e
      · simp at e
      · rename_i hl hc hh; rw [hl, hc]; simp only; rw [if_neg hh]
    · split
      · rename_i h1 h2 h3 h4; simp_all
      · rfl
@[simp] theorem mkS_nat {bytes n : Nat} {z : Value} (hn : n * bytes ≤ 140737488355328) (hn' : n ≤ 140737488355328) : mkSR h 1 bytes [z] (.int .i64 n) (.int .i64 n) = some (.slice (some (hnext h)) n n, hnew h (List.replicate n z) 1) := by
  unfold mkSR
  simp only
  rw [if_pos ⟨by omega, by omega, by have := Int.ofNat_le.2 hn; rw [Int.natCast_mul] at this; exact this, by omega, rfl⟩]
  have : (List.replicate n [z]).flatten = List.replicate n z := by
    induction n with
    | zero => rfl
    | succ n ih => rw [List.replicate_succ, List.flatten_cons, ih (by rw [Nat.succ_mul] at hn; omega) (by omega)]; rfl
  simp [this]

@[simp] theorem op_slc {es : Nat} {x : Operand} {lo hi mx : Option Operand} : runOp P cf (.slc es x lo hi mx) t h = valR h (aslice h es (evalT t x) (lo.map (evalT t)) (hi.map (evalT t)) (mx.map (evalT t))) := toVal_run _

def fadR (h : Heap) (off : Nat) : Value → Option (Value × Heap)
  | .pointer (some a) => some (.pointer (some (aadd a off)), h)
  | _ => none
@[simp] theorem op_fad {off : Nat} {x : Operand} : runOp P cf (.fad off x) t h = fadR h off (evalT t x) := by
  unfold runOp fadR; simp only [aop]
  generalize evalT t x = u
  cases u with
  | pointer p => cases p <;> rfl
  | _ => rfl
@[simp] theorem fad_ptr {off : Nat} {a : Addr} : fadR h off (.pointer (some a)) = some (.pointer (some (aadd a off)), h) := rfl

def fldR (h : Heap) (agg : Option Nat) (off : Nat) : Value → Option (Value × Heap)
  | .agg cs => valR h (apart agg cs off)
  | _ => none
@[simp] theorem op_fld {agg : Option Nat} {off : Nat} {x : Operand} : runOp P cf (.fld agg off x) t h = fldR h agg off (evalT t x) := by
  unfold runOp fldR; simp only [aop]
  generalize evalT t x = u
  cases u with
  | agg cs => exact toVal_run (cf := cf) _
  | _ => rfl
@[simp] theorem fld_agg {agg : Option Nat} {off : Nat} {cs : Array Value} : fldR h agg off (.agg cs) = valR h (apart agg cs off) := rfl

def iadR (h : Heap) (es : Nat) : Value → Value → Option (Value × Heap)
  | .slice (some a) len _, .int _ i => if 0 ≤ i ∧ i < len then some (.pointer (some (aadd a (i.toNat * es))), h) else none
  | _, _ => none
@[simp] theorem op_iadS {es : Nat} {x i : Operand} : runOp P cf (.iadS es x i) t h = iadR h es (evalT t x) (evalT t i) := by
  unfold runOp iadR; simp only [aop]
  generalize evalT t x = u
  generalize evalT t i = v
  cases u with
  | slice a n c =>
    cases a with
    | none => cases v <;> rfl
    | some a =>
      cases v with
      | int kd i => simp only; by_cases hc : 0 ≤ i ∧ i < n <;> simp [hc]
      | _ => rfl
  | _ => cases v <;> rfl
@[simp] theorem iad_nat {es j len c : Nat} {a : Addr} {kd : IntKind} (hj : j < len) : iadR h es (.slice (some a) len c) (.int kd (j : Nat)) = some (.pointer (some (aadd a (j * es))), h) := by
  unfold iadR; simp only; rw [if_pos ⟨by omega, by omega⟩]; rfl

def lenR (h : Heap) : Value → Option (Value × Heap)
  | .slice _ n _ => some (.int .i64 n, h)
  | _ => none
@[simp] theorem op_len {x : Operand} : runOp P cf (.len x) t h = lenR h (evalT t x) := by
  unfold runOp lenR; simp only [aop]
  generalize evalT t x = u
  cases u <;> rfl
@[simp] theorem len_slice {a : Option Addr} {n c : Nat} : lenR h (.slice a n c) = some (.int .i64 n, h) := rfl

def extrR (h : Heap) (i : Nat) : Value → Option (Value × Heap)
  | .tuple vs => valR h vs[i]?
  | _ => none
@[simp] theorem op_extr {i : Nat} {x : Operand} : runOp P cf (.extr x i) t h = extrR h i (evalT t x) := by
  unfold runOp extrR; simp only [aop]
  generalize evalT t x = u
  cases u with
  | tuple vs => exact toVal_run (cf := cf) _
  | _ => rfl
@[simp] theorem extr_tuple {i : Nat} {vs : Array Value} : extrR h i (.tuple vs) = valR h vs[i]? := rfl

@[simp] theorem op_app {es bytes : Nat} {zero : List Value} {s x : Operand} : runOp P cf (.app es bytes zero s x) t h = aappend h es bytes zero (evalT t s) (evalT t x) := by
  unfold runOp; simp only [aop, toRes]
  split <;> rename_i e
  · split at e
    · simp at e; obtain ⟨rfl, rfl⟩ := e; rename_i hq; exact hq.symm
    · simp at e
  · split at e <;> simp at e
  · split at e
    · simp at e
    · rename_i hq; exact hq.symm
@[simp] theorem op_copy {es : Nat} {d s : Operand} : runOp P cf (.copy es d s) t h = acopy h es (evalT t d) (evalT t s) := by
  unfold runOp; simp only [aop, toRes]
  split <;> rename_i e
  · split at e
    · simp at e; obtain ⟨rfl, rfl⟩ := e; rename_i hq; exact hq.symm
    · simp at e
  · split at e <;> simp at e
  · split at e
    · simp at e
    · rename_i hq; exact hq.symm

def callR (cf : CF) (h : Heap) : Option ARes → Option (Value × Heap)
  | some (.call f args) => cf f args h
  | some (.val v h') => some (v, h')
  | none => none
@[simp] theorem op_call {f : Operand} {args : List Operand} : runOp P cf (.call f args) t h = callR cf h (acallee (evalT t f) (args.map (evalT t))) := by
  unfold runOp callR; simp only [aop]
  cases acallee (evalT t f) (args.map (evalT t)) with
  | none => rfl
  | some q => cases q <;> rfl
@[simp] theorem callee_fn {id : FuncId} {a b : Array Value} {args : List Value} : acallee (.func (.func id) a b) args = some (.call (.fn id) (a.toList ++ args ++ b.toList)) := rfl
@[simp] theorem callee_yield {l : Nat} {a : Array Value} {args : List Value} : acallee (.func (.yield l) a #[]) args = some (.call (.yield l) (a.toList ++ args)) := rfl
@[simp] theorem call_eq {f : Tgt} {args : List Value} : callR cf h (some (.call f args)) = cf f args h := rfl

def mmR (P : Program) (h : Heap) (mx : Bool) (l : List Value) : Option (Value × Heap) :=
  match l with
  | [.int k a, .int _ b] => some (.int k (if mx then (if b > a then b else a) else (if b < a then b else a)), h)
  | l => if l.all plain then valR h (pures P (if mx then Builtin.max_ #[] 0 l.toArray else Builtin.min_ #[] 0 l.toArray)) else none
@[simp] theorem op_mm {mx : Bool} {args : List Operand} : runOp P cf (.mm mx args) t h = mmR P h mx (args.map (evalT t)) := by
  unfold runOp mmR; simp only [aop]
  split <;> rename_i e
  · split at e
    · simp at e; obtain ⟨rfl, rfl⟩ := e; rename_i hq; rw [hq]
    · rename_i hne
      split at e
      · rename_i hp; unfold toVal at e; split at e
        · rename_i hv; simp at e; obtain ⟨rfl, rfl⟩ := e; split
          · rename_i hq; exact absurd hq (hne _ _ _ _)
          · rw [if_pos hp, hv]; rfl
        · simp at e
      · simp at e
  · split at e
    · simp at e
    · split at e
      · unfold toVal at e; split at e <;> simp at e
      · simp at e
  · split at e
    · simp at e
    · rename_i hne
      split at e
      · rename_i hp; unfold toVal at e; split at e
        · simp at e
        · rename_i hv; split
          · rename_i hq; exact absurd hq (hne _ _ _ _)
          · rw [if_pos hp, hv]; rfl
      · rename_i hp; split
        · rename_i hq; exact absurd hq (hne _ _ _ _)
        · rw [if_neg hp]
@[simp] theorem mm_int {mx : Bool} {kd kd' : IntKind} {a b : Int} : mmR P h mx [.int kd a, .int kd' b] = some (.int kd (if mx then max a b else min a b), h) := by
  simp only [mmR]
  congr 3
  split
  · split <;> omega
  · split <;> omega

@[simp] theorem res_nil {t : List Value} : resVals t h [] = some [] := rfl
@[simp] theorem res_tmp {i : Nat} {r : List ARs} : resVals t h (.tmp i :: r) = (resVals t h r).map fun l => t.getD i undef :: l := by
  simp only [resVals]; cases resVals t h r <;> rfl
@[simp] theorem oneOf_one {v : Value} : oneOf [v] = v := rfl
@[simp] theorem oneOf_two {v u : Value} {l : List Value} : oneOf (v :: u :: l) = .tuple (v :: u :: l).toArray := rfl

@[simp] theorem useHeap_load {agg : Option Nat} {x : Operand} : useHeap (.load agg x) = true := by simp [useHeap, isEff]
@[simp] theorem useHeap_mv {x : Operand} : useHeap (.mv x) = false := by simp [useHeap, isEff]
@[simp] theorem useHeap_pick {c a b : Operand} : useHeap (.pick c a b) = false := by simp [useHeap, isEff]
@[simp] theorem useHeap_chk {x : Operand} : useHeap (.chk x) = false := by simp [useHeap, isEff]
@[simp] theorem useHeap_fad {n : Nat} {x : Operand} : useHeap (.fad n x) = false := by simp [useHeap, isEff]
@[simp] theorem useHeap_iadS {n : Nat} {x i : Operand} : useHeap (.iadS n x i) = false := by simp [useHeap, isEff]
@[simp] theorem useHeap_len {x : Operand} : useHeap (.len x) = false := by simp [useHeap, isEff]
@[simp] theorem useHeap_extr {x : Operand} {i : Nat} : useHeap (.extr x i) = false := by simp [useHeap, isEff]
@[simp] theorem useHeap_un {op : UnOp} {x : Operand} : useHeap (.un op x) = false := by simp [useHeap, isEff]
@[simp] theorem useHeap_mm {b : Bool} {x : List Operand} : useHeap (.mm b x) = false := by simp [useHeap, isEff]
@[simp] theorem useHeap_convI {kd : IntKind} {s d : TypeId} {x : Operand} : useHeap (.convI kd s d x) = false := by simp [useHeap, isEff]
@[simp] theorem useHeap_build {z : List Value} {ps : List (Nat × Nat × Operand)} : useHeap (.build z ps) = false := by simp [useHeap, isEff]
@[simp] theorem useHeap_slc {es : Nat} {x : Operand} {lo hi mx : Option Operand} : useHeap (.slc es x lo hi mx) = true := by simp [useHeap, isEff]
@[simp] theorem useHeap_bin {op : BinOp} {ty : TypeId} {x y : Operand} : useHeap (.bin op ty .other x y) = false := by simp [useHeap, isEff]
@[simp] theorem useHeap_binb {op : BinOp} {ty : TypeId} {x y : Operand} : useHeap (.bin op ty .bool x y) = false := by simp [useHeap, isEff]
@[simp] theorem useHeap_bins {op : BinOp} {ty : TypeId} {x y : Operand} : useHeap (.bin op ty .slice x y) = false := by simp [useHeap, isEff]
@[simp] theorem useHeap_binp {op : BinOp} {ty : TypeId} {n : Nat} {x y : Operand} : useHeap (.bin op ty (.ptr n) x y) = true := by simp [useHeap, isEff]

def vsame (v : Value) : Option Value → Bool
  | some v' => veqN 6 v v'
  | none => false

theorem same_load {agg : Option Nat} {x : Operand} {v : Value} : same P (.load agg x) t v h = vsame v ((loadR h agg (evalT t x)).map (·.1)) := by
  unfold same; simp only [useHeap_load, Bool.not_true, Bool.false_or, aop]
  generalize evalT t x = u
  cases u with
  | pointer p =>
    cases p with
    | none => rfl
    | some a => simp only [loadR]; cases aload h agg a <;> rfl
  | _ => rfl

theorem same_slc {es : Nat} {x : Operand} {lo hi mx : Option Operand} {v : Value} : same P (.slc es x lo hi mx) t v h = vsame v (aslice h es (evalT t x) (lo.map (evalT t)) (hi.map (evalT t)) (mx.map (evalT t))) := by
  unfold same; simp only [useHeap_slc, Bool.not_true, Bool.false_or, aop]
  cases aslice h es (evalT t x) (lo.map (evalT t)) (hi.map (evalT t)) (mx.map (evalT t)) <;> rfl

theorem veqN_self_int {n : Nat} {kd : IntKind} {i : Int} : veqN n (.int kd i) (.int kd i) = true := by cases n <;> simp [veqN]
theorem veqN_self_bool {n : Nat} {b : Bool} : veqN n (.bool b) (.bool b) = true := by cases n <;> simp [veqN]
theorem veqN_self_ptr {n : Nat} {a : Option Addr} : veqN n (.pointer a) (.pointer a) = true := by cases n <;> simp [veqN]
theorem veqN_self_slice {n : Nat} {a : Option Addr} {l c : Nat} : veqN n (.slice a l c) (.slice a l c) = true := by cases n <;> simp [veqN]
theorem veqN_self_str {n : Nat} {s : ByteArray} : veqN n (.string s) (.string s) = true := by cases n <;> simp [veqN]
@[simp] theorem vsame_int {kd : IntKind} {i : Int} : vsame (.int kd i) (some (.int kd i)) = true := veqN_self_int
@[simp] theorem vsame_bool {b : Bool} : vsame (.bool b) (some (.bool b)) = true := veqN_self_bool
@[simp] theorem vsame_ptr {a : Option Addr} : vsame (.pointer a) (some (.pointer a)) = true := veqN_self_ptr
@[simp] theorem vsame_slice {a : Option Addr} {l c : Nat} : vsame (.slice a l c) (some (.slice a l c)) = true := veqN_self_slice
@[simp] theorem vsame_str {s : ByteArray} : vsame (.string s) (some (.string s)) = true := veqN_self_str
attribute [simp] same_load same_slc

theorem wrap_i64 {x : Int} (h1 : -9223372036854775808 ≤ x) (h2 : x < 9223372036854775808) : IntKind.wrap .i64 x = x := by
  simp [IntKind.wrap, IntKind.bits, IntKind.signed]
  omega
theorem wrap_u64 {x : Int} (h1 : 0 ≤ x) (h2 : x < 18446744073709551616) : IntKind.wrap .u64 x = x := by
  simp [IntKind.wrap, IntKind.bits, IntKind.signed]
  omega

/-- To show what a function gives: its walk, with what is to be shown behind it by name. -/
theorem gives_by {f : FuncId} {a : AFn} (ha : T f = some a) {args : List Value} (hl : args.length ≤ a.ntmps) {R : Value → Heap → Prop}
    (g : ∀ Q : Value → Heap → Prop, (∀ v h', R v h' → Q v h') → Go P T a.code (envT a.ntmps (args.mapIdx fun i v => (i, v))) h (.fin a.results Q)) : Gives P T (.fn f) args h R :=
  gives_go ha hl (g R fun _ _ h => h)

end
end Go.Ax
