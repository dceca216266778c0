/- An abstract machine for Go programs: how its memory stands to the model's. -/
import Derived.Test.YtpemffaclmpnnaaDoorMA
import Derived.Laws.Sem
import Derived.Laws.Entries
namespace Go.Ax
set_option linter.unusedVariables false
set_option linter.unusedSimpArgs false

/-- Where the abstract things lie in the model's world. -/
structure Ghost where
  m : Nat → Nat → Option Nat
  room : Nat → Nat → Nat
  es : Nat → Nat
  ro : Nat → Addr
  lp : Nat → Option Nat

/-- Where a block of the memory that is only read lies: package variables keep their numbers. -/
def roA (g : Ghost) (b : Nat) : Addr := if b < 4294967296 then ⟨b, 0, none⟩ else g.ro b

def ARel (g : Ghost) (a r : Addr) : Prop :=
  r.spot = none ∧
  match a.spot with
  | none => r.block = (roA g a.block).block ∧ r.off = (roA g a.block).off + a.off
  | some v => g.m a.block v = some r.block ∧ r.off = a.off

inductive VRel (g : Ghost) : Value → Value → Prop
  | top (y : Value) : VRel g undef y
  | skip : VRel g skipV undef
  | bool (b : Bool) : VRel g (.bool b) (.bool b)
  | int (k : IntKind) (n : Int) : VRel g (.int k n) (.int k n)
  | float (k : FloatKind) (n : Nat) : VRel g (.float k n) (.float k n)
  | cell (y : Value) (h : goodC y = true) : VRel g cellV y
  | nan (r : Nat) (h : ∀ c, Ieee.double.order r c = none) : VRel g nanV (.float .f64 r)
  | complex (k : FloatKind) (n m : Nat) : VRel g (.complex k n m) (.complex k n m)
  | string (s : ByteArray) : VRel g (.string s) (.string s)
  | ptrN : VRel g (.pointer none) (.pointer none)
  | nilFunc : VRel g .nilFunc .nilFunc
  | nilIface : VRel g .nilIface .nilIface
  | ptr {a r : Addr} (h : ARel g a r) : VRel g (.pointer (some a)) (.pointer (some r))
  | sliN (l c : Nat) : VRel g (.slice none l c) (.slice none l c)
  | sliK {a r : Addr} (len cap : Nat) (h : ARel g a r) (hc : cap < gcap) : VRel g (.slice (some a) len cap) (.slice (some r) len cap)
  | sliU {a r : Addr} (len rcap : Nat) (h : ARel g a r) (hl : len ≤ rcap)
      (hr : ∀ v, a.spot = some v → a.off + rcap * g.es a.block = g.room a.block v) :
      VRel g (.slice (some a) len gcap) (.slice (some r) len rcap)
  | sliE (r : Addr) (rcap : Nat) : VRel g (.slice (some ⟨0, 0, none⟩) 0 (gcap + 1)) (.slice (some r) 0 rcap)
  | func (fn : Fn) {a b c d : Array Value} (hf : ∀ l, fn ≠ .yield l) (h1 : a.size = b.size) (h2 : c.size = d.size)
      (ha : ∀ (i : Nat) (x y : Value), a[i]? = some x → b[i]? = some y → VRel g x y) (hc : ∀ (i : Nat) (x y : Value), c[i]? = some x → d[i]? = some y → VRel g x y) :
      VRel g (.func fn a c) (.func fn b d)
  | yield {l r : Nat} (h : g.lp l = some r) : VRel g (.func (.yield l) #[] #[]) (.func (.yield r) #[] #[])
  | iface (t : TypeId) {x y : Value} (h : VRel g x y) : VRel g (.iface t x) (.iface t y)
  | agg {a b : Array Value} (hs : a.size = b.size) (h : ∀ (i : Nat) (x y : Value), a[i]? = some x → b[i]? = some y → VRel g x y) : VRel g (.agg a) (.agg b)
  | tuple {a b : Array Value} (hs : a.size = b.size) (h : ∀ (i : Nat) (x y : Value), a[i]? = some x → b[i]? = some y → VRel g x y) : VRel g (.tuple a) (.tuple b)

def InR (g : Ghost) (r : Nat) : Prop := (∃ b v, g.m b v = some r) ∨ ∃ l, g.lp l = some r

structure Gle (g g' : Ghost) : Prop where
  m : ∀ b v r, g.m b v = some r → g'.m b v = some r
  room : ∀ b v r, g.m b v = some r → g'.room b v = g.room b v
  es : ∀ b v r, g.m b v = some r → g'.es b = g.es b
  ro : g'.ro = g.ro
  lp : ∀ l r, g.lp l = some r → g'.lp l = some r

theorem Gle.refl (g : Ghost) : Gle g g := ⟨fun _ _ _ h => h, fun _ _ _ _ => rfl, fun _ _ _ _ => rfl, rfl, fun _ _ h => h⟩

theorem Gle.trans {a b c : Ghost} (h : Gle a b) (k : Gle b c) : Gle a c :=
  ⟨fun x v r e => k.m _ _ _ (h.m _ _ _ e), fun x v r e => (k.room _ _ _ (h.m _ _ _ e)).trans (h.room _ _ _ e),
   fun x v r e => (k.es _ _ _ (h.m _ _ _ e)).trans (h.es _ _ _ e), k.ro.trans h.ro, fun l r e => k.lp _ _ (h.lp _ _ e)⟩

theorem ARel.mono {g g' : Ghost} (hg : Gle g g') {a r : Addr} (h : ARel g a r) : ARel g' a r := by
  obtain ⟨h0, h1⟩ := h
  refine ⟨h0, ?_⟩
  cases hs : a.spot with
  | none => rw [hs] at h1; simpa [roA, hg.ro] using h1
  | some v => rw [hs] at h1; exact ⟨hg.m _ _ _ h1.1, h1.2⟩

theorem VRel.mono {g g' : Ghost} (hg : Gle g g') {x y : Value} (h : VRel g x y) : VRel g' x y := by
  induction h with
  | top y => exact .top y
  | skip => exact .skip
  | bool b => exact .bool b
  | int k n => exact .int k n
  | float k n => exact .float k n
  | nan r h => exact .nan r h
  | cell y h => exact .cell y h
  | complex k n m => exact .complex k n m
  | string s => exact .string s
  | ptrN => exact .ptrN
  | nilFunc => exact .nilFunc
  | nilIface => exact .nilIface
  | ptr h => exact .ptr (h.mono hg)
  | sliN l c => exact .sliN l c
  | sliK len cap h hc => exact .sliK len cap (h.mono hg) hc
  | @sliU a r len rcap h hl hr =>
    refine .sliU len rcap (h.mono hg) hl fun v hv => ?_
    have h1 := h.2
    rw [hv] at h1
    rw [hg.es _ _ _ h1.1, hg.room _ _ _ h1.1]
    exact hr v hv
  | sliE r rcap => exact .sliE r rcap
  | func fn hf h1 h2 _ _ iha ihc => exact .func fn hf h1 h2 iha ihc
  | yield h => exact .yield (hg.lp _ _ h)
  | iface t _ ih => exact .iface t ih
  | agg hs _ ih => exact .agg hs ih
  | tuple hs _ ih => exact .tuple hs ih

def LR (g : Ghost) (xs ys : List Value) : Prop := xs.length = ys.length ∧ ∀ (i : Nat) (x y : Value), xs[i]? = some x → ys[i]? = some y → VRel g x y

theorem LR.mono {g g' : Ghost} (hg : Gle g g') {xs ys : List Value} (h : LR g xs ys) : LR g' xs ys := ⟨h.1, fun i x y a b => (h.2 i x y a b).mono hg⟩

theorem LR.nil (g : Ghost) : LR g [] [] := ⟨rfl, fun i x y h => by simp at h⟩

theorem LR.cons {g : Ghost} {x y : Value} {xs ys : List Value} (h : VRel g x y) (t : LR g xs ys) : LR g (x :: xs) (y :: ys) := by
  refine ⟨by simp [t.1], fun i a b ha hb => ?_⟩
  cases i with
  | zero => simp at ha hb; subst ha; subst hb; exact h
  | succ i => simp at ha hb; exact t.2 i a b ha hb

theorem LR.of_cons {g : Ghost} {x y : Value} {xs ys : List Value} (h : LR g (x :: xs) (y :: ys)) : VRel g x y ∧ LR g xs ys :=
  ⟨h.2 0 x y rfl rfl, by simpa using h.1, fun i a b ha hb => h.2 (i + 1) a b (by simpa using ha) (by simpa using hb)⟩

theorem LR.cons_inv {g : Ghost} {x : Value} {xs ys : List Value} (h : LR g (x :: xs) ys) : ∃ y ys', ys = y :: ys' ∧ VRel g x y ∧ LR g xs ys' := by
  cases ys with
  | nil => have := h.1; simp at this
  | cons y ys' => exact ⟨y, ys', rfl, h.of_cons.1, h.of_cons.2⟩

theorem LR.nil_inv {g : Ghost} {ys : List Value} (h : LR g [] ys) : ys = [] := by
  have := h.1; cases ys <;> simp_all

theorem LR.append {g : Ghost} {a b c d : List Value} (h : LR g a b) (k : LR g c d) : LR g (a ++ c) (b ++ d) := by
  refine ⟨by simp [h.1, k.1], fun i x y hx hy => ?_⟩
  have e := h.1
  by_cases hi : i < a.length
  · rw [List.getElem?_append_left hi] at hx
    rw [List.getElem?_append_left (by omega)] at hy
    exact h.2 i x y hx hy
  · rw [List.getElem?_append_right (by omega)] at hx
    rw [List.getElem?_append_right (by omega), ← e] at hy
    exact k.2 _ x y hx hy

theorem LR.get {g : Ghost} {xs ys : List Value} (h : LR g xs ys) {i : Nat} {x : Value} (hx : xs[i]? = some x) : ∃ y, ys[i]? = some y ∧ VRel g x y := by
  have hi : i < xs.length := by
    rcases Nat.lt_or_ge i xs.length with h' | h'
    · exact h'
    · rw [List.getElem?_eq_none h'] at hx; simp at hx
  have hi' : i < ys.length := by rw [← h.1]; exact hi
  exact ⟨ys[i], List.getElem?_eq_getElem hi', h.2 i x _ hx (List.getElem?_eq_getElem hi')⟩

theorem LR.set {g : Ghost} {xs ys : List Value} (h : LR g xs ys) {x y : Value} (hv : VRel g x y) (d : Nat) : LR g (xs.set d x) (ys.set d y) := by
  refine ⟨by simp [h.1], fun i a b ha hb => ?_⟩
  by_cases e : d = i
  · subst e
    rw [List.getElem?_set] at ha hb
    simp at ha hb
    rw [← ha.2, ← hb.2]; exact hv
  · rw [List.getElem?_set_ne e] at ha hb
    exact h.2 i a b ha hb

theorem LR.take {g : Ghost} {xs ys : List Value} (h : LR g xs ys) (n : Nat) : LR g (xs.take n) (ys.take n) := by
  refine ⟨by simp [h.1], fun i a b ha hb => ?_⟩
  rw [List.getElem?_take] at ha hb
  split at ha <;> simp_all
  exact h.2 i a b ha hb

theorem LR.drop {g : Ghost} {xs ys : List Value} (h : LR g xs ys) (n : Nat) : LR g (xs.drop n) (ys.drop n) := by
  refine ⟨by simp [h.1], fun i a b ha hb => ?_⟩
  rw [List.getElem?_drop] at ha hb
  exact h.2 _ a b ha hb

theorem LR.replicate {g : Ghost} {x y : Value} (h : VRel g x y) (n : Nat) : LR g (List.replicate n x) (List.replicate n y) := by
  refine ⟨by simp, fun i a b ha hb => ?_⟩
  rw [List.getElem?_replicate] at ha hb
  split at ha <;> simp_all

theorem LR.map {g : Ghost} {α : Type} (l : List α) (f f' : α → Value) (h : ∀ a ∈ l, VRel g (f a) (f' a)) : LR g (l.map f) (l.map f') := by
  refine ⟨by simp, fun i a b ha hb => ?_⟩
  rw [List.getElem?_map] at ha hb
  cases hl : l[i]? with
  | none => simp [hl] at ha
  | some z =>
    simp [hl] at ha hb
    subst ha; subst hb
    exact h z (List.mem_of_getElem? hl)

/-! ### values without an address -/

theorem plainN_eq {g : Ghost} : ∀ (n : Nat) {x y : Value}, plainN n x = true → VRel g x y → y = x := by
  intro n
  induction n with
  | zero =>
    intro x y hp h
    cases h <;> simp_all [plainN, undef, skipV, nanV, cellV]
  | succ n ih =>
    intro x y hp h
    cases h with
    | top => simp [plainN, undef] at hp
    | skip => simp [plainN, skipV] at hp
    | nan => simp [plainN, nanV] at hp
    | cell => simp [plainN, cellV] at hp
    | iface t h => simp only [plainN] at hp; rw [ih hp h]
    | @agg a b hs h =>
      simp only [plainN, List.all_eq_true] at hp
      congr 1
      refine Array.ext (by omega) fun i h1 h2 => ?_
      exact ih (hp a[i] (by simp)) (h i a[i] b[i] (Array.getElem?_eq_getElem h2) (Array.getElem?_eq_getElem h1))
    | @tuple a b hs h =>
      simp only [plainN, List.all_eq_true, Bool.and_eq_true] at hp
      congr 1
      refine Array.ext (by omega) fun i h1 h2 => ?_
      exact ih (hp.2 a[i] (by simp)) (h i a[i] b[i] (Array.getElem?_eq_getElem h2) (Array.getElem?_eq_getElem h1))
    | func => simp [plainN] at hp
    | yield => simp [plainN] at hp
    | ptr => simp [plainN] at hp
    | sliK => simp [plainN] at hp
    | sliU => simp [plainN] at hp
    | sliE => simp [plainN] at hp
    | _ => rfl

theorem plainN_refl {g : Ghost} : ∀ (n : Nat) {x : Value}, plainN n x = true → VRel g x x := by
  intro n
  induction n with
  | zero =>
    intro x hp
    cases x with
    | pointer a => cases a with | none => constructor | some a => simp [plainN] at hp
    | slice a l c => cases a with | none => constructor | some a => simp [plainN] at hp
    | map => simp [plainN] at hp
    | chan => simp [plainN] at hp
    | func => simp [plainN] at hp
    | iface => simp [plainN] at hp
    | agg => simp [plainN] at hp
    | tuple => simp [plainN] at hp
    | _ => constructor
  | succ n ih =>
    intro x hp
    cases x with
    | iface t v => simp only [plainN] at hp; exact .iface t (ih hp)
    | agg a =>
      simp only [plainN, List.all_eq_true] at hp
      exact .agg rfl fun i x y hx hy => by
        rw [hx] at hy; cases hy; exact ih (hp x (Array.mem_toList_iff.2 (Array.mem_of_getElem? hx)))
    | tuple a =>
      simp only [plainN, List.all_eq_true, Bool.and_eq_true] at hp
      exact .tuple rfl fun i x y hx hy => by
        rw [hx] at hy; cases hy; exact ih (hp.2 x (Array.mem_toList_iff.2 (Array.mem_of_getElem? hx)))
    | pointer a => cases a with | none => constructor | some a => simp [plainN] at hp
    | slice a l c => cases a with | none => constructor | some a => simp [plainN] at hp
    | map => simp [plainN] at hp
    | chan => simp [plainN] at hp
    | func => simp [plainN] at hp
    | _ => constructor

theorem plain_eq {g : Ghost} {x y : Value} (hp : plain x = true) (h : VRel g x y) : y = x := plainN_eq 12 hp h
theorem plain_refl {g : Ghost} {x : Value} (hp : plain x = true) : VRel g x x := plainN_refl 12 hp

end Go.Ax

/- An abstract machine for Go programs: its memory against the model's: reading, writing, new blocks. -/
namespace Go.Ax
set_option linter.unusedVariables false
set_option linter.unusedSimpArgs false

def FzOk (es n : Nat) (f : Nat × Nat) : Prop := (∀ i, i < n → ¬ (f.1 ≤ i ∧ i < f.2)) ∧ (es = 0 → f = (0, 0))

structure BRel (g : Ghost) (w : World) (b : Nat) (k : Blk) : Prop where
  ne : 0 < k.sizes.length
  last : k.sizes[k.sizes.length - 1]? = some k.cells.length
  le : ∀ (v s : Nat), k.sizes[v]? = some s → s ≤ k.cells.length
  es : g.es b = k.es
  all : ∀ (v : Nat), v < k.sizes.length → ∃ r, g.m b v = some r
  at_ : ∀ (v s : Nat), k.dead ≤ v → k.sizes[v]? = some s → ∃ (r : Nat) (c : Array Value) (e : TypeId) (f : Nat × Nat), g.m b v = some r ∧ w.heap[r]? = some (.cells c e f) ∧
    FzOk k.es c.size f ∧ c.size = g.room b v ∧ s ≤ c.size ∧ ∀ (j : Nat) (x : Value), j < s → k.cells[j]? = some x → ∃ y, c[j]? = some y ∧ VRel g x y

def pendRel : Option Ex → Option Code → Prop
  | none, c => c = none
  | some (.exit i), c => c = some (.exit i)
  | some .ret, c => c = some .ret
  | some .normal, _ => False

def stateRel : LState → LoopState → Prop
  | .ready, s => s = .ready
  | .busy, s => s = .busy
  | .done, s => s = .done
  | .exhausted, s => s = .exhausted

structure LpRel (P : Program) (g : Ghost) (w : World) (p : Lp) (r : Nat) (L : Loop) : Prop where
  at_ : w.heap[r]? = some (.loop L)
  state : stateRel p.state L.state
  pend : pendRel p.pending L.pending
  tmps : LR g p.tmps L.tmps.toList
  params : p.params = L.params.toList
  assign : ∃ all res x y, p.assign = comp P all res L.assign x y
  body : ∃ all res x y, p.body = comp P all res L.body x y

structure Rel (P : Program) (B : Nat) (g : Ghost) (h : Heap) (w : World) : Prop where
  base : B ≤ w.heap.size
  blk : ∀ (b : Nat) (k : Blk), h.dyn[b]? = some k → BRel g w b k
  dom : ∀ (b v r : Nat), g.m b v = some r → (∃ k, h.dyn[b]? = some k ∧ v < k.sizes.length) ∧ B ≤ r ∧ r < w.heap.size
  inj : ∀ (b v r b' v' : Nat), g.m b v = some r → g.m b' v' = some r → b = b'
  ro : ∀ (b o : Nat) (x : Value), h.ro b o = some x → (roA g b).block < B ∧ ∃ y, w.cell? ⟨(roA g b).block, (roA g b).off + o, none⟩ = some y ∧ VRel g x y
  lps : ∀ (l : Nat) (p : Lp), h.lps[l]? = some p → ∃ r L, g.lp l = some r ∧ LpRel P g w p r L
  lpdom : ∀ (l r : Nat), g.lp l = some r → l < h.lps.length ∧ B ≤ r ∧ r < w.heap.size ∧ ∃ L, w.heap[r]? = some (.loop L)
  lpinj : ∀ (l l' r : Nat), g.lp l = some r → g.lp l' = some r → l = l'

structure Ext (g : Ghost) (w : World) (g' : Ghost) (w' : World) : Prop where
  le : Gle g g'
  new : ∀ r, InR g' r → InR g r ∨ w.heap.size ≤ r
  size : w.heap.size ≤ w'.heap.size
  same : ∀ r, r < w.heap.size → ¬ InR g r → w'.heap[r]? = w.heap[r]?
  os : w'.os = w.os
  tape : w'.tape = w.tape
  output : w'.output = w.output

theorem Ext.refl (g : Ghost) (w : World) : Ext g w g w := ⟨Gle.refl g, fun r h => .inl h, Nat.le_refl _, fun _ _ _ => rfl, rfl, rfl, rfl⟩

theorem Ext.trans {g g1 g2 : Ghost} {w w1 w2 : World} (h : Ext g w g1 w1) (k : Ext g1 w1 g2 w2) : Ext g w g2 w2 where
  le := h.le.trans k.le
  new r hr := by
    rcases k.new r hr with h' | h'
    · exact h.new r h'
    · exact .inr (Nat.le_trans h.size h')
  size := Nat.le_trans h.size k.size
  same r hr hn := by
    rw [k.same r (Nat.lt_of_lt_of_le hr h.size) fun hi => by rcases h.new r hi with h' | h'; exact hn h'; omega, h.same r hr hn]
  os := k.os.trans h.os
  tape := k.tape.trans h.tape
  output := k.output.trans h.output

theorem Ext.below {P : Program} {B : Nat} {g g' : Ghost} {h : Heap} {w w' : World} (R : Rel P B g h w) (e : Ext g w g' w') : Go.RowKit.Below B w w' :=
  ⟨e.os, e.tape, e.output, e.size, fun k hk => e.same k (Nat.lt_of_lt_of_le hk R.base) fun hi => by
    rcases hi with ⟨b, v, hm⟩ | ⟨l, hl⟩
    · have := (R.dom b v k hm).2.1; omega
    · have := (R.lpdom l k hl).2.1; omega⟩

/-- Only the heap is looked at. -/
theorem Rel.of_heap {P : Program} {B : Nat} {g : Ghost} {h : Heap} {w w' : World} (R : Rel P B g h w) (e : w'.heap = w.heap) : Rel P B g h w' where
  base := by rw [e]; exact R.base
  blk b k hk := by
    have := R.blk b k hk
    exact ⟨this.ne, this.last, this.le, this.es, this.all, by rw [e]; exact this.at_⟩
  dom b v r hm := by rw [e]; exact R.dom b v r hm
  inj := R.inj
  ro b o x hx := by
    have := R.ro b o x hx
    refine ⟨this.1, ?_⟩
    have e2 : ∀ a, w'.cell? a = w.cell? a := fun a => by simp only [World.cell?, e]
    rw [e2]; exact this.2
  lps l p hp := by
    obtain ⟨r, L, h1, h2⟩ := R.lps l p hp
    exact ⟨r, L, h1, by rw [e]; exact h2.at_, h2.state, h2.pend, h2.tmps, h2.params, h2.assign, h2.body⟩
  lpdom l r hl := by rw [e]; exact R.lpdom l r hl
  lpinj := R.lpinj

theorem Rel.drew {P : Program} {B : Nat} {g : Ghost} {h : Heap} {w : World} (R : Rel P B g h w) : Rel P B g h { w with drawn := w.drawn + 1 } := R.of_heap rfl

theorem Ext.drew {g g' : Ghost} {w w' : World} (h : Ext g w g' w') : Ext g w g' { w' with drawn := w'.drawn + 1 } :=
  ⟨h.le, h.new, h.size, h.same, h.os, h.tape, h.output⟩

/-! ### reading -/

theorem getD_lt {l : List Nat} {v o : Nat} (h : o < l.getD v 0) : ∃ s, l[v]? = some s ∧ o < s := by
  rw [List.getD_eq_getElem?_getD] at h
  cases e : l[v]? with
  | none => simp [e] at h
  | some s => exact ⟨s, rfl, by simpa [e] using h⟩

theorem load_sound {P : Program} {B : Nat} {g : Ghost} {h : Heap} {w : World} (R : Rel P B g h w) {a r : Addr} (ha : ARel g a r) {x : Value} (hl : hload h a = some x) :
    ∃ y, w.cell? r = some y ∧ VRel g x y := by
  obtain ⟨hs, h1⟩ := ha
  unfold hload at hl
  cases ho : a.spot with
  | none =>
    rw [ho] at hl h1
    obtain ⟨_, y, hy, hv⟩ := R.ro _ _ _ hl
    refine ⟨y, ?_, hv⟩
    rw [← hy]
    congr 1
    cases r; simp_all
  | some v =>
    rw [ho] at hl h1
    simp only at hl h1
    cases hk : h.dyn[a.block]? with
    | none => simp [hk] at hl
    | some k =>
      simp only [hk] at hl
      split at hl
      case isFalse => simp at hl
      rename_i hc
      obtain ⟨s, hsz, hlt⟩ := getD_lt hc.2
      obtain ⟨r', c, e, f, hm, hh, hf, hroom, hle, hcell⟩ := (R.blk _ _ hk).at_ v s hc.1 hsz
      obtain ⟨y, hy, hv⟩ := hcell a.off x hlt hl
      refine ⟨y, ?_, hv⟩
      have : r' = r.block := by rw [h1.1] at hm; exact (Option.some.inj hm).symm
      subst this
      simp only [World.cell?, hh, hs, h1.2, hy]
      simp

theorem ARel.add {g : Ghost} {a r : Addr} (h : ARel g a r) (n : Nat) : ARel g (aadd a n) (r.add n) := by
  obtain ⟨hs, h1⟩ := h
  have e : r.add n = ⟨r.block, r.off + n, none⟩ := by
    unfold Addr.add
    split
    · rename_i h0; subst h0; cases r; simp_all
    · cases r; simp_all
  rw [e]
  refine ⟨rfl, ?_⟩
  unfold aadd
  cases ho : a.spot with
  | none => rw [ho] at h1; simp only at h1 ⊢; exact ⟨h1.1, by omega⟩
  | some v => rw [ho] at h1; simp only at h1 ⊢; exact ⟨h1.1, by omega⟩

theorem ARel.spot {g : Ghost} {a r : Addr} (h : ARel g a r) : r.spot = none := h.1

theorem addr_add (r : Addr) (hs : r.spot = none) (n : Nat) : r.add n = ⟨r.block, r.off + n, none⟩ := by
  unfold Addr.add
  split
  · rename_i h0; subst h0; cases r; simp_all
  · cases r; simp_all

theorem addr_add_add (r : Addr) (hs : r.spot = none) (n m : Nat) : (r.add n).add m = r.add (n + m) := by
  rw [addr_add r hs, addr_add _ rfl, addr_add r hs]
  simp; omega

theorem loadN_sound {P : Program} {B : Nat} {g : Ghost} {h : Heap} {w : World} (R : Rel P B g h w) : ∀ (n : Nat) {a r : Addr} (ha : ARel g a r) {xs : List Value} (hl : loadN h a n = some xs),
    ∃ ys : List Value, LR g xs ys ∧ xs.length = n ∧ (∀ i, i < n → ∃ y, ys[i]? = some y ∧ w.cell? (r.add i) = some y) := by
  intro n
  induction n with
  | zero => intro a r ha xs hl; simp [loadN] at hl; subst hl; exact ⟨[], LR.nil g, rfl, fun i hi => by omega⟩
  | succ n ih =>
    intro a r ha xs hl
    unfold loadN at hl
    cases h1 : hload h a with
    | none => simp [h1] at hl
    | some v =>
      simp only [h1] at hl
      cases h2 : loadN h (aadd a 1) n with
      | none => simp [h2] at hl
      | some l =>
        simp [h2] at hl; subst hl
        obtain ⟨y, hy, hv⟩ := load_sound R ha h1
        obtain ⟨ys, hr, hlen, hc⟩ := ih (ha.add 1) h2
        refine ⟨y :: ys, hr.cons hv, by simp [hlen], fun i hi => ?_⟩
        cases i with
        | zero => exact ⟨y, rfl, by simpa [Addr.add] using hy⟩
        | succ i =>
          obtain ⟨y', h1', h2'⟩ := hc i (by omega)
          refine ⟨y', by simpa using h1', ?_⟩
          rw [addr_add_add r ha.spot] at h2'
          rw [← h2', Nat.add_comm]


theorem run_loadFrom {P : Program} {w : World} (r : Addr) : ∀ (n i : Nat) (acc : Array Value) (ys : List Value), (∀ j, j < n → ∃ y, ys[j]? = some y ∧ w.cell? (r.add (i + j)) = some y) → ys.length = n →
    (loadCellsFrom r i n acc).run P w = .ok (acc ++ ys.toArray) w := by
  intro n
  induction n with
  | zero => intro i acc ys _ hl; have : ys = [] := by cases ys <;> simp_all
            subst this; simp [loadCellsFrom, pure, Sem.run]
  | succ n ih =>
    intro i acc ys hc hl
    cases ys with
    | nil => simp at hl
    | cons y ys =>
      obtain ⟨y0, h0, h1⟩ := hc 0 (by omega)
      simp at h0; subst h0
      have := ih (i + 1) (acc.push y) ys (fun j hj => by
        obtain ⟨z, hz, hz'⟩ := hc (j + 1) (by omega)
        exact ⟨z, by simpa using hz, by rw [← hz']; congr 2; omega⟩) (by simpa using hl)
      have e : (loadCellsFrom r i (n + 1) acc).run P w = (loadCellsFrom r (i + 1) n (acc.push y)).run P w := by
        show (Sem.bind (load (r.add i)) _).run P w = _
        simp only [load, Sem.bind, Sem.run]
        rw [Nat.add_zero] at h1
        rw [h1]
      rw [e, this]
      simp

theorem run_bindE {P : Program} {α β : Type} {s : Sem α} {f : α → Sem β} {w w' : World} {a : α} (h : s.run P w = .ok a w') : (s >>= f).run P w = (f a).run P w' := by
  rw [Sem.run_bind, h]; rfl

theorem run_load1 {P : Program} {w : World} {r : Addr} {y : Value} (h : w.cell? r = some y) : (load r).run P w = .ok y w := by
  simp [h]

theorem run_loadCells {P : Program} {w : World} {r : Addr} {n : Nat} {ys : List Value} (hc : ∀ j, j < n → ∃ y, ys[j]? = some y ∧ w.cell? (r.add j) = some y) (hl : ys.length = n) :
    (loadCells r n).run P w = .ok ys.toArray w := by
  unfold loadCells
  rw [run_loadFrom r n 0 #[] ys (fun j hj => by simpa using hc j hj) hl]
  simp

/-! ### writing -/

theorem store_heap {w : World} {r : Addr} {y u : Value} (hs : r.spot = none) (h : w.cell? r = some u) :
    ∃ c e f, w.heap[r.block]? = some (.cells c e f) ∧ r.off < c.size ∧ c[r.off]? = some u ∧ (w.setCell r y).heap[r.block]? = some (.cells (c.setIfInBounds r.off y) e f) := by
  unfold World.cell? at h
  split at h
  · rename_i c e f hb
    simp [hs] at h
    have hlt : r.off < c.size := by
      rcases Nat.lt_or_ge r.off c.size with h' | h'
      · exact h'
      · rw [Array.getElem?_eq_none h'] at h; simp at h
    refine ⟨c, e, f, hb, hlt, h, ?_⟩
    simp only [World.setCell, Array.getElem?_modify, if_true, hb, Option.map_some, hs]
    simp
  · simp at h

theorem setCell_other {w : World} {r : Addr} {y : Value} {i : Nat} (h : i ≠ r.block) : (w.setCell r y).heap[i]? = w.heap[i]? := Go.RowKit.Below.heap_setCell w r y i h

theorem getD_some {l : List Nat} {v s : Nat} (h : l[v]? = some s) : l.getD v 0 = s := by
  rw [List.getD_eq_getElem?_getD, h]; rfl

theorem store_sound {P : Program} {B : Nat} {g : Ghost} {h h' : Heap} {w : World} (R : Rel P B g h w) {a r : Addr} (ha : ARel g a r) {x y : Value} (hv : VRel g x y) (hst : hstore h a x = some h') :
    (∃ u, w.cell? r = some u) ∧ w.frozen? r = false ∧ goodC x = true ∧ Rel P B g h' (w.setCell r y) ∧ Ext g w g (w.setCell r y) := by
  obtain ⟨hs, h1⟩ := ha
  unfold hstore at hst
  cases ho : a.spot with
  | none => simp [ho] at hst
  | some v =>
    rw [ho] at hst h1
    simp only at hst h1
    cases hk : h.dyn[a.block]? with
    | none => simp [hk] at hst
    | some k =>
      simp only [hk] at hst
      split at hst
      case isFalse => simp at hst
      rename_i hc
      obtain ⟨hver, hoff, hdead, hgood⟩ := hc
      simp only [Option.some.injEq] at hst
      subst hst
      have K := R.blk _ _ hk
      have hsz : k.sizes[v]? = some k.cells.length := by rw [← K.last]; congr 1; omega
      obtain ⟨r', c, e, f, hm, hh, hf, hroom, hle, hcell⟩ := K.at_ v _ hdead hsz
      have : r' = r.block := by rw [h1.1] at hm; exact (Option.some.inj hm).symm
      subst this
      have hoffc : r.off < c.size := by rw [h1.2]; omega
      have hcu : w.cell? r = some c[r.off] := by
        simp only [World.cell?, hh, hs]; simp [hoffc]
      have hfz : w.frozen? r = false := by
        simp only [World.frozen?, hh]
        have := hf.1 r.off hoffc
        simp only [Bool.and_eq_false_iff, decide_eq_false_iff_not]
        by_cases hq : f.1 ≤ r.off
        · exact .inr (fun h => this ⟨hq, h⟩)
        · exact .inl hq
      have hB := (R.dom _ _ _ hm).2
      have hbl : a.block < h.dyn.length := by
        rcases Nat.lt_or_ge a.block h.dyn.length with h' | h'
        · exact h'
        · rw [List.getElem?_eq_none h'] at hk; simp at hk
      obtain ⟨c', e', f', hb', _, _, hb2⟩ := store_heap (y := y) hs hcu
      rw [hh] at hb'
      obtain ⟨rfl, rfl, rfl⟩ : c = c' ∧ e = e' ∧ f = f' := by simpa using hb'
      refine ⟨⟨_, hcu⟩, hfz, hgood, ?_, ?_⟩
      · constructor
        · simp only [World.size_setCell]; exact R.base
        · intro b k' hk'
          simp only at hk'
          by_cases hb : a.block = b
          · subst hb
            rw [List.getElem?_set_self hbl] at hk'
            simp only [Option.some.injEq] at hk'
            subst hk'
            refine ⟨K.ne, by simpa using K.last, by simpa using K.le, K.es, K.all, ?_⟩
            intro v' s hd hs'
            simp only at hd hs'
            have hv' : v' < k.sizes.length := by
              rcases Nat.lt_or_ge v' k.sizes.length with h' | h'
              · exact h'
              · rw [List.getElem?_eq_none h'] at hs'; simp at hs'
            obtain rfl : v' = v := by omega
            refine ⟨r.block, c.setIfInBounds r.off y, e, f, hm, hb2, by simpa using hf, by simpa using hroom, by
              rw [hsz] at hs'; simp only [Option.some.injEq] at hs'; subst hs'; simpa using hle, ?_⟩
            intro j z hj hz
            rw [hsz] at hs'; simp only [Option.some.injEq] at hs'; subst hs'
            simp only at hz
            rw [List.getElem?_set] at hz
            rw [Array.getElem?_setIfInBounds]
            by_cases hjo : a.off = j
            · subst hjo
              simp only [if_true] at hz
              rw [if_pos h1.2, if_pos hoffc]
              rw [if_pos hoff] at hz
              simp only [Option.some.injEq] at hz; subst hz; exact ⟨y, rfl, hv⟩
            · rw [if_neg hjo] at hz
              rw [if_neg (by rw [h1.2]; exact hjo)]
              exact hcell j z hj hz
          · rw [List.getElem?_set_ne hb] at hk'
            have K' := R.blk _ _ hk'
            refine ⟨K'.ne, K'.last, K'.le, K'.es, K'.all, ?_⟩
            intro v' s hd hs'
            obtain ⟨r2, c2, e2, f2, hm2, hh2, rest⟩ := K'.at_ v' s hd hs'
            refine ⟨r2, c2, e2, f2, hm2, ?_, rest⟩
            rw [setCell_other, hh2]
            intro hr; subst hr
            exact hb (R.inj _ _ _ _ _ hm hm2)
        · intro b v' r' hm'
          obtain ⟨⟨k', hk', hv'⟩, h2⟩ := R.dom b v' r' hm'
          refine ⟨?_, by simpa using h2⟩
          by_cases hb : a.block = b
          · subst hb
            rw [hk] at hk'; simp only [Option.some.injEq] at hk'; subst hk'
            exact ⟨_, by simp only; rw [List.getElem?_set_self hbl], by simpa using hv'⟩
          · exact ⟨k', by simp only; rw [List.getElem?_set_ne hb]; exact hk', hv'⟩
        · exact R.inj
        · intro b o z hz
          obtain ⟨h2, z', hz', hvz⟩ := R.ro b o z hz
          refine ⟨h2, z', ?_, hvz⟩
          rw [← hz']
          exact World.cell?_of_block (w := w) (setCell_other (by simp only; omega))
        · intro l p hp
          obtain ⟨r2, L, hl, hL⟩ := R.lps l p hp
          refine ⟨r2, L, hl, ?_, hL.state, hL.pend, hL.tmps, hL.params, hL.assign, hL.body⟩
          rw [setCell_other, hL.at_]
          intro hr; subst hr; rw [hL.at_] at hh; simp at hh
        · intro l r2 hl
          obtain ⟨h2, h3, h4, L, hL⟩ := R.lpdom l r2 hl
          refine ⟨h2, h3, by simpa using h4, L, ?_⟩
          rw [setCell_other, hL]
          intro hr; subst hr; rw [hL] at hh; simp at hh
        · exact R.lpinj
      · refine ⟨Gle.refl g, fun r hr => .inl hr, by simp, ?_, rfl, rfl, rfl⟩
        intro r2 hr2 hn
        exact setCell_other fun hr => hn (hr ▸ .inl ⟨_, _, hm⟩)

end Go.Ax

/- An abstract machine for Go programs: its memory against the model's: several cells, new blocks, blocks that grow. -/
namespace Go.Ax
set_option linter.unusedVariables false
set_option linter.unusedSimpArgs false

theorem goodC_rel {g : Ghost} {x y : Value} (h : VRel g x y) (hx : goodC x = true) : goodC y = true := by
  cases h <;> simp_all [goodC, undef, skipV, nanV, cellV]

theorem run_store1 {P : Program} {w : World} {r : Addr} {y u : Value} (hg : goodC y = true) (hc : w.cell? r = some u) (hf : w.frozen? r = false) (m : Mode) : (store r y m).run P w = .ok () (w.setCell r y) := by
  cases y <;> simp [goodC] at hg <;> simp [store, Sem.run, hc, hf]

theorem storeN_sound {P : Program} {B : Nat} {g : Ghost} : ∀ (xs : List Value) {h h' : Heap} {w : World} (R : Rel P B g h w) {a r : Addr} (ha : ARel g a r) {ys : List Value} (hv : LR g xs ys)
    (hst : storeN h a xs = some h') (i : Nat), ∃ w', (∀ r0 : Addr, r0.spot = none → r0.add i = r → (storeCells r0 ys i).run P w = .ok () w') ∧ Rel P B g h' w' ∧ Ext g w g w' := by
  intro xs
  induction xs with
  | nil =>
    intro h h' w R a r ha ys hv hst i
    simp [storeN] at hst; subst hst
    have := hv.nil_inv; subst this
    exact ⟨w, fun r0 _ _ => by simp [storeCells], R, Ext.refl g w⟩
  | cons x xs ih =>
    intro h h' w R a r ha ys hv hst i
    obtain ⟨y, ys', rfl, hxy, hv'⟩ := hv.cons_inv
    unfold storeN at hst
    cases h1 : hstore h a x with
    | none => simp [h1] at hst
    | some h1' =>
      simp only [h1] at hst
      obtain ⟨⟨u, hu⟩, hf, hg, R1, E1⟩ := store_sound R ha hxy h1
      obtain ⟨w', hrun, R2, E2⟩ := ih R1 (ha.add 1) hv' hst (i + 1)
      refine ⟨w', fun r0 hs h0 => ?_, R2, E1.trans E2⟩
      unfold storeCells
      rw [h0, run_bindE (run_store1 (goodC_rel hxy hg) hu hf _)]
      exact hrun r0 hs (by rw [← h0, addr_add_add r0 hs])

/-- Blocks that are not the machine's may turn. -/
theorem Rel.of_same {P : Program} {B : Nat} {g : Ghost} {h : Heap} {w w' : World} (R : Rel P B g h w) (hsz : w.heap.size ≤ w'.heap.size)
    (hs : ∀ r, InR g r ∨ r < B → w'.heap[r]? = w.heap[r]?) : Rel P B g h w' where
  base := Nat.le_trans R.base hsz
  blk b k hk := by
    have K := R.blk b k hk
    refine ⟨K.ne, K.last, K.le, K.es, K.all, fun v s hd hs' => ?_⟩
    obtain ⟨r2, c2, e2, f2, hm2, hh2, rest⟩ := K.at_ v s hd hs'
    exact ⟨r2, c2, e2, f2, hm2, by rw [hs r2 (.inl (.inl ⟨_, _, hm2⟩)), hh2], rest⟩
  dom b v r hm := by
    have := R.dom b v r hm
    exact ⟨this.1, this.2.1, Nat.lt_of_lt_of_le this.2.2 hsz⟩
  inj := R.inj
  ro b o x hx := by
    obtain ⟨h1, y, hy, hv⟩ := R.ro b o x hx
    refine ⟨h1, y, ?_, hv⟩
    rw [← hy]
    exact World.cell?_of_block (w := w) (hs _ (.inr h1))
  lps l p hp := by
    obtain ⟨r2, L, hl, hL⟩ := R.lps l p hp
    exact ⟨r2, L, hl, by rw [hs r2 (.inl (.inr ⟨l, hl⟩)), hL.at_], hL.state, hL.pend, hL.tmps, hL.params, hL.assign, hL.body⟩
  lpdom l r hl := by
    obtain ⟨h2, h3, h4, L, hL⟩ := R.lpdom l r hl
    exact ⟨h2, h3, Nat.lt_of_lt_of_le h4 hsz, L, by rw [hs r (.inl (.inr ⟨l, hl⟩)), hL]⟩
  lpinj := R.lpinj

theorem InR.lt {P : Program} {B : Nat} {g : Ghost} {h : Heap} {w : World} (R : Rel P B g h w) {r : Nat} (hr : InR g r) : r < w.heap.size := by
  rcases hr with ⟨b, v, hm⟩ | ⟨l, hl⟩
  · exact (R.dom b v r hm).2.2
  · exact (R.lpdom l r hl).2.2.1

theorem Rel.push {P : Program} {B : Nat} {g : Ghost} {h : Heap} {w : World} (R : Rel P B g h w) (o : Obj) : Rel P B g h (w.alloc o) ∧ Ext g w g (w.alloc o) := by
  have hlt : ∀ r, r < w.heap.size → (w.alloc o).heap[r]? = w.heap[r]? := fun r hr => Go.RowKit.Below.heap_alloc w o r hr
  refine ⟨R.of_same (by simp) fun r hr => hlt r ?_, Gle.refl g, fun r h => .inl h, by simp, fun r hr _ => hlt r hr, rfl, rfl, rfl⟩
  rcases hr with hr | hr
  · exact hr.lt R
  · exact Nat.lt_of_lt_of_le hr R.base

theorem alloc_at (w : World) (o : Obj) : (w.alloc o).heap[w.heap.size]? = some o := by
  show (w.heap.push o)[w.heap.size]? = some o
  simp

/-- A real block that is nobody's becomes a new abstract one. -/
theorem fresh_sound {P : Program} {B : Nat} {g : Ghost} {h : Heap} {w : World} (R : Rel P B g h w) {r : Nat} {c : Array Value} {e : TypeId} {f : Nat × Nat}
    (hr : w.heap[r]? = some (.cells c e f)) (hn : ¬ InR g r) (hB : B ≤ r) (hlt : r < w.heap.size) (cells : List Value) (es : Nat) (hf : FzOk es c.size f) (hc : cells.length ≤ c.size)
    (hv : ∀ (j : Nat) (x : Value), cells[j]? = some x → ∃ y, c[j]? = some y ∧ VRel g x y) :
    ∃ g', Rel P B g' (hnew h cells es) w ∧ Gle g g' ∧ (∀ q, InR g' q → InR g q ∨ q = r) ∧ ARel g' (hnext h) ⟨r, 0, none⟩ ∧ g'.room h.dyn.length 0 = c.size ∧ g'.es h.dyn.length = es := by
  have hnone : ∀ v, g.m h.dyn.length v = none := by
    intro v
    cases hm : g.m h.dyn.length v with
    | none => rfl
    | some q =>
      obtain ⟨⟨k, hk, _⟩, _⟩ := R.dom _ _ _ hm
      rw [List.getElem?_eq_none (Nat.le_refl _)] at hk; simp at hk
  let g' : Ghost := { g with
    m := fun b v => if b = h.dyn.length ∧ v = 0 then some r else g.m b v
    room := fun b v => if b = h.dyn.length ∧ v = 0 then c.size else g.room b v
    es := fun b => if b = h.dyn.length then es else g.es b }
  have hold : ∀ b v q, g.m b v = some q → b ≠ h.dyn.length := by
    intro b v q hm e; subst e; rw [hnone] at hm; simp at hm
  have gm : ∀ b v q, g.m b v = some q → g'.m b v = some q := by
    intro b v q hm; show (if _ then _ else _) = _
    rw [if_neg (fun ⟨e, _⟩ => hold _ _ _ hm e)]; exact hm
  have G : Gle g g' := by
    refine ⟨gm, ?_, ?_, rfl, fun _ _ h => h⟩
    · intro b v q hm; show (if _ then _ else _) = _
      rw [if_neg (fun ⟨e, _⟩ => hold _ _ _ hm e)]
    · intro b v q hm; show (if _ then _ else _) = _
      rw [if_neg (hold _ _ _ hm)]
  have hnm : ∀ b v q, g'.m b v = some q → g.m b v = some q ∨ (b = h.dyn.length ∧ v = 0 ∧ q = r) := by
    intro b v q hm
    have hm' : (if b = h.dyn.length ∧ v = 0 then some r else g.m b v) = some q := hm
    split at hm'
    · rename_i hh; simp only [Option.some.injEq] at hm'; exact .inr ⟨hh.1, hh.2, hm'.symm⟩
    · exact .inl hm'
  refine ⟨g', ?_, G, ?_, ⟨rfl, ?_⟩, ?_, ?_⟩
  · constructor
    · exact R.base
    · intro b k hk
      simp only [hnew] at hk
      by_cases hb : b < h.dyn.length
      · rw [List.getElem?_append_left hb] at hk
        have K := R.blk b k hk
        have hne : b ≠ h.dyn.length := by omega
        refine ⟨K.ne, K.last, K.le, ?_, ?_, ?_⟩
        · show (if _ then _ else _) = _; rw [if_neg hne]; exact K.es
        · intro v hv'; obtain ⟨q, hq⟩ := K.all v hv'; exact ⟨q, gm _ _ _ hq⟩
        · intro v s hd hs'
          obtain ⟨r2, c2, e2, f2, hm2, hh2, hf2, hroom2, hle2, hcell2⟩ := K.at_ v s hd hs'
          refine ⟨r2, c2, e2, f2, gm _ _ _ hm2, hh2, hf2, ?_, hle2, fun j x hj hx => ?_⟩
          · rw [hroom2]; exact (G.room _ _ _ hm2).symm
          · obtain ⟨y, hy, hxy⟩ := hcell2 j x hj hx
            exact ⟨y, hy, hxy.mono G⟩
      · rw [List.getElem?_append_right (by omega)] at hk
        have hb' : b = h.dyn.length := by
          rcases Nat.lt_or_ge (b - h.dyn.length) 1 with h1 | h1
          · omega
          · rw [List.getElem?_eq_none (by simpa using h1)] at hk; simp at hk
        subst hb'
        simp at hk
        subst hk
        refine ⟨by simp, by simp, ?_, ?_, ?_, ?_⟩
        · intro v s hs'
          cases v with
          | zero => simp at hs'; simp; omega
          | succ v => simp at hs'
        · show (if _ then _ else _) = _; rw [if_pos rfl]
        · intro v hv'; simp at hv'; subst hv'; exact ⟨r, by show (if _ then _ else _) = _; rw [if_pos ⟨rfl, rfl⟩]⟩
        · intro v s _ hs'
          cases v with
          | succ v => simp at hs'
          | zero =>
            simp at hs'; subst hs'
            refine ⟨r, c, e, f, by show (if _ then _ else _) = _; rw [if_pos ⟨rfl, rfl⟩], hr, hf, by show _ = (if _ then _ else _); rw [if_pos ⟨rfl, rfl⟩], hc, fun j x hj hx => ?_⟩
            obtain ⟨y, hy, hxy⟩ := hv j x hx
            exact ⟨y, hy, hxy.mono G⟩
    · intro b v q hm
      rcases hnm b v q hm with h1 | ⟨rfl, rfl, rfl⟩
      · obtain ⟨⟨k, hk, hv'⟩, h2⟩ := R.dom b v q h1
        refine ⟨⟨k, ?_, hv'⟩, h2⟩
        have : b < h.dyn.length := by
          rcases Nat.lt_or_ge b h.dyn.length with h' | h'
          · exact h'
          · rw [List.getElem?_eq_none h'] at hk; simp at hk
        simp only [hnew]
        rw [List.getElem?_append_left this]; exact hk
      · exact ⟨⟨{ cells := cells, sizes := [cells.length], dead := 0, es := es }, by simp [hnew], by simp⟩, hB, hlt⟩
    · intro b v q b' v' h1 h2
      rcases hnm b v q h1 with h1 | ⟨rfl, rfl, e1⟩ <;> rcases hnm b' v' q h2 with h2 | ⟨rfl, rfl, e2⟩
      · exact R.inj _ _ _ _ _ h1 h2
      · exact (hn (e2 ▸ .inl ⟨_, _, h1⟩)).elim
      · exact (hn (e1 ▸ .inl ⟨_, _, h2⟩)).elim
      · rfl
    · intro b o x hx
      obtain ⟨h1, y, hy, hxy⟩ := R.ro b o x hx
      exact ⟨h1, y, hy, hxy.mono G⟩
    · intro l p hp
      obtain ⟨r2, L, hl, hL⟩ := R.lps l p hp
      exact ⟨r2, L, hl, hL.at_, hL.state, hL.pend, hL.tmps.mono G, hL.params, hL.assign, hL.body⟩
    · exact R.lpdom
    · exact R.lpinj
  · intro q hq
    rcases hq with ⟨b, v, hm⟩ | ⟨l, hl⟩
    · rcases hnm b v q hm with h1 | ⟨_, _, h1⟩
      · exact .inl (.inl ⟨_, _, h1⟩)
      · exact .inr h1
    · exact .inl (.inr ⟨l, hl⟩)
  · show (if _ then _ else _) = _ ∧ _
    exact ⟨by rw [if_pos ⟨rfl, rfl⟩], rfl⟩
  · show (if _ then _ else _) = _; rw [if_pos ⟨rfl, rfl⟩]
  · show (if _ then _ else _) = _; rw [if_pos rfl]

theorem new_sound {P : Program} {B : Nat} {g : Ghost} {h : Heap} {w : World} (R : Rel P B g h w) (c : Array Value) (e : TypeId) (cells : List Value) (es : Nat) (hc : cells.length ≤ c.size)
    (hv : ∀ (j : Nat) (x : Value), cells[j]? = some x → ∃ y, c[j]? = some y ∧ VRel g x y) :
    ∃ g', Rel P B g' (hnew h cells es) (w.alloc (.cells c e)) ∧ Ext g w g' (w.alloc (.cells c e)) ∧ ARel g' (hnext h) ⟨w.heap.size, 0, none⟩ ∧ g'.room h.dyn.length 0 = c.size ∧ g'.es h.dyn.length = es := by
  obtain ⟨R1, E1⟩ := R.push (.cells c e)
  have hn : ¬ InR g w.heap.size := fun hi => by have := hi.lt R; omega
  obtain ⟨g', R2, G, hin, ha, hroom, hes⟩ := fresh_sound R1 (alloc_at w _) (f := (0, 0)) hn R.base (by simp) cells es ⟨fun i _ => by omega, fun _ => rfl⟩ hc hv
  refine ⟨g', R2, ⟨G, fun r hr => ?_, E1.size, E1.same, E1.os, E1.tape, E1.output⟩, ha, hroom, hes⟩
  rcases hin r hr with h1 | h1
  · exact .inl h1
  · exact .inr (by omega)

end Go.Ax

/- An abstract machine for Go programs: its operations against the model's (those that act on values and read memory). -/
namespace Go.Ax
set_option linter.unusedVariables false
set_option linter.unusedSimpArgs false

section
variable {P : Program} {w : World}

theorem run_und {t : TypeId} {d : TypeDesc} (h : P.underlying t = some d) : (underlying t).run P w = .ok d w := run_underlying h w

theorem run_info {t : TypeId} {i : TypeInfo} (h : P.info? t = some i) : (typeInfo t).run P w = .ok i w := by
  simp [typeInfo, h]

theorem asize_info {t : TypeId} {n : Nat} (h : asize P t = some n) : ∃ i, P.info? t = some i ∧ i.size = n := by
  unfold asize at h
  cases e : P.info? t with
  | none => simp [e] at h
  | some i => simp [e] at h; exact ⟨i, rfl, h⟩

theorem run_size {t : TypeId} {n : Nat} (h : asize P t = some n) : (sizeOf t).run P w = .ok n w := by
  obtain ⟨i, hi, rfl⟩ := asize_info h
  simp [sizeOf, run_info hi]

theorem run_zero {t : TypeId} {i : TypeInfo} {z : Value} (h : P.info? t = some i) (hz : i.zero = some z) : (zeroValue t).run P w = .ok z w := by
  simp [zeroValue, run_info h, hz]

theorem run_isAgg {t : TypeId} {d : TypeDesc} (h : P.underlying t = some d) : (isAgg t).run P w = .ok (isAggD d) w := by
  cases d <;> simp [isAgg, run_und h, isAggD]

theorem run_newRow {e : TypeId} {c : Array Value} : (newRow e c).run P w = .ok ⟨w.heap.size, 0, none⟩ (w.alloc (.cells c e)) := by
  simp [newRow]

theorem run_newVar {e : TypeId} {v : Value} : (newVar e v).run P w = .ok ⟨w.heap.size, 0, none⟩ (w.alloc (.cells v.cells e)) := run_newRow

theorem aggOf_cases {t : TypeId} {q : Option Nat} (h : aggOf P t = some q) : ∃ d, P.underlying t = some d ∧ ((isAggD d = true ∧ ∃ n, q = some n ∧ asize P t = some n) ∨ (isAggD d = false ∧ q = none)) := by
  unfold aggOf at h
  cases e : P.underlying t with
  | none => simp [e] at h
  | some d =>
    simp only [e] at h
    refine ⟨d, rfl, ?_⟩
    cases hd : isAggD d with
    | true =>
      simp only [hd, if_true] at h
      cases hs : asize P t with
      | none => simp [hs] at h
      | some n => simp [hs] at h; exact .inl ⟨rfl, n, h.symm, rfl⟩
    | false => simp [hd] at h; exact .inr ⟨rfl, h.symm⟩

theorem loadVar_sound {B : Nat} {g : Ghost} {h : Heap} (R : Rel P B g h w) {t : TypeId} {q : Option Nat} (hq : aggOf P t = some q) {a r : Addr} (ha : ARel g a r) {v : Value} (hl : aload h q a = some v) :
    ∃ y, (loadVar t r).run P w = .ok y w ∧ VRel g v y := by
  obtain ⟨d, hd, hc | hc⟩ := aggOf_cases hq
  · obtain ⟨hagg, n, rfl, hn⟩ := hc
    simp only [aload] at hl
    cases hx : loadN h a n with
    | none => simp [hx] at hl
    | some l =>
      simp [hx] at hl; subst hl
      obtain ⟨ys, hlr, hlen, hcells⟩ := loadN_sound R n ha hx
      have hyl : ys.length = n := by rw [← hlr.1]; exact hlen
      refine ⟨.agg ys.toArray, ?_, .agg (by simp [hlr.1]) fun i x y hx hy => hlr.2 i x y (by simpa using hx) (by simpa using hy)⟩
      unfold loadVar
      rw [run_bindE (run_isAgg hd)]
      simp only [hagg, if_true]
      rw [run_bindE (run_size hn), run_bindE (run_loadCells hcells hyl)]
      rfl
  · obtain ⟨hagg, rfl⟩ := hc
    simp only [aload] at hl
    obtain ⟨y, hy, hv⟩ := load_sound R ha hl
    refine ⟨y, ?_, hv⟩
    unfold loadVar
    rw [run_bindE (run_isAgg hd)]
    simp only [hagg]
    exact run_load1 hy

theorem cells_rel {g : Ghost} {x y : Value} (h : VRel g x y) (hg : good x = true) : LR g x.cells.toList y.cells.toList := by
  cases h with
  | top => simp [good, undef] at hg
  | skip => simp [good, skipV] at hg
  | nan => simp [good, nanV] at hg
  | cell y h =>
    have hy : y.cells = #[y] := by cases y <;> simp_all [goodC, Value.cells]
    refine ⟨by rw [hy]; rfl, fun i a b ha hb => ?_⟩
    rw [hy] at hb
    have hc : cellV.cells = #[cellV] := rfl
    rw [hc] at ha
    cases i with
    | zero => simp at ha hb; subst ha; subst hb; exact .cell y h
    | succ i => simp at ha
  | agg hs h => exact ⟨by simpa [Value.cells] using hs, fun i x y hx hy => h i x y (by simpa [Value.cells] using hx) (by simpa [Value.cells] using hy)⟩
  | tuple => simp [good] at hg
  | _ => 
    refine ⟨rfl, fun i x y hx hy => ?_⟩
    simp [Value.cells] at hx hy
    cases i with
    | zero => simp at hx hy; subst hx; subst hy; constructor <;> assumption
    | succ i => simp at hx

theorem part_sound {g : Ghost} {t : TypeId} {q : Option Nat} (hq : aggOf P t = some q) {a b : Array Value} (hs : a.size = b.size) (h : ∀ (i : Nat) (x y : Value), a[i]? = some x → b[i]? = some y → VRel g x y) {off : Nat} {v : Value} (hv : apart q a off = some v) :
    ∃ y, (part t b off).run P w = .ok y w ∧ VRel g v y := by
  obtain ⟨d, hd, hc | hc⟩ := aggOf_cases hq
  · obtain ⟨hagg, n, rfl, hn⟩ := hc
    simp only [apart, Option.some.injEq] at hv; subst hv
    refine ⟨.agg (b.extract off (off + n)), ?_, .agg (by simp [hs]) fun i x y hx hy => ?_⟩
    · unfold part
      rw [run_bindE (run_isAgg hd)]
      simp only [hagg, if_true]
      rw [run_bindE (run_size hn)]; rfl
    · rw [Array.getElem?_extract] at hx hy
      split at hx <;> simp_all
      exact h _ x y hx hy.2
  · obtain ⟨hagg, rfl⟩ := hc
    simp only [apart] at hv
    have hlt : off < a.size := by
      rcases Nat.lt_or_ge off a.size with h' | h'
      · exact h'
      · rw [Array.getElem?_eq_none h'] at hv; simp at hv
    have hb : b[off]? = some b[off] := Array.getElem?_eq_getElem (by omega)
    refine ⟨b[off], ?_, h off v _ hv hb⟩
    unfold part
    rw [run_bindE (run_isAgg hd)]
    simp only [hagg, hb]
    rfl

theorem apure_run {α : Type} {s : Sem α} {a : α} (h : apure P s = some a) : s.run P w = .ok a w := by
  induction s with
  | pure x => simp [apure] at h; subst h; rfl
  | program k ih => simp only [apure] at h; simp only [Sem.run]; exact ih _ h
  | mark m k ih => simp only [apure] at h; simp only [Sem.run]; exact ih h
  | _ => simp [apure] at h

theorem pures_run {s : Sem Value} {v : Value} (h : pures P s = some v) : s.run P w = .ok v w ∧ plain v = true := by
  unfold pures at h
  cases e : apure P s with
  | none => simp [e] at h
  | some x =>
    simp only [e] at h
    split at h
    · rename_i hp; simp only [Option.some.injEq] at h; subst h; exact ⟨apure_run e, hp⟩
    · simp at h

end

/-- What an operation's run comes to. -/
def Val (r : Result Next) (y : Value) (w : World) : Prop := r = .ok (.value y) w ∨ (r = .ok .skip w ∧ y = undef)

def OpS (P : Program) (B : Nat) (g : Ghost) (w : World) (run : Sem Next) : ARes → Prop
  | .val v h' => ∃ y w' g', Val (run.run P w) y w' ∧ VRel g' v y ∧ Rel P B g' h' w' ∧ Ext g w g' w'
  | .call tg args => ∃ args' : Array Value, LR g args args'.toList ∧
      match tg with
      | .fn f => run.run P w = (callFunc f args').run P w
      | .yield l => ∃ r, g.lp l = some r ∧ run.run P w = (Instr.yield r args').run P w

section
variable {P : Program} {B : Nat} {g : Ghost} {h : Heap} {w : World} {ρ ρ' : Operand → Value}

theorem OpS.same (R : Rel P B g h w) {run : Sem Next} {v y : Value} (hr : run.run P w = .ok (.value y) w) (hv : VRel g v y) : OpS P B g w run (.val v h) :=
  ⟨y, w, g, .inl hr, hv, R, Ext.refl g w⟩

theorem run_v {s : Sem Value} {y : Value} {w' : World} (hs : s.run P w = .ok y w') : (do pure (Next.value (← s)) : Sem Next).run P w = .ok (.value y) w' := by
  rw [run_bindE hs]; rfl

theorem run_u {s : Sem Unit} {w' : World} (hs : s.run P w = .ok () w') : (do s; pure Next.skip : Sem Next).run P w = .ok .skip w' := by
  rw [run_bindE hs]; rfl

theorem OpS.sameV (R : Rel P B g h w) {s : Sem Value} {v y : Value} (hr : s.run P w = .ok y w) (hv : VRel g v y) : OpS P B g w (do pure (Next.value (← s))) (.val v h) :=
  OpS.same R (run_v hr) hv

theorem toVal_some {o : Option Value} {res : ARes} (he : toVal h o = some res) : ∃ v, o = some v ∧ res = .val v h := by
  cases o with
  | none => simp [toVal] at he
  | some v => simp [toVal] at he; exact ⟨v, rfl, he.symm⟩

theorem os_move (R : Rel P B g h w) {x : Operand} (hx : VRel g (ρ x) (ρ' x)) {res : ARes} (he : some (ARes.val (ρ x) h) = some res) : OpS P B g w (pure (.value (ρ' x))) res := by
  simp only [Option.some.injEq] at he; subst he
  exact OpS.same R rfl hx

theorem rel_bool {x : Bool} {y : Value} (h : VRel g (.bool x) y) : y = .bool x := by cases h; rfl
theorem rel_int {k : IntKind} {n : Int} {y : Value} (h : VRel g (.int k n) y) : y = .int k n := by cases h; rfl
theorem rel_string {s : ByteArray} {y : Value} (h : VRel g (.string s) y) : y = .string s := by cases h; rfl
theorem rel_ptr {a : Addr} {y : Value} (h : VRel g (.pointer (some a)) y) : ∃ r, y = .pointer (some r) ∧ ARel g a r := by cases h; exact ⟨_, rfl, by assumption⟩
theorem rel_iface {t : TypeId} {v y : Value} (h : VRel g (.iface t v) y) : ∃ u, y = .iface t u ∧ VRel g v u := by cases h; exact ⟨_, rfl, by assumption⟩

theorem os_pick (R : Rel P B g h w) {c a b : Operand} (hc : VRel g (ρ c) (ρ' c)) (ha : VRel g (ρ a) (ρ' a)) (hb : VRel g (ρ b) (ρ' b)) {res : ARes}
    (he : aop P h ρ (.pick c a b) = some res) : OpS P B g w (do pure (.value (if ← asBool (ρ' c) then ρ' a else ρ' b))) res := by
  simp only [aop] at he
  split at he
  · rename_i e
    rw [e] at hc
    simp only [Option.some.injEq] at he; subst he
    exact OpS.same R (by rw [rel_bool hc]; rfl) ha
  · rename_i e
    rw [e] at hc
    simp only [Option.some.injEq] at he; subst he
    exact OpS.same R (by rw [rel_bool hc]; rfl) hb
  · simp at he

theorem allPlain_LR {l : List Value} (hl : allPlain l = true) : LR g l l := by
  unfold allPlain at hl
  rw [List.all_eq_true] at hl
  refine ⟨rfl, fun i x y hx hy => ?_⟩
  rw [hx] at hy; cases hy
  exact plain_refl (hl x (List.mem_of_getElem? hx))

theorem zeroOf_some {t : TypeId} {l : List Value} (hz : zeroOf P t = some l) : ∃ i z, P.info? t = some i ∧ i.zero = some z ∧ z.cells.toList = l ∧ allPlain l = true := by
  unfold zeroOf at hz
  split at hz
  · rename_i i hi
    split at hz
    · rename_i z hzz
      split at hz
      · rename_i hp
        simp only [Option.some.injEq] at hz; subst hz
        exact ⟨i, z, hi, hzz, rfl, hp⟩
      · simp at hz
    · simp at hz
  · simp at hz

theorem LR.getc {xs : List Value} {c : Array Value} (h : LR g xs c.toList) : ∀ (j : Nat) (x : Value), xs[j]? = some x → ∃ y, c[j]? = some y ∧ VRel g x y := by
  intro j x hx
  obtain ⟨y, hy, hv⟩ := h.get hx
  exact ⟨y, by simpa using hy, hv⟩

theorem os_new (R : Rel P B g h w) {t : TypeId} {res : ARes} (he : aop P h ρ (compOp P (.alloc t)) = some res) :
    OpS P B g w (do pure (.value (← Instr.alloc t true (.tuple #[])))) res := by
  simp only [compOp] at he
  split at he
  · rename_i l hz
    obtain ⟨i, z, hi, hzz, rfl, hp⟩ := zeroOf_some hz
    simp only [aop, Option.some.injEq] at he; subst he
    obtain ⟨g', R', E', ha, _, _⟩ := new_sound R z.cells t z.cells.toList 0 (by simp) (allPlain_LR hp).getc
    refine ⟨_, _, g', .inl (run_v (y := .pointer (some ⟨w.heap.size, 0, none⟩)) (w' := w.alloc (.cells z.cells t)) ?_), .ptr ha, R', E'⟩
    unfold Instr.alloc
    rw [run_bindE (run_zero hi hzz)]
    simp only
    rw [run_bindE run_newVar]; rfl
  · simp [aop] at he

theorem os_box (R : Rel P B g h w) {t : TypeId} {x : Operand} (hx : VRel g (ρ x) (ρ' x)) {res : ARes} (he : aop P h ρ (.box x) = some res) :
    OpS P B g w (do pure (.value (← Instr.box t (ρ' x)))) res := by
  simp only [aop] at he
  split at he
  · rename_i hg
    simp only [Option.some.injEq] at he; subst he
    have hl := cells_rel hx hg
    obtain ⟨g', R', E', ha, _, _⟩ := new_sound R (ρ' x).cells t (ρ x).cells.toList 0 (by have := hl.1; simp at this; simp; omega) hl.getc
    refine ⟨_, _, g', .inl (run_v (y := .pointer (some ⟨w.heap.size, 0, none⟩)) (w' := w.alloc (.cells (ρ' x).cells t)) ?_), .ptr ha, R', E'⟩
    unfold Instr.box
    rw [run_bindE run_newVar]; rfl
  · simp at he

theorem os_load (R : Rel P B g h w) {t : TypeId} {x : Operand} (hx : VRel g (ρ x) (ρ' x)) {res : ARes} (he : aop P h ρ (compOp P (.load t x)) = some res) :
    OpS P B g w (do pure (.value (← Instr.loadAt t (ρ' x)))) res := by
  simp only [compOp] at he
  split at he
  · rename_i q hq
    simp only [aop] at he
    split at he
    · rename_i a ha
      rw [ha] at hx
      obtain ⟨r, hr, har⟩ := rel_ptr hx
      obtain ⟨v, hv, rfl⟩ := toVal_some he
      obtain ⟨y, hy, hvy⟩ := loadVar_sound R hq har hv
      refine OpS.sameV R ?_ hvy
      rw [hr]; unfold Instr.loadAt
      rw [run_bindE (a := r) (w' := w) rfl]; exact hy
    · simp at he
  · simp [aop] at he

theorem os_store (R : Rel P B g h w) {t : TypeId} {a x : Operand} (ha : VRel g (ρ a) (ρ' a)) (hx : VRel g (ρ x) (ρ' x)) {res : ARes} (he : aop P h ρ (compOp P (.store t a x)) = some res) :
    OpS P B g w (do Instr.storeAt t (ρ' a) (ρ' x); pure .skip) res := by
  simp only [compOp] at he
  split at he
  · rename_i n hn
    simp only [aop] at he
    split at he
    · rename_i p hp
      rw [hp] at ha
      obtain ⟨r, hr, har⟩ := rel_ptr ha
      split at he
      · rename_i hc
        split at he
        · rename_i h' hs
          simp only [Option.some.injEq] at he; subst he
          have hl := cells_rel hx hc.1
          obtain ⟨w', hrun, R', E'⟩ := storeN_sound _ R har hl hs 0
          refine ⟨undef, w', g, .inr ⟨run_u ?_, rfl⟩, .top _, R', E'⟩
          have := hrun r har.spot (by simp [Addr.add])
          rw [hr]; unfold Instr.storeAt
          rw [run_bindE (a := r) (w' := w) rfl]
          unfold storeVar
          rw [run_bindE (run_size hn)]
          have hsz : (ρ' x).cells.size = n := by have := hl.1; simp at this; omega
          simp only [hsz]
          simpa using this
        · simp at he
      · simp at he
    · simp at he
  · simp [aop] at he

end

end Go.Ax
