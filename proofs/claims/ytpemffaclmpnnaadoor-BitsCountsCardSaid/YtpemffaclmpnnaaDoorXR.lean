/- An abstract machine for Go programs: how its memory stands to the model's. -/
import Derived.Test.YtpemffaclmpnnaaDoorXC
namespace Go.Ax
set_option linter.unusedVariables false
set_option linter.unusedSimpArgs false

/-- Where the abstract things lie in the model's world. -/
structure Ghost where
  m : Nat → Nat → Option Nat
  room : Nat → Nat → Nat
  es : Nat → Nat
  ro : Nat → Addr
  lp : Nat → Option Nat

/-- Where a block of the memory that is only read lies: package variables keep their numbers. -/
def roA (g : Ghost) (b : Nat) : Addr := if b < 4294967296 then ⟨b, 0, none⟩ else g.ro b

def ARel (g : Ghost) (a r : Addr) : Prop :=
  r.spot = none ∧
  match a.spot with
  | none => r.block = (roA g a.block).block ∧ r.off = (roA g a.block).off + a.off
  | some v => g.m a.block v = some r.block ∧ r.off = a.off

inductive VRel (g : Ghost) : Value → Value → Prop
  | top (y : Value) : VRel g undef y
  | skip : VRel g skipV undef
  | bool (b : Bool) : VRel g (.bool b) (.bool b)
  | int (k : IntKind) (n : Int) : VRel g (.int k n) (.int k n)
  | float (k : FloatKind) (n : Nat) : VRel g (.float k n) (.float k n)
  | complex (k : FloatKind) (n m : Nat) : VRel g (.complex k n m) (.complex k n m)
  | string (s : ByteArray) : VRel g (.string s) (.string s)
  | ptrN : VRel g (.pointer none) (.pointer none)
  | nilFunc : VRel g .nilFunc .nilFunc
  | nilIface : VRel g .nilIface .nilIface
  | ptr {a r : Addr} (h : ARel g a r) : VRel g (.pointer (some a)) (.pointer (some r))
  | sliN (l c : Nat) : VRel g (.slice none l c) (.slice none l c)
  | sliK {a r : Addr} (len cap : Nat) (h : ARel g a r) (hc : cap < gcap) : VRel g (.slice (some a) len cap) (.slice (some r) len cap)
  | sliU {a r : Addr} (len rcap : Nat) (h : ARel g a r) (hl : len ≤ rcap)
      (hr : ∀ v, a.spot = some v → a.off + rcap * g.es a.block = g.room a.block v) :
      VRel g (.slice (some a) len gcap) (.slice (some r) len rcap)
  | sliE (r : Addr) (rcap : Nat) : VRel g (.slice (some ⟨0, 0, none⟩) 0 (gcap + 1)) (.slice (some r) 0 rcap)
  | func (fn : Fn) {a b c d : Array Value} (hf : ∀ l, fn ≠ .yield l) (h1 : a.size = b.size) (h2 : c.size = d.size)
      (ha : ∀ (i : Nat) (x y : Value), a[i]? = some x → b[i]? = some y → VRel g x y) (hc : ∀ (i : Nat) (x y : Value), c[i]? = some x → d[i]? = some y → VRel g x y) :
      VRel g (.func fn a c) (.func fn b d)
  | yield {l r : Nat} (h : g.lp l = some r) : VRel g (.func (.yield l) #[] #[]) (.func (.yield r) #[] #[])
  | iface (t : TypeId) {x y : Value} (h : VRel g x y) : VRel g (.iface t x) (.iface t y)
  | agg {a b : Array Value} (hs : a.size = b.size) (h : ∀ (i : Nat) (x y : Value), a[i]? = some x → b[i]? = some y → VRel g x y) : VRel g (.agg a) (.agg b)
  | tuple {a b : Array Value} (hs : a.size = b.size) (h : ∀ (i : Nat) (x y : Value), a[i]? = some x → b[i]? = some y → VRel g x y) : VRel g (.tuple a) (.tuple b)

def InR (g : Ghost) (r : Nat) : Prop := (∃ b v, g.m b v = some r) ∨ ∃ l, g.lp l = some r

structure Gle (g g' : Ghost) : Prop where
  m : ∀ b v r, g.m b v = some r → g'.m b v = some r
  room : ∀ b v r, g.m b v = some r → g'.room b v = g.room b v
  es : ∀ b v r, g.m b v = some r → g'.es b = g.es b
  ro : g'.ro = g.ro
  lp : ∀ l r, g.lp l = some r → g'.lp l = some r

theorem Gle.refl (g : Ghost) : Gle g g := ⟨fun _ _ _ h => h, fun _ _ _ _ => rfl, fun _ _ _ _ => rfl, rfl, fun _ _ h => h⟩

theorem Gle.trans {a b c : Ghost} (h : Gle a b) (k : Gle b c) : Gle a c :=
  ⟨fun x v r e => k.m _ _ _ (h.m _ _ _ e), fun x v r e => (k.room _ _ _ (h.m _ _ _ e)).trans (h.room _ _ _ e),
   fun x v r e => (k.es _ _ _ (h.m _ _ _ e)).trans (h.es _ _ _ e), k.ro.trans h.ro, fun l r e => k.lp _ _ (h.lp _ _ e)⟩

theorem ARel.mono {g g' : Ghost} (hg : Gle g g') {a r : Addr} (h : ARel g a r) : ARel g' a r := by
  obtain ⟨h0, h1⟩ := h
  refine ⟨h0, ?_⟩
  cases hs : a.spot with
  | none => rw [hs] at h1; simpa [roA, hg.ro] using h1
  | some v => rw [hs] at h1; exact ⟨hg.m _ _ _ h1.1, h1.2⟩

theorem VRel.mono {g g' : Ghost} (hg : Gle g g') {x y : Value} (h : VRel g x y) : VRel g' x y := by
  induction h with
  | top y => exact .top y
  | skip => exact .skip
  | bool b => exact .bool b
  | int k n => exact .int k n
  | float k n => exact .float k n
  | complex k n m => exact .complex k n m
  | string s => exact .string s
  | ptrN => exact .ptrN
  | nilFunc => exact .nilFunc
  | nilIface => exact .nilIface
  | ptr h => exact .ptr (h.mono hg)
  | sliN l c => exact .sliN l c
  | sliK len cap h hc => exact .sliK len cap (h.mono hg) hc
  | @sliU a r len rcap h hl hr =>
    refine .sliU len rcap (h.mono hg) hl fun v hv => ?_
    have h1 := h.2
    rw [hv] at h1
    rw [hg.es _ _ _ h1.1, hg.room _ _ _ h1.1]
    exact hr v hv
  | sliE r rcap => exact .sliE r rcap
  | func fn hf h1 h2 _ _ iha ihc => exact .func fn hf h1 h2 iha ihc
  | yield h => exact .yield (hg.lp _ _ h)
  | iface t _ ih => exact .iface t ih
  | agg hs _ ih => exact .agg hs ih
  | tuple hs _ ih => exact .tuple hs ih

def LR (g : Ghost) (xs ys : List Value) : Prop := xs.length = ys.length ∧ ∀ (i : Nat) (x y : Value), xs[i]? = some x → ys[i]? = some y → VRel g x y

theorem LR.mono {g g' : Ghost} (hg : Gle g g') {xs ys : List Value} (h : LR g xs ys) : LR g' xs ys := ⟨h.1, fun i x y a b => (h.2 i x y a b).mono hg⟩

theorem LR.nil (g : Ghost) : LR g [] [] := ⟨rfl, fun i x y h => by simp at h⟩

theorem LR.cons {g : Ghost} {x y : Value} {xs ys : List Value} (h : VRel g x y) (t : LR g xs ys) : LR g (x :: xs) (y :: ys) := by
  refine ⟨by simp [t.1], fun i a b ha hb => ?_⟩
  cases i with
  | zero => simp at ha hb; subst ha; subst hb; exact h
  | succ i => simp at ha hb; exact t.2 i a b ha hb

theorem LR.of_cons {g : Ghost} {x y : Value} {xs ys : List Value} (h : LR g (x :: xs) (y :: ys)) : VRel g x y ∧ LR g xs ys :=
  ⟨h.2 0 x y rfl rfl, by simpa using h.1, fun i a b ha hb => h.2 (i + 1) a b (by simpa using ha) (by simpa using hb)⟩

theorem LR.cons_inv {g : Ghost} {x : Value} {xs ys : List Value} (h : LR g (x :: xs) ys) : ∃ y ys', ys = y :: ys' ∧ VRel g x y ∧ LR g xs ys' := by
  cases ys with
  | nil => have := h.1; simp at this
  | cons y ys' => exact ⟨y, ys', rfl, h.of_cons.1, h.of_cons.2⟩

theorem LR.nil_inv {g : Ghost} {ys : List Value} (h : LR g [] ys) : ys = [] := by
  have := h.1; cases ys <;> simp_all

theorem LR.append {g : Ghost} {a b c d : List Value} (h : LR g a b) (k : LR g c d) : LR g (a ++ c) (b ++ d) := by
  refine ⟨by simp [h.1, k.1], fun i x y hx hy => ?_⟩
  have e := h.1
  by_cases hi : i < a.length
  · rw [List.getElem?_append_left hi] at hx
    rw [List.getElem?_append_left (by omega)] at hy
    exact h.2 i x y hx hy
  · rw [List.getElem?_append_right (by omega)] at hx
    rw [List.getElem?_append_right (by omega), ← e] at hy
    exact k.2 _ x y hx hy

theorem LR.get {g : Ghost} {xs ys : List Value} (h : LR g xs ys) {i : Nat} {x : Value} (hx : xs[i]? = some x) : ∃ y, ys[i]? = some y ∧ VRel g x y := by
  have hi : i < xs.length := by
    rcases Nat.lt_or_ge i xs.length with h' | h'
    · exact h'
    · rw [List.getElem?_eq_none h'] at hx; simp at hx
  have hi' : i < ys.length := by rw [← h.1]; exact hi
  exact ⟨ys[i], List.getElem?_eq_getElem hi', h.2 i x _ hx (List.getElem?_eq_getElem hi')⟩

theorem LR.set {g : Ghost} {xs ys : List Value} (h : LR g xs ys) {x y : Value} (hv : VRel g x y) (d : Nat) : LR g (xs.set d x) (ys.set d y) := by
  refine ⟨by simp [h.1], fun i a b ha hb => ?_⟩
  by_cases e : d = i
  · subst e
    rw [List.getElem?_set] at ha hb
    simp at ha hb
    rw [← ha.2, ← hb.2]; exact hv
  · rw [List.getElem?_set_ne e] at ha hb
    exact h.2 i a b ha hb

theorem LR.take {g : Ghost} {xs ys : List Value} (h : LR g xs ys) (n : Nat) : LR g (xs.take n) (ys.take n) := by
  refine ⟨by simp [h.1], fun i a b ha hb => ?_⟩
  rw [List.getElem?_take] at ha hb
  split at ha <;> simp_all
  exact h.2 i a b ha hb

theorem LR.drop {g : Ghost} {xs ys : List Value} (h : LR g xs ys) (n : Nat) : LR g (xs.drop n) (ys.drop n) := by
  refine ⟨by simp [h.1], fun i a b ha hb => ?_⟩
  rw [List.getElem?_drop] at ha hb
  exact h.2 _ a b ha hb

theorem LR.replicate {g : Ghost} {x y : Value} (h : VRel g x y) (n : Nat) : LR g (List.replicate n x) (List.replicate n y) := by
  refine ⟨by simp, fun i a b ha hb => ?_⟩
  rw [List.getElem?_replicate] at ha hb
  split at ha <;> simp_all

theorem LR.map {g : Ghost} {α : Type} (l : List α) (f f' : α → Value) (h : ∀ a ∈ l, VRel g (f a) (f' a)) : LR g (l.map f) (l.map f') := by
  refine ⟨by simp, fun i a b ha hb => ?_⟩
  rw [List.getElem?_map] at ha hb
  cases hl : l[i]? with
  | none => simp [hl] at ha
  | some z =>
    simp [hl] at ha hb
    subst ha; subst hb
    exact h z (List.mem_of_getElem? hl)

/-! ### values without an address -/

theorem plainN_eq {g : Ghost} : ∀ (n : Nat) {x y : Value}, plainN n x = true → VRel g x y → y = x := by
  intro n
  induction n with
  | zero =>
    intro x y hp h
    cases h <;> simp_all [plainN, undef, skipV]
  | succ n ih =>
    intro x y hp h
    cases h with
    | top => simp [plainN, undef] at hp
    | skip => simp [plainN, skipV] at hp
    | iface t h => simp only [plainN] at hp; rw [ih hp h]
    | @agg a b hs h =>
      simp only [plainN, List.all_eq_true] at hp
      congr 1
      refine Array.ext (by omega) fun i h1 h2 => ?_
      exact ih (hp a[i] (by simp)) (h i a[i] b[i] (Array.getElem?_eq_getElem h2) (Array.getElem?_eq_getElem h1))
    | @tuple a b hs h =>
      simp only [plainN, List.all_eq_true, Bool.and_eq_true] at hp
      congr 1
      refine Array.ext (by omega) fun i h1 h2 => ?_
      exact ih (hp.2 a[i] (by simp)) (h i a[i] b[i] (Array.getElem?_eq_getElem h2) (Array.getElem?_eq_getElem h1))
    | func => simp [plainN] at hp
    | yield => simp [plainN] at hp
    | ptr => simp [plainN] at hp
    | sliK => simp [plainN] at hp
    | sliU => simp [plainN] at hp
    | sliE => simp [plainN] at hp
    | _ => rfl

theorem plainN_refl {g : Ghost} : ∀ (n : Nat) {x : Value}, plainN n x = true → VRel g x x := by
  intro n
  induction n with
  | zero =>
    intro x hp
    cases x with
    | pointer a => cases a with | none => constructor | some a => simp [plainN] at hp
    | slice a l c => cases a with | none => constructor | some a => simp [plainN] at hp
    | map => simp [plainN] at hp
    | chan => simp [plainN] at hp
    | func => simp [plainN] at hp
    | iface => simp [plainN] at hp
    | agg => simp [plainN] at hp
    | tuple => simp [plainN] at hp
    | _ => constructor
  | succ n ih =>
    intro x hp
    cases x with
    | iface t v => simp only [plainN] at hp; exact .iface t (ih hp)
    | agg a =>
      simp only [plainN, List.all_eq_true] at hp
      exact .agg rfl fun i x y hx hy => by
        rw [hx] at hy; cases hy; exact ih (hp x (Array.mem_toList_iff.2 (Array.mem_of_getElem? hx)))
    | tuple a =>
      simp only [plainN, List.all_eq_true, Bool.and_eq_true] at hp
      exact .tuple rfl fun i x y hx hy => by
        rw [hx] at hy; cases hy; exact ih (hp.2 x (Array.mem_toList_iff.2 (Array.mem_of_getElem? hx)))
    | pointer a => cases a with | none => constructor | some a => simp [plainN] at hp
    | slice a l c => cases a with | none => constructor | some a => simp [plainN] at hp
    | map => simp [plainN] at hp
    | chan => simp [plainN] at hp
    | func => simp [plainN] at hp
    | _ => constructor

theorem plain_eq {g : Ghost} {x y : Value} (hp : plain x = true) (h : VRel g x y) : y = x := plainN_eq 12 hp h
theorem plain_refl {g : Ghost} {x : Value} (hp : plain x = true) : VRel g x x := plainN_refl 12 hp

end Go.Ax
