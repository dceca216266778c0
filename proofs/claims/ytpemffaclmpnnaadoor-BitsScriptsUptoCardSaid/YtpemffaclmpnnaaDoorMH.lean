/- An abstract machine for Go programs: from an abstract run to the model's call, at a world with arguments. -/
import Derived.Test.YtpemffaclmpnnaaDoorMG
import Derived.Below
import Derived.ProofKit
import Derived.OpenShut
import Derived.WideShapes
import Derived.ChangeSlices
import Derived.SizedLaws
import Derived.ChangeArms
namespace Go.Ax
set_option linter.unusedVariables false
set_option linter.unusedSimpArgs false

def ghost0 (A : Nat → Addr) : Ghost := { m := fun _ _ => none, room := fun _ _ => 0, es := fun _ => 0, ro := A, lp := fun _ => none }
def heap0 (ro : Nat → Nat → Option Value) : Heap := { ro := ro, dyn := [], lps := [] }

section
variable {P : Program} {T : Table}

theorem rel0 {W : World} {A : Nat → Addr} {ro : Nat → Nat → Option Value}
    (hro : ∀ b o x, ro b o = some x → (roA (ghost0 A) b).block < W.heap.size ∧ ∃ y, W.cell? ⟨(roA (ghost0 A) b).block, (roA (ghost0 A) b).off + o, none⟩ = some y ∧ VRel (ghost0 A) x y) :
    Rel P W.heap.size (ghost0 A) (heap0 ro) W where
  base := Nat.le_refl _
  blk := fun b k h => by simp [heap0] at h
  dom := fun b v r h => by simp [ghost0] at h
  inj := fun b v r b' v' h => by simp [ghost0] at h
  ro := hro
  lps := fun l p h => by simp [heap0] at h
  lpdom := fun l r h => by simp [ghost0] at h
  lpinj := fun l l' r h => by simp [ghost0] at h

theorem entry (hT : TableOk P T) (hmix : P.follows .mixedOrders = true) {f : FuncId} (htab : (T f).isSome = true) {args : List Value} {args' : Array Value} {W : World} (A : Nat → Addr) (ro : Nat → Nat → Option Value)
    (hro : ∀ b o x, ro b o = some x → (roA (ghost0 A) b).block < W.heap.size ∧ ∃ y, W.cell? ⟨(roA (ghost0 A) b).block, (roA (ghost0 A) b).off + o, none⟩ = some y ∧ VRel (ghost0 A) x y)
    (hl : LR (ghost0 A) args args'.toList) (G : Gives P T (.fn f) args (heap0 ro) fun v _ => v = .bool true) :
    Calls P f args' W fun e W' => e = .returned (.bool true) ∧ Go.RowKit.Below W.heap.size W W' := by
  obtain ⟨v, h', hr, rfl⟩ := G
  obtain ⟨n, hn⟩ := of_acallW hr
  refine (acall_sound hT hmix hn htab (rel0 (P := P) hro) hl).mono fun e W' h => ?_
  obtain ⟨y, g', rfl, hv, R, E⟩ := h
  have hy := rel_bool hv
  subst hy
  exact ⟨rfl, Ext.below (rel0 (P := P) hro) E⟩

theorem entryX (hT : TableOkX P T) (hmix : P.follows .mixedOrders = true) {f : FuncId} (htab : (T f).isSome = true) {args : List Value} {args' : Array Value} {W : World} (A : Nat → Addr) (ro : Nat → Nat → Option Value)
    (hro : ∀ b o x, ro b o = some x → (roA (ghost0 A) b).block < W.heap.size ∧ ∃ y, W.cell? ⟨(roA (ghost0 A) b).block, (roA (ghost0 A) b).off + o, none⟩ = some y ∧ VRel (ghost0 A) x y)
    (hl : LR (ghost0 A) args args'.toList) (G : Gives P T (.fn f) args (heap0 ro) fun v _ => v = .bool true) :
    Calls P f args' W fun e W' => e = .returned (.bool true) ∧ Go.RowKit.Below W.heap.size W W' := by
  obtain ⟨v, h', hr, rfl⟩ := G
  obtain ⟨n, hn⟩ := of_acallW hr
  refine (acall_soundX hT hmix hn htab (rel0 (P := P) hro) hl).mono fun e W' h => ?_
  obtain ⟨y, g', rfl, hv, R, E⟩ := h
  have hy := rel_bool hv
  subst hy
  exact ⟨rfl, Ext.below (rel0 (P := P) hro) E⟩

end

/-- Memory that is only read: package variables, and what else is named from 2^32 on. -/
def roBlk (g : Nat → Nat → Option Value) (L : Nat → Nat → Option Value) (b o : Nat) : Option Value :=
  if b < 4294967296 then g b o else L (b - 4294967296) o

theorem roBlk_lo {g : Nat → Nat → Option Value} {L : Nat → Nat → Option Value} {b o : Nat} (h : b < 4294967296) : roBlk g L b o = g b o := by simp [roBlk, h]
theorem roBlk_hi {g : Nat → Nat → Option Value} {L : Nat → Nat → Option Value} {k o : Nat} : roBlk g L (4294967296 + k) o = L k o := by
  unfold roBlk
  rw [if_neg (by omega), Nat.add_sub_cancel_left]

/-! ### the memory that a call finds, read as it is: an address is named by a number -/

def enc2 (a b : Nat) : Nat := 2 ^ a * (2 * b + 1)

theorem enc2_inj : ∀ {a b c d : Nat}, enc2 a b = enc2 c d → a = c ∧ b = d := by
  intro a
  induction a with
  | zero =>
    intro b c d h
    cases c with
    | zero => simp only [enc2, Nat.pow_zero, Nat.one_mul] at h; exact ⟨rfl, by omega⟩
    | succ c => simp only [enc2, Nat.pow_zero, Nat.one_mul, Nat.pow_succ, Nat.mul_assoc] at h; rw [Nat.mul_left_comm] at h; omega
  | succ a ih =>
    intro b c d h
    cases c with
    | zero => simp only [enc2, Nat.pow_zero, Nat.one_mul, Nat.pow_succ, Nat.mul_assoc] at h; rw [Nat.mul_left_comm] at h; omega
    | succ c =>
      have : enc2 a b = enc2 c d := by
        simp only [enc2, Nat.pow_succ, Nat.mul_assoc] at h ⊢
        rw [Nat.mul_left_comm, Nat.mul_left_comm (2 ^ c)] at h
        omega
      obtain ⟨h1, h2⟩ := ih this
      exact ⟨by omega, h2⟩

open Classical in
noncomputable def dec2 (n : Nat) : Nat × Nat := if h : ∃ p : Nat × Nat, enc2 p.1 p.2 = n then h.choose else (0, 0)

theorem dec2_enc2 (a b : Nat) : dec2 (enc2 a b) = (a, b) := by
  unfold dec2
  have h : ∃ p : Nat × Nat, enc2 p.1 p.2 = enc2 a b := ⟨(a, b), rfl⟩
  rw [dif_pos h]
  obtain ⟨h1, h2⟩ := enc2_inj h.choose_spec
  exact Prod.ext h1 h2

noncomputable def AW (b : Nat) : Addr := ⟨(dec2 (b - 4294967296)).1, (dec2 (b - 4294967296)).2, none⟩
def absA (a : Addr) : Addr := ⟨4294967296 + enc2 a.block a.off, 0, none⟩

theorem AW_abs {a : Addr} (h : a.spot = none) : AW (absA a).block = a := by
  obtain ⟨b, o, s⟩ := a
  simp only at h
  subst h
  simp [AW, absA, dec2_enc2]

/-- A value of the memory, its addresses named. (A slice of length 0 may point anywhere.) -/
def absC : Value → Option Value
  | .slice (some a) n c => if n = 0 then some (.slice (some ⟨0, 0, none⟩) 0 (gcap + 1)) else if a.spot = none ∧ n ≤ c then some (.slice (some (absA a)) n gcap) else none
  | y => if plain y then some y else none

theorem absC_plain {y : Value} (h : plain y = true) : absC y = some y := by
  unfold absC
  split
  · simp [plain, plainN] at h
  · rw [if_pos h]

theorem absS_rel {a : Addr} {n c : Nat} (hs : a.spot = none) (hc : n ≤ c) : VRel (ghost0 AW) (.slice (some (absA a)) n gcap) (.slice (some a) n c) := by
  refine .sliU n c ⟨hs, ?_⟩ hc (fun v e => by simp [absA] at e)
  have : roA (ghost0 AW) (absA a).block = a := by
    unfold roA
    rw [if_neg (by simp [absA])]
    exact AW_abs hs
  simp only [absA] at this ⊢
  rw [this]
  exact ⟨rfl, by simp⟩

theorem absC_rel {y x : Value} (h : absC y = some x) : VRel (ghost0 AW) x y := by
  unfold absC at h
  split at h
  · rename_i a n c
    split at h
    · rename_i hn
      subst hn
      obtain rfl := Option.some.inj h
      exact .sliE a c
    · split at h
      · rename_i hh
        obtain rfl := Option.some.inj h
        exact absS_rel hh.1 hh.2
      · cases h
  · split at h
    · rename_i hp
      obtain rfl := Option.some.inj h
      exact plain_refl hp
    · cases h

noncomputable def memW (W : World) (k o : Nat) : Option Value := (W.cell? ⟨(dec2 k).1, (dec2 k).2 + o, none⟩).bind absC

section
variable {P : Program} {T : Table}

theorem cell_ltA {w : World} {a : Addr} {v : Value} (h : w.cell? a = some v) : a.block < w.heap.size := by
  rcases Nat.lt_or_ge a.block w.heap.size with h' | h'
  · exact h'
  · simp [World.cell?, Array.getElem?_eq_none h'] at h

theorem ro_mem {W : World} {g : Nat → Nat → Option Value}
    (hg : ∀ b o x, g b o = some x → plain x = true ∧ b < W.heap.size ∧ W.cell? ⟨b, o, none⟩ = some x) :
    ∀ b o x, roBlk g (memW W) b o = some x → (roA (ghost0 AW) b).block < W.heap.size ∧ ∃ y, W.cell? ⟨(roA (ghost0 AW) b).block, (roA (ghost0 AW) b).off + o, none⟩ = some y ∧ VRel (ghost0 AW) x y := by
  intro b o x h
  unfold roBlk at h
  unfold roA
  split at h
  · rename_i hb
    rw [if_pos hb]
    obtain ⟨h1, h2, h3⟩ := hg b o x h
    exact ⟨h2, x, by simpa using h3, plain_refl h1⟩
  · rename_i hb
    rw [if_neg hb]
    simp only [memW, Option.bind_eq_some_iff] at h
    obtain ⟨y, h1, h2⟩ := h
    have h3 := cell_ltA h1
    exact ⟨h3, y, h1, absC_rel h2⟩

/-- What memory holds at an address, read by its name. -/
theorem mem_get {W : World} {g : Nat → Nat → Option Value} {a : Addr} (hs : a.spot = none) {i : Nat} {y x : Value} (hc : W.cell? ⟨a.block, a.off + i, none⟩ = some y) (hx : absC y = some x) : roBlk g (memW W) (absA a).block i = some x := by
  show roBlk g (memW W) (4294967296 + enc2 a.block a.off) i = some x
  rw [roBlk_hi]
  simp only [memW, dec2_enc2, hc, Option.bind_some, hx]

end
end Go.Ax

/- An abstract machine for Go programs: what blocks hold, and what changes. -/
namespace Go.Ax
set_option linter.unusedVariables false
set_option linter.unusedSimpArgs false

@[simp] theorem aadd_zero (a : Addr) : aadd a 0 = a := rfl
@[simp] theorem aadd_mk (b o n : Nat) (s : Option Nat) : aadd ⟨b, o, s⟩ n = ⟨b, o + n, s⟩ := rfl

/-- From h to h' at most the blocks of S have changed; new ones may have come. -/
structure Chg (S : Nat → Prop) (h h' : Heap) : Prop where
  ro : h'.ro = h.ro
  lps : h'.lps = h.lps
  len : h.dyn.length ≤ h'.dyn.length
  same : ∀ b, b < h.dyn.length → ¬ S b → h'.dyn[b]? = h.dyn[b]?

abbrev Grow (h h' : Heap) : Prop := Chg (fun _ => False) h h'

theorem Chg.refl {S : Nat → Prop} (h : Heap) : Chg S h h := ⟨rfl, rfl, Nat.le_refl _, fun _ _ _ => rfl⟩

theorem Chg.trans {S : Nat → Prop} {a b c : Heap} (k : Chg S a b) (l : Chg S b c) : Chg S a c where
  ro := l.ro.trans k.ro
  lps := l.lps.trans k.lps
  len := Nat.le_trans k.len l.len
  same := fun i hi hs => by rw [l.same i (Nat.lt_of_lt_of_le hi k.len) hs, k.same i hi hs]

theorem Chg.mono {S S' : Nat → Prop} {a b : Heap} (k : Chg S a b) (i : ∀ n, n < a.dyn.length → S n → S' n) : Chg S' a b :=
  ⟨k.ro, k.lps, k.len, fun n hn hs => k.same n hn fun h => hs (i n hn h)⟩

theorem Chg.after {S S' : Nat → Prop} {a b c : Heap} (k : Chg S a b) (l : Chg S' b c) (i : ∀ n, n < a.dyn.length → S' n → S n) : Chg S a c where
  ro := l.ro.trans k.ro
  lps := l.lps.trans k.lps
  len := Nat.le_trans k.len l.len
  same := fun n hn hs => by rw [l.same n (Nat.lt_of_lt_of_le hn k.len) fun h => hs (i n hn h), k.same n hn hs]

theorem Grow.chg {S : Nat → Prop} {a b : Heap} (k : Grow a b) : Chg S a b := k.mono fun _ _ h => h.elim

theorem Grow.new (h : Heap) (c : List Value) (e : Nat) : Grow h (hnew h c e) where
  ro := rfl
  lps := rfl
  len := by simp [hnew]
  same := fun b hb _ => by simp only [hnew]; rw [List.getElem?_append_left hb]

/-- Block q holds l, and a slice of version v is its newest. -/
structure RowAt (h : Heap) (q v es : Nat) (l : List Value) : Prop where
  ex : ∃ k, h.dyn[q]? = some k ∧ k.cells = l ∧ k.sizes.length = v + 1 ∧ k.sizes[v]? = some l.length ∧ k.dead ≤ v ∧ k.es = es

theorem RowAt.lt {h : Heap} {q v es : Nat} {l : List Value} (r : RowAt h q v es l) : q < h.dyn.length := by
  obtain ⟨k, hk, _⟩ := r.ex
  exact (List.getElem?_eq_some_iff.1 hk).1

theorem RowAt.chg {S : Nat → Prop} {h h' : Heap} {q v es : Nat} {l : List Value} (r : RowAt h q v es l) (c : Chg S h h') (hs : ¬ S q) : RowAt h' q v es l := by
  obtain ⟨k, hk, r'⟩ := r.ex
  exact ⟨k, by rw [c.same q r.lt hs]; exact hk, r'⟩

theorem RowAt.grow {h h' : Heap} {q v es : Nat} {l : List Value} (r : RowAt h q v es l) (c : Grow h h') : RowAt h' q v es l := r.chg c id

theorem RowAt.load {h : Heap} {q v es : Nat} {l : List Value} (r : RowAt h q v es l) {i : Nat} (hi : i < l.length) : hload h ⟨q, i, some v⟩ = some l[i] := by
  obtain ⟨k, hk, rfl, h2, h3, h4, h5⟩ := r.ex
  simp only [hload, hk]
  rw [if_pos ⟨h4, by rw [List.getD_eq_getElem?_getD, h3]; exact hi⟩, List.getElem?_eq_getElem hi]

theorem RowAt.get {h : Heap} {q v es : Nat} {l : List Value} (r : RowAt h q v es l) {i : Nat} {x : Value} (hx : l[i]? = some x) : hload h ⟨q, i, some v⟩ = some x := by
  obtain ⟨hi, rfl⟩ := List.getElem?_eq_some_iff.1 hx
  exact r.load hi

theorem RowAt.new (h : Heap) (l : List Value) (es : Nat) : RowAt (hnew h l es) h.dyn.length 0 es l :=
  ⟨⟨l, [l.length], 0, es⟩, by simp [hnew], rfl, rfl, rfl, Nat.le_refl _, rfl⟩

theorem RowAt.store {h : Heap} {q v es : Nat} {l : List Value} (r : RowAt h q v es l) {i : Nat} (hi : i < l.length) {x : Value} (hg : goodC x = true) :
    ∃ h', hstore h ⟨q, i, some v⟩ x = some h' ∧ RowAt h' q v es (l.set i x) ∧ Chg (· = q) h h' ∧ h'.dyn.length = h.dyn.length := by
  obtain ⟨k, hk, rfl, h2, h3, h4, h5⟩ := r.ex
  refine ⟨{ h with dyn := h.dyn.set q { k with cells := k.cells.set i x, dead := v } }, ?_, ?_, ?_, by simp⟩
  · simp only [hstore, hk]
    rw [if_pos ⟨h2.symm, hi, h4, hg⟩]
  · exact ⟨{ k with cells := k.cells.set i x, dead := v }, by simp only; rw [List.getElem?_set_self r.lt], rfl, h2, by simpa using h3, Nat.le_refl _, h5⟩
  · exact ⟨rfl, rfl, by simp, fun b hb hs => by simp only; rw [List.getElem?_set_ne (fun e => hs e.symm)]⟩

@[simp] theorem hnew_len (h : Heap) (c : List Value) (e : Nat) : (hnew h c e).dyn.length = h.dyn.length + 1 := by simp [hnew]
@[simp] theorem hnext_eq (h : Heap) : hnext h = ⟨h.dyn.length, 0, some 0⟩ := rfl

theorem loadN_row {h : Heap} {q v es : Nat} {l : List Value} (r : RowAt h q v es l) : ∀ (n o : Nat), o + n ≤ l.length → loadN h ⟨q, o, some v⟩ n = some ((l.drop o).take n)
  | 0, o, _ => by simp [loadN]
  | n + 1, o, hn => by
    simp only [loadN, aadd_mk]
    rw [r.load (show o < l.length by omega), loadN_row r n (o + 1) (by omega)]
    simp only
    rw [List.drop_eq_getElem_cons (show o < l.length by omega), List.take_succ_cons]

theorem loadN_row_all {h : Heap} {q v es : Nat} {l : List Value} (r : RowAt h q v es l) {n : Nat} (hn : n = l.length) : loadN h ⟨q, 0, some v⟩ n = some l := by
  subst hn
  rw [loadN_row r _ 0 (by omega)]
  simp

/-- Memory that is only read. -/
theorem loadN_ro {h : Heap} {b : Nat} : ∀ (l : List Value) (o : Nat), (∀ i, i < l.length → h.ro b (o + i) = l[i]?) → loadN h ⟨b, o, none⟩ l.length = some l
  | [], _, _ => rfl
  | x :: l, o, hl => by
    simp only [List.length_cons, loadN, aadd_mk]
    have h0 := hl 0 (by simp)
    simp only [Nat.add_zero, List.getElem?_cons_zero] at h0
    rw [show hload h ⟨b, o, none⟩ = some x from h0, loadN_ro l (o + 1) fun i hi => by
      have := hl (i + 1) (by simp; omega)
      rw [List.getElem?_cons_succ] at this
      rw [← this]; congr 1; omega]

end Go.Ax

/- An abstract machine for Go programs: words of 64 bits, for walking. -/
namespace Go.Ax
set_option linter.unusedVariables false
set_option linter.unusedSimpArgs false

/-- A word as the machine's number. -/
def wi (x : BitVec 64) : Int := x.toNat

theorem wi_def (x : BitVec 64) : wi x = x.toNat := rfl

theorem wi_lt (x : BitVec 64) : wi x < 18446744073709551616 := by
  have := x.isLt
  unfold wi; omega
theorem wi_nonneg (x : BitVec 64) : 0 ≤ wi x := by unfold wi; omega

@[simp] theorem ofInt_wi (x : BitVec 64) : BitVec.ofInt 64 (wi x) = x := by
  unfold wi
  apply BitVec.eq_of_toNat_eq
  rw [BitVec.toNat_ofInt]
  have := x.isLt
  omega

theorem wrap_wi (a : Int) : IntKind.wrap .u64 a = wi (BitVec.ofInt 64 a) := by
  unfold wi
  rw [BitVec.toNat_ofInt]
  simp [IntKind.wrap, IntKind.bits, IntKind.signed]
  omega

theorem wrap_toNat (x : BitVec 64) : IntKind.wrap .u64 (x.toNat : Int) = wi x := by
  rw [wrap_wi, show (x.toNat : Int) = wi x from rfl, ofInt_wi]

@[simp] theorem ab64_and {a b : Int} : abin .and .u64 a b = some (.int .u64 (wi (BitVec.ofInt 64 a &&& BitVec.ofInt 64 b))) := by
  show some (Value.int .u64 (IntKind.wrap .u64 ((BitVec.ofInt 64 a &&& BitVec.ofInt 64 b).toNat : Int))) = _
  rw [wrap_toNat]
@[simp] theorem ab64_or {a b : Int} : abin .or .u64 a b = some (.int .u64 (wi (BitVec.ofInt 64 a ||| BitVec.ofInt 64 b))) := by
  show some (Value.int .u64 (IntKind.wrap .u64 ((BitVec.ofInt 64 a ||| BitVec.ofInt 64 b).toNat : Int))) = _
  rw [wrap_toNat]
@[simp] theorem ab64_xor {a b : Int} : abin .xor .u64 a b = some (.int .u64 (wi (BitVec.ofInt 64 a ^^^ BitVec.ofInt 64 b))) := by
  show some (Value.int .u64 (IntKind.wrap .u64 ((BitVec.ofInt 64 a ^^^ BitVec.ofInt 64 b).toNat : Int))) = _
  rw [wrap_toNat]
@[simp] theorem ab64_andNot {a b : Int} : abin .andNot .u64 a b = some (.int .u64 (wi (BitVec.ofInt 64 a &&& ~~~ BitVec.ofInt 64 b))) := by
  show some (Value.int .u64 (IntKind.wrap .u64 ((BitVec.ofInt 64 a &&& ~~~ BitVec.ofInt 64 b).toNat : Int))) = _
  rw [wrap_toNat]
@[simp] theorem ab64_add {a b : Int} : abin .add .u64 a b = some (.int .u64 (wi (BitVec.ofInt 64 a + BitVec.ofInt 64 b))) := by
  show some (Value.int .u64 (IntKind.wrap .u64 (a + b))) = _
  rw [wrap_wi, BitVec.ofInt_add]
@[simp] theorem ab64_sub {a b : Int} : abin .sub .u64 a b = some (.int .u64 (wi (BitVec.ofInt 64 a - BitVec.ofInt 64 b))) := by
  show some (Value.int .u64 (IntKind.wrap .u64 (a - b))) = _
  rw [wrap_wi]
  congr 3
  rw [BitVec.sub_eq_add_neg, ← BitVec.ofInt_neg, ← BitVec.ofInt_add, Int.sub_eq_add_neg]
@[simp] theorem ab64_mul {a b : Int} : abin .mul .u64 a b = some (.int .u64 (wi (BitVec.ofInt 64 a * BitVec.ofInt 64 b))) := by
  show some (Value.int .u64 (IntKind.wrap .u64 (a * b))) = _
  rw [wrap_wi, BitVec.ofInt_mul]
@[simp] theorem ab64_shl {a b : Int} (hb : 0 ≤ b) : abin .shl .u64 a b = some (.int .u64 (wi (BitVec.ofInt 64 a <<< b.toNat))) := by
  show (if b < 0 then none else some (Value.int .u64 (IntKind.wrap .u64 (a * 2 ^ min b.toNat 64)))) = _
  rw [if_neg (by omega), wrap_wi]
  congr 3
  apply BitVec.eq_of_getLsbD_eq
  intro i hi
  rw [BitVec.ofInt_mul]
  have e : BitVec.ofInt 64 ((2 : Int) ^ min b.toNat 64) = BitVec.twoPow 64 (min b.toNat 64) := by
    apply BitVec.eq_of_toNat_eq
    rw [BitVec.toNat_ofInt, BitVec.toNat_twoPow]
    have : ((2 : Int) ^ min b.toNat 64) = ((2 ^ min b.toNat 64 : Nat) : Int) := by simp
    rw [this, ← Int.natCast_emod, Int.toNat_natCast]
  rw [e, BitVec.mul_twoPow_eq_shiftLeft, BitVec.getLsbD_shiftLeft, BitVec.getLsbD_shiftLeft]
  by_cases h : b.toNat < 64
  · rw [Nat.min_eq_left (by omega)]
  · rw [Nat.min_eq_right (by omega)]
    simp [hi]
    omega
@[simp] theorem ab64_shr {x : BitVec 64} {b : Int} (hb : 0 ≤ b) : abin .shr .u64 (wi x) b = some (.int .u64 (wi (x >>> b.toNat))) := by
  show (if b < 0 then none else some (Value.int .u64 ((wi x).fdiv (2 ^ min b.toNat 64)))) = _
  rw [if_neg (by omega)]
  congr 2
  unfold wi
  have : ((2 : Int) ^ min b.toNat 64) = ((2 ^ min b.toNat 64 : Nat) : Int) := by simp
  rw [this, Int.fdiv_eq_ediv_of_nonneg _ (Int.natCast_nonneg _), ← Int.natCast_ediv, BitVec.toNat_ushiftRight, Nat.shiftRight_eq_div_pow]
  congr 1
  by_cases h : b.toNat < 64
  · rw [Nat.min_eq_left (by omega)]
  · rw [Nat.min_eq_right (by omega)]
    have h1 : x.toNat / 2 ^ 64 = 0 := Nat.div_eq_of_lt x.isLt
    have h2 : x.toNat / 2 ^ b.toNat = 0 := Nat.div_eq_of_lt (Nat.lt_of_lt_of_le x.isLt (Nat.pow_le_pow_right (by omega) (by omega)))
    rw [h1, h2]

@[simp] theorem wi_inj {x y : BitVec 64} : wi x = wi y ↔ x = y := by
  constructor
  · intro h; rw [← ofInt_wi x, h, ofInt_wi]
  · intro h; rw [h]
@[simp] theorem wi_eq_zero {x : BitVec 64} : wi x = 0 ↔ x = 0#64 := by
  rw [show (0 : Int) = wi 0#64 from rfl, wi_inj]
@[simp] theorem wi_eq_one {x : BitVec 64} : wi x = 1 ↔ x = 1#64 := by
  rw [show (1 : Int) = wi 1#64 from rfl, wi_inj]
@[simp] theorem wi_pos {x : BitVec 64} : 0 < wi x ↔ ¬ x = 0#64 := by
  rw [← wi_eq_zero]
  have := wi_nonneg x
  omega

@[simp] theorem wi_zero : wi 0#64 = 0 := rfl

@[simp] theorem un64_not {P : Program} {x : BitVec 64} : aun P .xor (.int .u64 (wi x)) = some (.int .u64 (wi (~~~ x))) := by
  show abin .xor .u64 (IntKind.max .u64) (wi x) = _
  rw [ab64_xor, ofInt_wi]
  have : BitVec.ofInt 64 (IntKind.max .u64) = BitVec.allOnes 64 := by decide
  rw [this, BitVec.allOnes_xor]
@[simp] theorem un64_neg {P : Program} {x : BitVec 64} : aun P .neg (.int .u64 (wi x)) = some (.int .u64 (wi (- x))) := by
  show some (Value.int .u64 (IntKind.wrap .u64 (0 - wi x))) = _
  rw [wrap_wi, Int.zero_sub, BitVec.ofInt_neg, ofInt_wi]

end Go.Ax

/- An abstract machine for Go programs: slices that are read, and lists of the program's own that grow. -/
namespace Go.Ax
set_option linter.unusedVariables false
set_option linter.unusedSimpArgs false

theorem hload_chg {S : Nat → Prop} {h h' : Heap} (g : Chg S h h') {a : Addr} {x : Value} (e : hload h a = some x) (hs : a.spot = none ∨ ¬ S a.block) : hload h' a = some x := by
  unfold hload at e ⊢
  cases ha : a.spot with
  | none => rw [ha] at e; simp only at e ⊢; rw [g.ro]; exact e
  | some v =>
    rw [ha] at e
    have hs' : ¬ S a.block := hs.resolve_left (by simp [ha])
    simp only at e ⊢
    cases hk : h.dyn[a.block]? with
    | none => rw [hk] at e; simp at e
    | some k =>
      rw [hk] at e
      rw [g.same _ (List.getElem?_eq_some_iff.1 hk).1 hs', hk]
      exact e

theorem hload_lt {h : Heap} {a : Addr} {x : Value} (e : hload h a = some x) : a.spot = none ∨ a.block < h.dyn.length := by
  unfold hload at e
  cases ha : a.spot with
  | none => exact .inl rfl
  | some v =>
    rw [ha] at e
    simp only at e
    cases hk : h.dyn[a.block]? with
    | none => rw [hk] at e; simp at e
    | some k => exact .inr (List.getElem?_eq_some_iff.1 hk).1

theorem loadN_of {h : Heap} : ∀ (l : List Value) (a : Addr), (∀ i x, l[i]? = some x → hload h (aadd a i) = some x) → loadN h a l.length = some l
  | [], _, _ => rfl
  | x :: l, a, hl => by
    have h0 := hl 0 x rfl
    rw [aadd_zero] at h0
    have := loadN_of l (aadd a 1) fun i y hy => by
      have := hl (i + 1) y (by simpa using hy)
      have e : aadd (aadd a 1) i = aadd a (i + 1) := by simp [aadd]; omega
      rw [e]; exact this
    simp [loadN, h0, this]

theorem RowAt.storeN {h : Heap} {q v es : Nat} {l : List Value} (r : RowAt h q v es l) : ∀ (m : List Value) (o : Nat), o + m.length ≤ l.length → m.all goodC = true →
    ∃ h', storeN h ⟨q, o, some v⟩ m = some h' ∧ RowAt h' q v es (l.take o ++ m ++ l.drop (o + m.length)) ∧ Chg (· = q) h h' ∧ h'.dyn.length = h.dyn.length := by
  intro m
  induction m generalizing h l with
  | nil => intro o _ _; exact ⟨h, rfl, by simpa using r, Chg.refl _, rfl⟩
  | cons x m ih =>
    intro o ho hg
    simp only [List.length_cons, List.all_cons, Bool.and_eq_true] at ho hg
    obtain ⟨h1, e1, r1, c1, n1⟩ := r.store (i := o) (by omega) hg.1
    obtain ⟨h2, e2, r2, c2, n2⟩ := ih r1 (o + 1) (by simp; omega) hg.2
    refine ⟨h2, by simp [Go.Ax.storeN, e1, e2], ?_, c1.trans c2, n2.trans n1⟩
    have : (l.set o x).take (o + 1) ++ m ++ (l.set o x).drop (o + 1 + m.length) = l.take o ++ x :: m ++ l.drop (o + (m.length + 1)) := by
      rw [List.set_eq_take_append_cons_drop, if_pos (by omega)]
      have h3 : (l.take o).length = o := by rw [List.length_take]; omega
      rw [List.take_append, List.drop_append, h3]
      simp [List.take_take, Nat.add_sub_cancel_left]
      rw [List.drop_eq_nil_of_le (by rw [h3]; omega)]
      simp [show o + 1 + m.length - o = m.length + 1 by omega, show o + 1 + m.length = o + (m.length + 1) by omega]
    rw [this] at r2
    simpa using r2

/-- A list of the program's own that is grown by appends; q: its block. -/
def Own (h : Heap) (v : Value) (q : Nat) (l : List Value) : Prop :=
  (v = .slice none 0 0 ∧ l = []) ∨ (∃ u, v = .slice (some ⟨q, 0, some u⟩) l.length gcap ∧ RowAt h q u 1 l) ∨
  ∃ u rest, v = .slice (some ⟨q, 0, some u⟩) l.length (l.length + rest.length) ∧ l.length + rest.length < gcap ∧ RowAt h q u 1 (l ++ rest)

theorem Own.nil (h : Heap) (q : Nat) : Own h (.slice none 0 0) q [] := .inl ⟨rfl, rfl⟩

theorem Own.chg {S : Nat → Prop} {h h' : Heap} {v : Value} {q : Nat} {l : List Value} (o : Own h v q l) (k : Chg S h h') (hs : ¬ S q) : Own h' v q l := by
  rcases o with o | ⟨u, h1, h2⟩ | ⟨u, rest, h1, h3, h2⟩
  · exact .inl o
  · exact .inr (.inl ⟨u, h1, h2.chg k hs⟩)
  · exact .inr (.inr ⟨u, rest, h1, h3, h2.chg k hs⟩)

theorem Own.grow {h h' : Heap} {v : Value} {q : Nat} {l : List Value} (o : Own h v q l) (k : Grow h h') : Own h' v q l := o.chg k id

theorem Own.lt {h : Heap} {v : Value} {q : Nat} {l : List Value} (o : Own h v q l) : (v = .slice none 0 0 ∧ l = []) ∨ q < h.dyn.length := by
  rcases o with o | ⟨u, h1, h2⟩ | ⟨u, rest, h1, h3, h2⟩
  · exact .inl o
  · exact .inr h2.lt
  · exact .inr h2.lt

theorem Own.shape {h : Heap} {v : Value} {q : Nat} {l : List Value} (o : Own h v q l) : ∃ b c, v = .slice b l.length c ∧ ∀ i, i < l.length → ∃ u rest, b = some ⟨q, 0, some u⟩ ∧ RowAt h q u 1 (l ++ rest) := by
  rcases o with ⟨rfl, rfl⟩ | ⟨u, rfl, r⟩ | ⟨u, rest, rfl, _, r⟩
  · exact ⟨none, 0, rfl, fun i hi => by simp at hi⟩
  · exact ⟨_, _, rfl, fun i hi => ⟨u, [], rfl, by simpa using r⟩⟩
  · exact ⟨_, _, rfl, fun i hi => ⟨u, rest, rfl, r⟩⟩

/-- Reading what a list holds. -/
theorem Own.get {h : Heap} {v : Value} {q : Nat} {l : List Value} (o : Own h v q l) {i : Nat} {x : Value} (hx : l[i]? = some x) : ∃ a c, v = .slice (some a) l.length c ∧ i < l.length ∧ hload h (aadd a i) = some x := by
  obtain ⟨hi, _⟩ := List.getElem?_eq_some_iff.1 hx
  obtain ⟨b, c, rfl, k⟩ := o.shape
  obtain ⟨u, rest, rfl, r⟩ := k i hi
  exact ⟨_, _, rfl, hi, by simpa using r.get (i := i) (x := x) (by rw [List.getElem?_append_left hi]; exact hx)⟩

/-- Writing one place of a list. -/
theorem Own.set {h : Heap} {v : Value} {q : Nat} {l : List Value} (o : Own h v q l) {i : Nat} (hi : i < l.length) {x : Value} (hg : goodC x = true) :
    ∃ u c h', v = .slice (some ⟨q, 0, some u⟩) l.length c ∧ hstore h ⟨q, i, some u⟩ x = some h' ∧ Own h' v q (l.set i x) ∧ Chg (· = q) h h' ∧ h'.dyn.length = h.dyn.length := by
  rcases o with ⟨rfl, rfl⟩ | ⟨u, rfl, r⟩ | ⟨u, rest, rfl, hc, r⟩
  · simp at hi
  · obtain ⟨h', e, r', c', n'⟩ := r.store hi hg
    exact ⟨u, _, h', rfl, e, .inr (.inl ⟨u, by simp, r'⟩), c', n'⟩
  · obtain ⟨h', e, r', c', n'⟩ := r.store (i := i) (by simp; omega) hg
    rw [List.set_append_left _ _ hi] at r'
    exact ⟨u, _, h', rfl, e, .inr (.inr ⟨u, rest, by simp, by simpa using hc, r'⟩), c', n'⟩

/-- Appending what can be read: at least one thing. -/
theorem Own.app {h : Heap} {v : Value} {q : Nat} {l : List Value} (o : Own h v q l) {bytes : Nat} {z : Value} {x : Value} {m : List Value} (hm : m ≠ []) (hx : slen x = some m.length) (hf : firstN h 1 m.length x = some m)
    (hg : m.all goodC = true) (hb : (l.length + m.length) * bytes ≤ 140737488355328) (hb' : l.length + m.length ≤ 140737488355328) :
    ∃ v' h' q', aappend h 1 bytes [z] v x = some (v', h') ∧ Own h' v' q' (l ++ m) ∧ Chg (fun b => b = q ∧ v ≠ .slice none 0 0) h h' ∧ q' < h'.dyn.length ∧ (q' = q ∧ v ≠ .slice none 0 0 ∨ q' = h.dyn.length) := by
  have hp : 0 < m.length := List.length_pos_iff.2 hm
  have hp2 : ¬ m.all goodC = false := by rw [hg]; simp
  rcases o with ⟨rfl, rfl⟩ | ⟨u, rfl, r⟩ | ⟨u, rest, rfl, hc, r⟩
  · simp only [aappend, hx, hf]
    rw [if_neg (by omega), if_neg (show ¬ ([z].length ≠ 1 ∨ m.length ≠ m.length * 1 ∨ m.all goodC = false) by rw [hg]; simp)]
    simp only [List.length_nil, Nat.zero_add] at hb hb'
    simp only [appNew, Nat.zero_add, List.nil_append]
    rw [if_pos (by simp), if_pos ⟨hb, hb'⟩]
    exact ⟨_, _, h.dyn.length, rfl, .inr (.inl ⟨0, rfl, RowAt.new _ _ _⟩), (Grow.new _ _ _).chg, by simp, .inr rfl⟩
  · obtain ⟨k, hk, rfl, h2, h3, h4, h5⟩ := r.ex
    simp only [aappend, hx, hf]
    rw [if_neg (by omega), if_neg (show ¬ ([z].length ≠ 1 ∨ m.length ≠ m.length * 1 ∨ m.all goodC = false) by rw [hg]; simp)]
    simp only [Nat.mul_one, hk]
    rw [if_neg (Nat.lt_irrefl _), if_pos ⟨trivial, trivial, hb, hb'⟩, if_pos ⟨h2.symm, h5, trivial, h4⟩]
    refine ⟨_, _, q, rfl, .inr (.inl ⟨u + 1, by simp, ⟨{ k with cells := k.cells ++ m, sizes := k.sizes ++ [k.cells.length + m.length] }, ?_, rfl, by simp [h2], ?_, by simp; omega, h5⟩⟩), ?_, by simpa using r.lt, .inl ⟨rfl, by simp⟩⟩
    · simp only; rw [List.getElem?_set_self r.lt]
    · simp only; rw [List.getElem?_append_right (by omega), h2]; simp
    · exact ⟨rfl, rfl, by simp, fun b hb hs => by simp only; rw [List.getElem?_set_ne (fun e => hs ⟨e.symm, by simp⟩)]⟩
  · simp only [aappend, hx, hf]
    rw [if_neg (by omega), if_neg (show ¬ ([z].length ≠ 1 ∨ m.length ≠ m.length * 1 ∨ m.all goodC = false) by rw [hg]; simp)]
    simp only [Nat.mul_one]
    rw [if_pos hc]
    by_cases hfit : l.length + m.length ≤ l.length + rest.length
    · rw [if_pos hfit]
      obtain ⟨h', e, r', c', n'⟩ := r.storeN m l.length (by simp; omega) hg
      simp only [aadd_mk, Nat.zero_add, e]
      refine ⟨_, h', q, rfl, .inr (.inr ⟨u, rest.drop m.length, ?_, ?_, ?_⟩), c'.mono fun _ _ e => ⟨e, by simp⟩, by rw [n']; exact r.lt, .inl ⟨rfl, by simp⟩⟩
      · simp only [List.length_append, List.length_drop]; congr 1; omega
      · simp only [List.length_append, List.length_drop]; omega
      · have : (l ++ rest).take l.length ++ m ++ (l ++ rest).drop (l.length + m.length) = l ++ m ++ rest.drop m.length := by
          rw [List.take_left, List.drop_append, List.drop_eq_nil_of_le (by omega), Nat.add_sub_cancel_left]; rfl
        rw [this] at r'; exact r'
    · rw [if_neg hfit]
      have := loadN_row r l.length 0 (by simp)
      simp only [this, List.drop_zero, List.take_left, appNew]
      rw [if_pos ⟨hb, hb'⟩]
      exact ⟨_, _, h.dyn.length, rfl, .inr (.inl ⟨0, by simp, RowAt.new _ _ _⟩), (Grow.new _ _ _).chg, by simp, .inr rfl⟩

/-- Appending nothing. -/
theorem Own.app0 {h : Heap} {v : Value} {q : Nat} {l : List Value} (o : Own h v q l) (hlen : l.length ≤ 140737488355328) {bytes : Nat} {z : Value} {x : Value} (hx : slen x = some 0) (hf : firstN h 1 0 x = some []) : aappend h 1 bytes [z] v x = some (v, h) := by
  have : ∃ b c, v = .slice b l.length c ∧ l.length ≤ c := by
    rcases o with ⟨rfl, rfl⟩ | ⟨u, rfl, r⟩ | ⟨u, rest, rfl, hc, r⟩
    · exact ⟨_, _, rfl, Nat.le_refl _⟩
    · exact ⟨_, _, rfl, by unfold gcap; omega⟩
    · exact ⟨_, _, rfl, by omega⟩
  obtain ⟨b, c, rfl, hl⟩ := this
  simp only [aappend, hx, hf]
  rw [if_pos trivial, if_neg (by omega)]

theorem got_of {x : Option (Value × Heap)} {v : Value} {h : Heap} {K : Value → Heap → Prop} (e : x = some (v, h)) (k : K v h) : got x K := ⟨v, h, e, k⟩

/-- Appending one thing (a literal of one, then the append). -/
theorem Own.push {h : Heap} {v : Value} {q : Nat} {l : List Value} (o : Own h v q l) {bytes : Nat} {z : Value} {x : Value} (hg : goodC x = true) (hb : (l.length + 1) * bytes ≤ 140737488355328) (hb' : l.length + 1 ≤ 140737488355328) :
    ∃ v' h' q', aappend (hnew h [x] 1) 1 bytes [z] v (.slice (some ⟨h.dyn.length, 0, some 0⟩) 1 1) = some (v', h') ∧ Own h' v' q' (l ++ [x]) ∧ Chg (fun b => b = q ∧ v ≠ .slice none 0 0) h h' ∧ q' < h'.dyn.length ∧ (q' = q ∧ v ≠ .slice none 0 0 ∨ q' = h.dyn.length + 1) := by
  have hq : q < (hnew h [x] 1).dyn.length ∨ (v = .slice none 0 0 ∧ l = []) := by
    rcases o.lt with h | h
    · exact .inr h
    · simp; omega
  obtain ⟨v', h', q', e, o', c', l', d'⟩ := (o.grow (Grow.new h [x] 1)).app (bytes := bytes) (z := z) (x := .slice (some ⟨h.dyn.length, 0, some 0⟩) 1 1) (m := [x]) (by simp) rfl
    (by simp only [firstN, List.length_singleton, Nat.one_mul]; exact loadN_row_all (RowAt.new _ _ _) rfl) (by simp [hg]) hb hb'
  exact ⟨v', h', q', e, o', (Grow.new _ _ _).chg.trans c', l', by simpa using d'⟩

theorem got_app {x : Option (Value × Heap)} {R K : Value → Heap → Prop} (e : ∃ v h, x = some (v, h) ∧ R v h) (k : ∀ v h, R v h → K v h) : got x K := by
  obtain ⟨v, h, e, r⟩ := e
  exact ⟨v, h, e, k v h r⟩

end Go.Ax


/- An abstract machine for Go programs: slices that come in, opened. -/
namespace Go.Ax
open Go.ChangeShapes Go.WideShapes Go.ChangeAt Go.RowKit
set_option linter.unusedVariables false
set_option linter.unusedSimpArgs false

section
variable {H : Type} {enc : TypeId × Value → H} {P : Program} {W : World}

/-- A slice in the model's memory that reads as l. -/
def ArgM (W : World) (b : Option Addr) (len : Nat) (l : List Value) : Prop :=
  (b = none ∧ len = 0 ∧ l = []) ∨ ∃ x, b = some x ∧ x.spot = none ∧ l.length = len ∧ ∀ i y, l[i]? = some y → W.cell? ⟨x.block, x.off + i, none⟩ = some y

theorem pick_list {α : Type} {R : Nat → α → Prop} : ∀ n, (∀ i, i < n → ∃ z, R i z) → ∃ zs : List α, zs.length = n ∧ ∀ i, i < n → ∃ z, zs[i]? = some z ∧ R i z
  | 0, _ => ⟨[], rfl, fun i hi => by omega⟩
  | m + 1, h => by
    obtain ⟨zs, h1, h2⟩ := pick_list m fun i hi => h i (by omega)
    obtain ⟨z, hz⟩ := h m (by omega)
    refine ⟨zs ++ [z], by simp [h1], fun i hi => ?_⟩
    by_cases him : i < m
    · obtain ⟨y, h3, h4⟩ := h2 i him
      exact ⟨y, by rw [List.getElem?_append_left (by omega)]; exact h3, h4⟩
    · have : i = m := by omega
      subst this
      exact ⟨z, by rw [List.getElem?_append_right (by omega), h1]; simp, hz⟩

theorem open_arg {α : Type} (val : α → Value) {t e : TypeId} {base : Nat} {v : Value} {d : DataW H} {p : List MemPlace} (ht : P.underlying t = some (.slice e)) (hc : P.cellsOf e = 1)
    (one : ∀ n cs y, DataW.trod enc P W 0 (fun _ => true) true n e cs = some y → ∃ a, cs = [val a]) (hval : Value.okWide P W .any base t v) (hd : DataW.Trod enc P W 0 (fun _ => true) true t v d p) :
    ∃ (b : Option Addr) (len cap : Nat) (zs : List α), v = .slice b len cap ∧ len ≤ cap ∧ (b = none → cap = 0) ∧ ArgM W b len (zs.map val) := by
  obtain ⟨b, len, cap, rfl⟩ := okWide_slice ht hval
  obtain ⟨fuel, hf⟩ := hd
  rcases DataW.trod_slice ht hf with ⟨h1, _⟩ | ⟨a, len', cap', elems, rest, n, _, h1, _, _, hle, _, hlen, hel, _, _⟩
  · simp [Value.cells] at h1
    obtain ⟨rfl, rfl, rfl⟩ := h1
    exact ⟨none, 0, 0, [], rfl, Nat.le_refl _, fun _ => rfl, .inl ⟨rfl, rfl, rfl⟩⟩
  · simp [Value.cells] at h1
    obtain ⟨rfl, rfl, rfl⟩ := h1
    have hs : a.spot = none := by
      simp only [Value.okWide, ht, Cell.okWide, Cell.ok] at hval
      exact hval.2.2.2.1
    have each : ∀ i, i < len → ∃ z : α, W.cell? (a.add i) = some (val z) := by
      intro i hi
      have h2 := hel i hi
      rw [hc, Nat.mul_one, List.getElem?_eq_getElem (by omega), Option.bind_eq_some_iff] at h2
      obtain ⟨cs', hcs, hy⟩ := h2
      obtain ⟨z, rfl⟩ := one _ _ _ hy
      exact ⟨z, cell_of_cells?_one hcs⟩
    have := pick_list len each
    obtain ⟨zs, hz, hcell⟩ := this
    refine ⟨some a, len, cap, zs, rfl, hle, ⟨(fun h => absurd h (by simp)), .inr ⟨a, rfl, hs, by simp [hz], fun i y hy => ?_⟩⟩⟩
    rw [List.getElem?_map, Option.map_eq_some_iff] at hy
    obtain ⟨z, hzi, rfl⟩ := hy
    obtain ⟨z', h3, h4⟩ := hcell i (by rw [← hz]; exact (List.getElem?_eq_some_iff.1 hzi).1)
    rw [hzi] at h3
    obtain rfl := Option.some.inj h3
    rw [addr_add a hs] at h4
    exact h4

/-- A slice that came in, its address named. -/
def argW (b : Option Addr) (len : Nat) : Value := match b with | none => .slice none 0 0 | some a => .slice (some (absA a)) len gcap

theorem arg_rel {b : Option Addr} {len cap : Nat} {l : List Value} (m : ArgM W b len l) (hle : len ≤ cap) (hn : b = none → cap = 0) : VRel (ghost0 AW) (argW b len) (.slice b len cap) := by
  rcases m with ⟨rfl, rfl, _⟩ | ⟨x, rfl, hs, _, _⟩
  · rw [hn rfl]; exact .sliN 0 0
  · exact absS_rel hs hle

/-- A slice that came in, reading as l. -/
def ArgS (h : Heap) (v : Value) (l : List Value) : Prop :=
  (v = .slice none 0 0 ∧ l = []) ∨ ∃ b o, v = .slice (some ⟨b, o, none⟩) l.length gcap ∧ ∀ i x, l[i]? = some x → h.ro b (o + i) = some x

theorem argS_plain {g : Nat → Nat → Option Value} {b : Option Addr} {len : Nat} {l : List Value} (m : ArgM W b len l) (hp : ∀ y ∈ l, plain y = true) : ArgS (heap0 (roBlk g (memW W))) (argW b len) l := by
  rcases m with ⟨rfl, rfl, rfl⟩ | ⟨a, rfl, hs, rfl, hc⟩
  · exact .inl ⟨rfl, rfl⟩
  · refine .inr ⟨_, 0, rfl, fun i x hx => ?_⟩
    rw [Nat.zero_add]
    exact mem_get hs (hc i x hx) (absC_plain (hp x (List.mem_of_getElem? hx)))

/-- How long a slice that came in may be. -/
theorem arg_sized {t e : TypeId} {base : Nat} {sp : Nat → Bool} {held : Bool} {b : Option Addr} {len cap : Nat} {d : DataW H} {p : List MemPlace} {ts : List TypeId} {ds : List (DataW H)} {j : Nat}
    (hsz : (DataW.weightsEach P ts ds).all (· ≤ reachBytes) = true) (ht : ts[j]? = some t) (hd : ds[j]? = some d) (hu : P.underlying t = some (.slice e)) {B : Nat} (hB : P.bytesOf e = B)
    (h : DataW.Trod enc P W base sp held t (.slice b len cap) d p) : len * B ≤ 140737488351232 := by
  obtain ⟨fuel, hf⟩ := h
  rcases DataW.trod_slice hu hf with ⟨h1, _⟩ | ⟨a, len', cap', elems, rest, n, _, h1, h2, _, hle, _, hlen, _, _, _⟩
  · simp [Value.cells] at h1
    obtain ⟨_, rfl, _⟩ := h1
    simp
  · simp [Value.cells] at h1
    obtain ⟨rfl, rfl, rfl⟩ := h1
    obtain ⟨rfl, _⟩ := Prod.mk.inj h2
    have z := sized_slice hsz ht hd hu
    rw [hB] at z
    simp only [List.length_map, hlen] at z
    have : reachBytes = 140737488351232 := rfl
    rw [this] at z
    exact Nat.le_trans (Nat.mul_le_mul_right _ (Nat.le_add_right _ _)) z

/-- Whole numbers of a kind, in their range. -/
def IntOf (k : IntKind) : Type := { n : Int // (Lit.int k n).wf = true }
def IntOf.val {k : IntKind} (a : IntOf k) : Value := .int k a.1

theorem one_int {k : IntKind} {t : TypeId} (ht : P.underlying t = some (.int k)) : ∀ n cs y, DataW.trod enc P W 0 (fun _ => true) true n t cs = some y → ∃ a : IntOf k, cs = [a.val] := by
  intro n cs y h
  obtain ⟨b, h1, _, h3⟩ := DataW.trod_int ht h
  exact ⟨⟨b, h3⟩, h1⟩

theorem one_bool {t : TypeId} (ht : P.underlying t = some .bool) : ∀ n cs y, DataW.trod enc P W 0 (fun _ => true) true n t cs = some y → ∃ a : Bool, cs = [.bool a] := by
  intro n cs y h
  obtain ⟨b, h1, _⟩ := DataW.trod_bool ht h
  exact ⟨b, h1⟩

end
end Go.Ax
