/- An abstract machine for Go programs: what blocks hold, and what changes. -/
import Derived.Test.YtpemffaclmpnnaaDoorXI
namespace Go.Ax
set_option linter.unusedVariables false
set_option linter.unusedSimpArgs false

@[simp] theorem aadd_zero (a : Addr) : aadd a 0 = a := rfl
@[simp] theorem aadd_mk (b o n : Nat) (s : Option Nat) : aadd ⟨b, o, s⟩ n = ⟨b, o + n, s⟩ := rfl

/-- From h to h' at most the blocks of S have changed; new ones may have come. -/
structure Chg (S : Nat → Prop) (h h' : Heap) : Prop where
  ro : h'.ro = h.ro
  lps : h'.lps = h.lps
  len : h.dyn.length ≤ h'.dyn.length
  same : ∀ b, b < h.dyn.length → ¬ S b → h'.dyn[b]? = h.dyn[b]?

abbrev Grow (h h' : Heap) : Prop := Chg (fun _ => False) h h'

theorem Chg.refl {S : Nat → Prop} (h : Heap) : Chg S h h := ⟨rfl, rfl, Nat.le_refl _, fun _ _ _ => rfl⟩

theorem Chg.trans {S : Nat → Prop} {a b c : Heap} (k : Chg S a b) (l : Chg S b c) : Chg S a c where
  ro := l.ro.trans k.ro
  lps := l.lps.trans k.lps
  len := Nat.le_trans k.len l.len
  same := fun i hi hs => by rw [l.same i (Nat.lt_of_lt_of_le hi k.len) hs, k.same i hi hs]

theorem Chg.mono {S S' : Nat → Prop} {a b : Heap} (k : Chg S a b) (i : ∀ n, n < a.dyn.length → S n → S' n) : Chg S' a b :=
  ⟨k.ro, k.lps, k.len, fun n hn hs => k.same n hn fun h => hs (i n hn h)⟩

theorem Chg.after {S S' : Nat → Prop} {a b c : Heap} (k : Chg S a b) (l : Chg S' b c) (i : ∀ n, n < a.dyn.length → S' n → S n) : Chg S a c where
  ro := l.ro.trans k.ro
  lps := l.lps.trans k.lps
  len := Nat.le_trans k.len l.len
  same := fun n hn hs => by rw [l.same n (Nat.lt_of_lt_of_le hn k.len) fun h => hs (i n hn h), k.same n hn hs]

theorem Grow.chg {S : Nat → Prop} {a b : Heap} (k : Grow a b) : Chg S a b := k.mono fun _ _ h => h.elim

theorem Grow.new (h : Heap) (c : List Value) (e : Nat) : Grow h (hnew h c e) where
  ro := rfl
  lps := rfl
  len := by simp [hnew]
  same := fun b hb _ => by simp only [hnew]; rw [List.getElem?_append_left hb]

/-- Block q holds l, and a slice of version v is its newest. -/
structure RowAt (h : Heap) (q v es : Nat) (l : List Value) : Prop where
  ex : ∃ k, h.dyn[q]? = some k ∧ k.cells = l ∧ k.sizes.length = v + 1 ∧ k.sizes[v]? = some l.length ∧ k.dead ≤ v ∧ k.es = es

theorem RowAt.lt {h : Heap} {q v es : Nat} {l : List Value} (r : RowAt h q v es l) : q < h.dyn.length := by
  obtain ⟨k, hk, _⟩ := r.ex
  exact (List.getElem?_eq_some_iff.1 hk).1

theorem RowAt.chg {S : Nat → Prop} {h h' : Heap} {q v es : Nat} {l : List Value} (r : RowAt h q v es l) (c : Chg S h h') (hs : ¬ S q) : RowAt h' q v es l := by
  obtain ⟨k, hk, r'⟩ := r.ex
  exact ⟨k, by rw [c.same q r.lt hs]; exact hk, r'⟩

theorem RowAt.grow {h h' : Heap} {q v es : Nat} {l : List Value} (r : RowAt h q v es l) (c : Grow h h') : RowAt h' q v es l := r.chg c id

theorem RowAt.load {h : Heap} {q v es : Nat} {l : List Value} (r : RowAt h q v es l) {i : Nat} (hi : i < l.length) : hload h ⟨q, i, some v⟩ = some l[i] := by
  obtain ⟨k, hk, rfl, h2, h3, h4, h5⟩ := r.ex
  simp only [hload, hk]
  rw [if_pos ⟨h4, by rw [List.getD_eq_getElem?_getD, h3]; exact hi⟩, List.getElem?_eq_getElem hi]

theorem RowAt.get {h : Heap} {q v es : Nat} {l : List Value} (r : RowAt h q v es l) {i : Nat} {x : Value} (hx : l[i]? = some x) : hload h ⟨q, i, some v⟩ = some x := by
  obtain ⟨hi, rfl⟩ := List.getElem?_eq_some_iff.1 hx
  exact r.load hi

theorem RowAt.new (h : Heap) (l : List Value) (es : Nat) : RowAt (hnew h l es) h.dyn.length 0 es l :=
  ⟨⟨l, [l.length], 0, es⟩, by simp [hnew], rfl, rfl, rfl, Nat.le_refl _, rfl⟩

theorem RowAt.store {h : Heap} {q v es : Nat} {l : List Value} (r : RowAt h q v es l) {i : Nat} (hi : i < l.length) {x : Value} (hg : goodC x = true) :
    ∃ h', hstore h ⟨q, i, some v⟩ x = some h' ∧ RowAt h' q v es (l.set i x) ∧ Chg (· = q) h h' ∧ h'.dyn.length = h.dyn.length := by
  obtain ⟨k, hk, rfl, h2, h3, h4, h5⟩ := r.ex
  refine ⟨{ h with dyn := h.dyn.set q { k with cells := k.cells.set i x, dead := v } }, ?_, ?_, ?_, by simp⟩
  · simp only [hstore, hk]
    rw [if_pos ⟨h2.symm, hi, h4, hg⟩]
  · exact ⟨{ k with cells := k.cells.set i x, dead := v }, by simp only; rw [List.getElem?_set_self r.lt], rfl, h2, by simpa using h3, Nat.le_refl _, h5⟩
  · exact ⟨rfl, rfl, by simp, fun b hb hs => by simp only; rw [List.getElem?_set_ne (fun e => hs e.symm)]⟩

@[simp] theorem hnew_len (h : Heap) (c : List Value) (e : Nat) : (hnew h c e).dyn.length = h.dyn.length + 1 := by simp [hnew]
@[simp] theorem hnext_eq (h : Heap) : hnext h = ⟨h.dyn.length, 0, some 0⟩ := rfl

theorem loadN_row {h : Heap} {q v es : Nat} {l : List Value} (r : RowAt h q v es l) : ∀ (n o : Nat), o + n ≤ l.length → loadN h ⟨q, o, some v⟩ n = some ((l.drop o).take n)
  | 0, o, _ => by simp [loadN]
  | n + 1, o, hn => by
    simp only [loadN, aadd_mk]
    rw [r.load (show o < l.length by omega), loadN_row r n (o + 1) (by omega)]
    simp only
    rw [List.drop_eq_getElem_cons (show o < l.length by omega), List.take_succ_cons]

theorem loadN_row_all {h : Heap} {q v es : Nat} {l : List Value} (r : RowAt h q v es l) {n : Nat} (hn : n = l.length) : loadN h ⟨q, 0, some v⟩ n = some l := by
  subst hn
  rw [loadN_row r _ 0 (by omega)]
  simp

/-- Memory that is only read. -/
theorem loadN_ro {h : Heap} {b : Nat} : ∀ (l : List Value) (o : Nat), (∀ i, i < l.length → h.ro b (o + i) = l[i]?) → loadN h ⟨b, o, none⟩ l.length = some l
  | [], _, _ => rfl
  | x :: l, o, hl => by
    simp only [List.length_cons, loadN, aadd_mk]
    have h0 := hl 0 (by simp)
    simp only [Nat.add_zero, List.getElem?_cons_zero] at h0
    rw [show hload h ⟨b, o, none⟩ = some x from h0, loadN_ro l (o + 1) fun i hi => by
      have := hl (i + 1) (by simp; omega)
      rw [List.getElem?_cons_succ] at this
      rw [← this]; congr 1; omega]

end Go.Ax
