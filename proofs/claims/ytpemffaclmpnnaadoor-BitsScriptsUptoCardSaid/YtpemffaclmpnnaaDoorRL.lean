/- Seat bits: the six places of a script. -/
import Derived.Test.YtpemffaclmpnnaaDoorRJ
namespace Go.Ax
open Go.Proofs
set_option linter.unusedVariables false
set_option linter.unusedSimpArgs false
set_option maxRecDepth 100000

theorem PSet.chgL {S : Nat → Prop} {h h' : Heap} {v : Value} {p q : Nat} {o : Option (List Bool)} (s : PSet h v p q o) (g : ChgL S h h') (hp : o ≠ none → ¬ S p) (hq : o ≠ none → ¬ S q) : PSet h' v p q o := by
  cases o with
  | none => exact s
  | some bs => obtain ⟨h1, ws, h2, h3⟩ := s; exact ⟨h1, ws, h2.chgL g (hp (by simp)) (hq (by simp)), h3⟩

theorem Own.chgLN {S : Nat → Prop} {h h' : Heap} {v : Value} {q : Nat} {l : List Value} (o : Own h v q l) (g : ChgL S h h') (hs : v ≠ nilS → ¬ S q) : Own h' v q l := by
  by_cases hv : v = nilS
  · rcases o with o | ⟨u, h1, h2⟩ | ⟨u, rest, h1, h3, h2⟩
    · exact .inl o
    · rw [hv] at h1; simp [nilS] at h1
    · rw [hv] at h1; simp [nilS] at h1
  · exact o.chgL g (hs hv)

theorem Pl.ok.chgL {S : Nat → Prop} {h h' : Heap} {d : Pl} (k : d.ok h) (g : ChgL S h h') (hp : d.o ≠ none → ¬ S d.p ∧ ¬ S d.q) (hh : d.hv ≠ nilS → ¬ S d.hq) : d.ok h' :=
  ⟨k.1.chgL g (fun e => (hp e).1) (fun e => (hp e).2), k.2.1.chgLN g hh, k.2.2⟩

def wcells (D : Nat → Pl) : List Value :=
  [(D 0).v, (D 1).v, (D 2).v, (D 3).v, (D 4).v, (D 5).v, .bool (D 0).o.isSome, (D 0).hv, .bool (D 1).o.isSome, (D 1).hv, .bool (D 2).o.isSome, (D 2).hv, .bool (D 3).o.isSome, (D 3).hv, .bool (D 4).o.isSome, (D 4).hv, .bool (D 5).o.isSome, (D 5).hv]

theorem wcells_get (D : Nat → Pl) {i : Nat} (h : i < 6) : (wcells D)[i]? = some (D i).v ∧ (wcells D)[6 + i * 2]? = some (.bool (D i).o.isSome) ∧ (wcells D)[6 + i * 2 + 1]? = some (D i).hv := by
  have : i = 0 ∨ i = 1 ∨ i = 2 ∨ i = 3 ∨ i = 4 ∨ i = 5 := by omega
  rcases this with rfl | rfl | rfl | rfl | rfl | rfl <;> exact ⟨rfl, rfl, rfl⟩

theorem wcells_set (D : Nat → Pl) {i : Nat} (h : i < 6) (d : Pl) : (((wcells D).set i d.v).set (6 + i * 2) (.bool d.o.isSome)).set (6 + i * 2 + 1) d.hv = wcells (fun j => if j = i then d else D j) := by
  have : i = 0 ∨ i = 1 ∨ i = 2 ∨ i = 3 ∨ i = 4 ∨ i = 5 := by omega
  rcases this with rfl | rfl | rfl | rfl | rfl | rfl <;> rfl

/-- The world of a script: block x holds the places; what each of them holds. -/
structure WI (h : Heap) (x : Nat) (D : Nat → Pl) : Prop where
  row : RowAt h x 0 0 (wcells D)
  ok : ∀ i, i < 6 → (D i).ok h
  lt : ∀ i, i < 6 → (D i).o ≠ none → (D i).p < h.dyn.length ∧ (D i).q < h.dyn.length ∧ (D i).p ≠ x ∧ (D i).q ≠ x
  hlt : ∀ i, i < 6 → (D i).hv ≠ nilS → (D i).hq < h.dyn.length ∧ (D i).hq ≠ x
  ap : ∀ i j, i < 6 → j < 6 → i ≠ j → (D i).o ≠ none → (D j).o ≠ none → (D i).q ≠ (D j).q ∧ (D i).q ≠ (D j).p
  hap : ∀ i j, i < 6 → j < 6 → (D i).o ≠ none → (D j).hv ≠ nilS → (D i).q ≠ (D j).hq

theorem WI.grow {h h' : Heap} {x : Nat} {D : Nat → Pl} (w : WI h x D) (g : GrowL h h') : WI h' x D := by
  have hl : h.dyn.length ≤ h'.dyn.length := g.len
  refine ⟨w.row.chgL g id, fun i hi => (w.ok i hi).chgL g (fun _ => ⟨id, id⟩) (fun _ => id), fun i hi e => ?_, fun i hi e => ?_, w.ap, w.hap⟩
  · have := w.lt i hi e; exact ⟨by omega, by omega, this.2.2⟩
  · have := w.hlt i hi e; exact ⟨by omega, this.2⟩

/-- What is new: made between h and h'. -/
structure Fresh (h h' : Heap) (d : Pl) : Prop where
  ok : d.ok h'
  pq : d.o ≠ none → h.dyn.length ≤ d.p ∧ h.dyn.length ≤ d.q ∧ d.p < h'.dyn.length ∧ d.q < h'.dyn.length
  hh : d.hv ≠ nilS → h.dyn.length ≤ d.hq ∧ d.hq < h'.dyn.length
  ne : d.o ≠ none → d.hv ≠ nilS → d.q ≠ d.hq

theorem Pl.ok.good {h : Heap} {d : Pl} (k : d.ok h) : goodC d.v = true ∧ goodC d.hv = true := ⟨k.1.good, k.2.1.good⟩

/-- A place is taken by what is new. -/
theorem WI.put {h h1 h' : Heap} {x : Nat} {D : Nat → Pl} (w : WI h x D) (g : GrowL h h1) {d : Pl} (f : Fresh h h1 d) {t : Nat} (ht : t < 6)
    (r : RowAt h' x 0 0 (wcells fun j => if j = t then d else D j)) (c : Chg (· = x) h1 h') (hl : h'.dyn.length = h1.dyn.length) : WI h' x (fun j => if j = t then d else D j) := by
  have w1 := w.grow g
  have hl1 : h.dyn.length ≤ h1.dyn.length := g.len
  have hx := w.row.lt
  refine ⟨r, fun i hi => ?_, fun i hi => ?_, fun i hi => ?_, fun i j hi hj hij => ?_, fun i j hi hj => ?_⟩
  · by_cases e : i = t
    · simp only [e, if_true]
      exact f.ok.chgL c.l (fun e => by have := f.pq e; exact ⟨by omega, by omega⟩) (fun e => by have := f.hh e; omega)
    · simp only [if_neg e]
      exact (w1.ok i hi).chgL c.l (fun e => by have := w1.lt i hi e; exact ⟨this.2.2.1, this.2.2.2⟩) (fun e => (w1.hlt i hi e).2)
  · by_cases e : i = t
    · simp only [e, if_true]
      intro e; have := f.pq e; exact ⟨by omega, by omega, by omega, by omega⟩
    · simp only [if_neg e]
      intro e; have := w1.lt i hi e; exact ⟨by omega, by omega, this.2.2⟩
  · by_cases e : i = t
    · simp only [e, if_true]
      intro e; have := f.hh e; exact ⟨by omega, by omega⟩
    · simp only [if_neg e]
      intro e; have := w1.hlt i hi e; exact ⟨by omega, this.2⟩
  · by_cases e : i = t
    · have e2 : ¬ j = t := fun h => hij (e.trans h.symm)
      simp only [e, if_true, if_neg e2]
      intro e3 e4
      have a := f.pq e3
      have b := w.lt j hj e4
      exact ⟨by omega, by omega⟩
    · by_cases e2 : j = t
      · simp only [e2, if_true, if_neg e]
        intro e3 e4
        have a := f.pq e4
        have b := w.lt i hi e3
        exact ⟨by omega, by omega⟩
      · simp only [if_neg e, if_neg e2]
        exact w.ap i j hi hj hij
  · by_cases e : i = t
    · by_cases e2 : j = t
      · simp only [e, e2, if_true]
        exact f.ne
      · simp only [e, if_true, if_neg e2]
        intro e3 e4
        have a := f.pq e3
        have b := w.hlt j hj e4
        omega
    · by_cases e2 : j = t
      · simp only [e2, if_true, if_neg e]
        intro e3 e4
        have a := f.hh e4
        have b := w.lt i hi e3
        omega
      · simp only [if_neg e, if_neg e2]
        exact w.hap i j hi hj

/-- A program's set in a normal form: its blocks stand. -/
theorem PSet.norm {h h1 : Heap} {v : Value} {p q : Nat} {o : Option (List Bool)} (s : PSet h1 v p q o) (hp : o ≠ none → h.dyn.length ≤ p ∧ h.dyn.length ≤ q) :
    ∃ q', PSet h1 v p q' o ∧ (o ≠ none → h.dyn.length ≤ p ∧ h.dyn.length ≤ q' ∧ p < h1.dyn.length ∧ q' < h1.dyn.length) := by
  cases o with
  | none => exact ⟨q, s, fun e => absurd rfl e⟩
  | some bs =>
    obtain ⟨hv, ws, st, cn, hb⟩ := s
    obtain ⟨q', s', hl, hq'⟩ := st.norm'
    have pl := st.pl
    have := hp (by simp)
    exact ⟨q', ⟨hv, ws, s', cn, hb⟩, fun _ => ⟨this.1, by omega, pl, hl⟩⟩

/-- First the program's, then the document's. -/
theorem fresh_ph {h h1 h2 : Heap} {v hv : Value} {p q hq : Nat} {o : Option (List Bool)} (s : PSet h1 v p q o) (g1 : Grow h h1) (g2 : Grow h1 h2) (hp : o ≠ none → h.dyn.length ≤ p ∧ h.dyn.length ≤ q) (ow : Own h2 hv hq ((o.getD []).map .bool)) (hh : hv ≠ nilS → h1.dyn.length ≤ hq ∧ hq < h2.dyn.length)
    (hle : (o.getD []).length ≤ 16777216) : ∃ q', Fresh h h2 ⟨v, p, q', o, hv, hq⟩ := by
  obtain ⟨q', s', k⟩ := s.norm hp
  have l1 := g1.len
  have l2 := g2.len
  exact ⟨q', ⟨s'.grow g2, ow, hle⟩, fun e => by have := k e; simp only; exact ⟨by omega, by omega, by omega, by omega⟩, fun e => by have := hh e; simp only; exact ⟨by omega, by omega⟩, fun e e2 => by have := k e; have := hh e2; simp only; omega⟩

/-- First the document's, then the program's. -/
theorem fresh_hp {h h1 h2 : Heap} {v hv : Value} {p q hq : Nat} {o : Option (List Bool)} (s : PSet h2 v p q o) (g1 : Grow h h1) (g2 : Grow h1 h2) (hp : o ≠ none → h1.dyn.length ≤ p ∧ h1.dyn.length ≤ q) (ow : Own h1 hv hq ((o.getD []).map .bool)) (hh : hv ≠ nilS → h.dyn.length ≤ hq ∧ hq < h1.dyn.length)
    (hle : (o.getD []).length ≤ 16777216) : ∃ q', Fresh h h2 ⟨v, p, q', o, hv, hq⟩ := by
  obtain ⟨q', s', k⟩ := s.norm hp
  have l1 := g1.len
  have l2 := g2.len
  exact ⟨q', ⟨s', ow.grow g2, hle⟩, fun e => by have := k e; simp only; exact ⟨by omega, by omega, by omega, by omega⟩, fun e => by have := hh e; simp only; exact ⟨by omega, by omega⟩, fun e e2 => by have := k e; have := hh e2; simp only; omega⟩

theorem Fresh.later {h0 h h1 h2 : Heap} {d : Pl} (f : Fresh h h1 d) (g0 : h0.dyn.length ≤ h.dyn.length) {S : Nat → Prop} (c : Chg S h1 h2) (hS : ∀ b, S b → b < h.dyn.length) : Fresh h0 h2 d := by
  have l := c.len
  refine ⟨f.ok.chgL c.l (fun e => ?_) (fun e => ?_), fun e => ?_, fun e => ?_, f.ne⟩
  · have := f.pq e
    exact ⟨fun s => by have := hS _ s; omega, fun s => by have := hS _ s; omega⟩
  · have := f.hh e
    exact fun s => by have := hS _ s; omega
  · have := f.pq e
    exact ⟨by omega, by omega, by omega, by omega⟩
  · have := f.hh e
    exact ⟨by omega, by omega⟩

end Go.Ax

namespace Go.Ax
open Go.Proofs
set_option linter.unusedVariables false
set_option linter.unusedSimpArgs false
set_option maxRecDepth 100000

theorem hold_ext {x y : List Bool} (hl : x.length = y.length) (h : ∀ j, j < x.length → hold x j = hold y j) : x = y := by
  apply List.ext_getElem?
  intro j
  by_cases hj : j < x.length
  · have := h j hj
    unfold hold at this
    rw [List.getD_eq_getElem?_getD, List.getD_eq_getElem?_getD, List.getElem?_eq_getElem hj, List.getElem?_eq_getElem (by omega)] at this
    rw [List.getElem?_eq_getElem hj, List.getElem?_eq_getElem (by omega)]
    simpa using this
  · rw [List.getElem?_eq_none (by omega), List.getElem?_eq_none (by omega)]

theorem hold_rep (n j : Nat) : hold (List.replicate n false) j = false := by
  unfold hold; rw [List.getD_eq_getElem?_getD, List.getElem?_replicate]; split <;> rfl

/-! the program's calls at a set or none -/

def newO (n : Int) : Option (List Bool) := if n < 0 ∨ 16777216 < n then none else some (List.replicate n.toNat false)

theorem pNew {h : Heap} {n : Int} : Gives P T (.fn F_bits_New) [.int .i64 n] h fun u h' => ∃ p q, PSet h' u p q (newO n) ∧ Grow h h' ∧ (newO n ≠ none → h.dyn.length ≤ p ∧ h.dyn.length ≤ q) := by
  unfold newO
  by_cases hb : n < 0 ∨ 16777216 < n
  · rw [if_pos hb]
    refine (new_bad hb).mono ?_
    rintro _ _ ⟨rfl, rfl⟩
    exact ⟨0, 0, rfl, Chg.refl _, fun e => absurd rfl e⟩
  · rw [if_neg hb]
    obtain ⟨m, rfl⟩ : ∃ m : Nat, n = m := ⟨n.toNat, by omega⟩
    refine (new_spec (n := m) (by omega)).mono ?_
    rintro _ h' ⟨p, q, rfl, st, g, f1, f2⟩
    have cz := canon_zero (n := m) (by omega)
    exact ⟨p, q, ⟨rfl, _, by simpa using st, by simpa using cz.1, fun i => by rw [hold_rep]; exact cz.2 i⟩, g, fun _ => ⟨f1, f2⟩⟩

theorem qNew {h : Heap} {n : Int} : Gives P T (.fn F_colonnaderef01_New) [.int .i64 n] h fun u h' => ∃ hv q, u = rv (newO n).isSome hv ∧ Own h' hv q (((newO n).getD []).map .bool) ∧ Grow h h' ∧ (hv ≠ nilS → h.dyn.length ≤ q ∧ q < h'.dyn.length) := by
  unfold newO
  by_cases hb : n < 0 ∨ 16777216 < n
  · rw [if_pos hb]
    refine (rNew_bad hb).mono ?_
    rintro _ h' ⟨rfl, g⟩
    exact ⟨nilS, 0, rfl, .inl ⟨rfl, rfl⟩, g, fun e => absurd rfl e⟩
  · rw [if_neg hb]
    obtain ⟨m, rfl⟩ : ∃ m : Nat, n = m := ⟨n.toNat, by omega⟩
    refine (rNew_ok (n := m) (by omega)).mono ?_
    rintro _ h' ⟨hv, q, rfl, o, g, h1, h2⟩
    exact ⟨hv, q, rfl, by simpa using o, g, fun _ => ⟨h1, h2⟩⟩

theorem newO_le {n : Int} : ((newO n).getD []).length ≤ 16777216 := by
  unfold newO
  split
  · simp
  · simp; omega

theorem PSet.some_le {h : Heap} {v : Value} {p q : Nat} {bs : List Bool} (s : PSet h v p q (some bs)) : bs.length ≤ 16777216 := by
  obtain ⟨_, ws, _, cn, _⟩ := s; exact cn.le

theorem PSet.le {h : Heap} {v : Value} {p q : Nat} {o : Option (List Bool)} (s : PSet h v p q o) : (o.getD []).length ≤ 16777216 := by
  cases o with
  | none => simp
  | some bs => exact s.some_le

theorem pClone {h : Heap} {v : Value} {p q : Nat} {o : Option (List Bool)} (s : PSet h v p q o) : Gives P T (.fn F_bits_Set_Clone) [v] h fun u h' => ∃ p' q', PSet h' u p' q' o ∧ Grow h h' ∧ (o ≠ none → h.dyn.length ≤ p' ∧ h.dyn.length ≤ q') := by
  cases o with
  | none =>
    obtain rfl : v = nilP := s
    refine clone_nil.mono ?_
    rintro _ _ ⟨rfl, rfl⟩
    exact ⟨0, 0, rfl, Chg.refl _, fun e => absurd rfl e⟩
  | some bs =>
    obtain ⟨rfl, ws, st, cn, hb⟩ := s
    refine (Clone_spec st (by have := cn.len; have := cn.le; omega)).mono ?_
    rintro _ h' ⟨p', q', rfl, st', g, f1, f2⟩
    exact ⟨p', q', ⟨rfl, ws, st', cn, hb⟩, g, fun _ => ⟨f1, f2⟩⟩

theorem qClone {h : Heap} {hv : Value} {o : Option (List Bool)} (r : Reads h hv ((o.getD []).map .bool)) (hn : (o.getD []).length ≤ 16777216) :
    Gives P T (.fn F_colonnaderef01_Clone) [rv o.isSome hv] h fun u h' => ∃ hw q, u = rv o.isSome hw ∧ Own h' hw q ((o.getD []).map .bool) ∧ Grow h h' ∧ (hw ≠ nilS → h.dyn.length ≤ q ∧ q < h'.dyn.length) := by
  refine (rClone r hn).mono ?_
  rintro _ h' ⟨hw, q, rfl, ow, g, h1, h2⟩
  exact ⟨hw, q, rfl, ow, g, fun e => ⟨h1, h2 e⟩⟩

def notO (o : Option (List Bool)) : Option (List Bool) := o.map fun bs => bs.map (!·)

theorem hold_not (bs : List Bool) (j : Nat) : hold (bs.map (!·)) j = (!hold bs j && decide (j < bs.length)) := by
  unfold hold
  rw [List.getD_eq_getElem?_getD, List.getD_eq_getElem?_getD, List.getElem?_map]
  by_cases hj : j < bs.length
  · rw [List.getElem?_eq_getElem hj]; simp [hj]
  · rw [List.getElem?_eq_none (by omega)]; simp [hj]

theorem pNot {h : Heap} {v : Value} {p q : Nat} {o : Option (List Bool)} (s : PSet h v p q o) : Gives P T (.fn F_bits_Set_Not) [v] h fun u h' => ∃ p' q', PSet h' u p' q' (notO o) ∧ Grow h h' ∧ (notO o ≠ none → h.dyn.length ≤ p' ∧ h.dyn.length ≤ q') := by
  cases o with
  | none =>
    obtain rfl : v = nilP := s
    refine not_nil.mono ?_
    rintro _ _ ⟨rfl, rfl⟩
    exact ⟨0, 0, rfl, Chg.refl _, fun e => absurd rfl e⟩
  | some bs =>
    obtain ⟨rfl, ws, st, cn, hb⟩ := s
    refine (Not_spec st cn).mono ?_
    rintro _ h' ⟨p', q', ws2, rfl, st', cn', hb', g, f1, f2⟩
    exact ⟨p', q', ⟨rfl, ws2, by simpa using st', by simpa using cn', fun i => by rw [hb', hb, hold_not]⟩, g, fun _ => ⟨f1, f2⟩⟩

theorem qNot {h : Heap} {hv : Value} {o : Option (List Bool)} (r : Reads h hv ((o.getD []).map .bool)) (hn : (o.getD []).length ≤ 16777216) :
    Gives P T (.fn F_colonnaderef01_Not) [rv o.isSome hv] h fun u h' => ∃ hw q, u = rv (notO o).isSome hw ∧ Own h' hw q (((notO o).getD []).map .bool) ∧ Grow h h' ∧ (hw ≠ nilS → h.dyn.length ≤ q ∧ q < h'.dyn.length) := by
  refine (rNot r hn).mono ?_
  rintro _ h' ⟨hw, q, bs', rfl, hl, hb, ow, g, h1, h2⟩
  have e : bs' = ((notO o).getD []) := by
    cases o with
    | none => simp [notO] at hl ⊢; exact hl
    | some bs =>
      simp only [Option.getD_some] at hl hb
      show bs' = bs.map (!·)
      exact hold_ext (by simpa using hl) fun j hj => by rw [hb j (by omega), hold_not, decide_eq_true (by omega), Bool.and_true]
  exact ⟨hw, q, by cases o <;> rfl, by rw [← e]; exact ow, g, fun e => ⟨h1, h2 e⟩⟩

theorem notO_le {o : Option (List Bool)} (h : (o.getD []).length ≤ 16777216) : ((notO o).getD []).length ≤ 16777216 := by
  cases o with
  | none => simp [notO]
  | some bs => simpa [notO] using h

def cutF (f n : Int) : Nat := (min (max f 0) n).toNat
def sliceO (f t : Int) (o : Option (List Bool)) : Option (List Bool) := o.map fun bs => (bs.drop (cutF f bs.length)).take ((max (min (max t 0) (bs.length : Int)) (cutF f bs.length)).toNat - cutF f bs.length)

theorem hold_cut (bs : List Bool) (f m j : Nat) : hold ((bs.drop f).take m) j = (hold bs (f + j) && decide (j < m)) := by
  unfold hold
  rw [List.getD_eq_getElem?_getD, List.getD_eq_getElem?_getD, List.getElem?_take]
  split
  · rename_i hj; rw [List.getElem?_drop]; simp [hj]
  · rename_i hj; simp [hj]

theorem pSlice {h : Heap} {v : Value} {p q : Nat} {f t : Int} {o : Option (List Bool)} (s : PSet h v p q o) : Gives P T (.fn F_bits_Set_Slice) [v, .int .i64 f, .int .i64 t] h fun u h' => ∃ p' q', PSet h' u p' q' (sliceO f t o) ∧ Grow h h' ∧ (sliceO f t o ≠ none → h.dyn.length ≤ p' ∧ h.dyn.length ≤ q') := by
  cases o with
  | none =>
    obtain rfl : v = nilP := s
    refine slice_nil.mono ?_
    rintro _ _ ⟨rfl, rfl⟩
    exact ⟨0, 0, rfl, Chg.refl _, fun e => absurd rfl e⟩
  | some bs =>
    obtain ⟨rfl, ws, st, cn, hb⟩ := s
    have hf : min (max f 0) (bs.length : Int) = cutF f bs.length := by unfold cutF; omega
    have ht : max (min t (bs.length : Int)) (cutF f bs.length) = ((max (min (max t 0) (bs.length : Int)) (cutF f bs.length)).toNat : Nat) := by omega
    refine (slice_spec st cn f t hf ht).mono ?_
    rintro _ h' ⟨p', q', ws2, rfl, st', cn', hb', g, f1, f2⟩
    have hl : ((bs.drop (cutF f bs.length)).take ((max (min (max t 0) (bs.length : Int)) (cutF f bs.length)).toNat - cutF f bs.length)).length = (max (min (max t 0) (bs.length : Int)) (cutF f bs.length)).toNat - cutF f bs.length := by
      rw [List.length_take, List.length_drop]; unfold cutF; omega
    exact ⟨p', q', ⟨rfl, ws2, by rw [hl]; exact st', by rw [hl]; exact cn', fun i => by rw [hb', hb, hold_cut]⟩, g, fun _ => ⟨f1, f2⟩⟩

theorem qSlice {h : Heap} {hv : Value} {q0 : Nat} {f t : Int} {o : Option (List Bool)} (r : Own h hv q0 ((o.getD []).map .bool)) (hn : (o.getD []).length ≤ 16777216) :
    Gives P T (.fn F_colonnaderef01_Slice) [rv o.isSome hv, .int .i64 f, .int .i64 t] h fun u h' => ∃ hw q, u = rv (sliceO f t o).isSome hw ∧ Own h' hw q (((sliceO f t o).getD []).map .bool) ∧ Grow h h' ∧ (hw ≠ nilS → h.dyn.length ≤ q ∧ q < h'.dyn.length) := by
  have hf : min (max f 0) ((o.getD []).length : Int) = cutF f (o.getD []).length := by unfold cutF; omega
  have ht : max (min (max t 0) ((o.getD []).length : Int)) (cutF f (o.getD []).length) = ((max (min (max t 0) ((o.getD []).length : Int)) (cutF f (o.getD []).length)).toNat : Nat) := by omega
  refine (rSlice (b := o.isSome) r hn f t hf ht).mono ?_
  rintro _ h' ⟨hw, q, rfl, ow, g, h1, h2⟩
  refine ⟨hw, q, by cases o <;> rfl, ?_, g, fun e => ⟨h1, h2 e⟩⟩
  cases o with
  | none => simpa [sliceO] using ow
  | some bs => exact ow

theorem sliceO_le {f t : Int} {o : Option (List Bool)} (h : (o.getD []).length ≤ 16777216) : ((sliceO f t o).getD []).length ≤ 16777216 := by
  cases o with
  | none => simp [sliceO]
  | some bs => simp only [sliceO, Option.map_some, Option.getD_some, List.length_take, List.length_drop] at h ⊢; omega

/-- Two put together: the set, or the error. -/
def bothE (a b : Option (List Bool)) : Int := if a.isNone ∨ b.isNone then 1 else if (a.getD []).length ≠ (b.getD []).length then 11 else 0
def bothB (k : Nat) (x y : List Bool) : List Bool := (List.range x.length).map fun j => opB k (hold x j) (hold y j)
def bothO (k : Nat) (a b : Option (List Bool)) : Option (List Bool) := if bothE a b = 0 then some (bothB k (a.getD []) (b.getD [])) else none

theorem hold_both (k : Nat) (x y : List Bool) (j : Nat) : hold (bothB k x y) j = (decide (j < x.length) && opB k (hold x j) (hold y j)) := by
  have e : hold (bothB k x y) j = ((bothB k x y)[j]?).getD false := by unfold hold; rw [List.getD_eq_getElem?_getD]
  rw [e]
  unfold bothB
  rw [List.getElem?_map]
  by_cases hj : j < x.length
  · rw [List.getElem?_range hj]; simp [hj]
  · rw [List.getElem?_eq_none (by simp; omega)]; simp [hj]

theorem bothB_len (k : Nat) (x y : List Bool) : (bothB k x y).length = x.length := by simp [bothB]

theorem pBoth {h : Heap} {k : Nat} (hk : k < 4) {v v' : Value} {p q p' q' : Nat} {a b : Option (List Bool)} (s : PSet h v p q a) (s' : PSet h v' p' q' b) :
    Gives P T (.fn F_colonnadelaw01_both) [.int .i64 k, v, v'] h fun u h' => ∃ w p2 q2, u = .tuple #[w, .int .i64 (bothE a b)] ∧ PSet h' w p2 q2 (bothO k a b) ∧ Grow h h' ∧ (bothO k a b ≠ none → h.dyn.length ≤ p2 ∧ h.dyn.length ≤ q2) := by
  by_cases hn : a.isNone ∨ b.isNone
  · have e : bothE a b = 1 := by unfold bothE; rw [if_pos hn]
    have eo : bothO k a b = none := by unfold bothO; rw [if_neg (by omega)]
    rw [e, eo]
    have hab : v = nilP ∨ (∃ p, v = ptr p) ∧ v' = nilP := by
      cases a with
      | none => exact .inl s
      | some x =>
        cases b with
        | none => exact .inr ⟨⟨p, s.1⟩, s'⟩
        | some y => simp at hn
    refine (lboth_err hk fun f => nil_both hab).mono ?_
    rintro _ _ ⟨rfl, rfl⟩
    exact ⟨nilP, 0, 0, rfl, rfl, Chg.refl _, fun e => absurd rfl e⟩
  · cases a with
    | none => simp at hn
    | some x =>
      cases b with
      | none => simp at hn
      | some y =>
        obtain ⟨rfl, ws, st, cn, hb⟩ := s
        obtain ⟨rfl, ws', st', cn', hb'⟩ := s'
        by_cases hl : x.length = y.length
        · have e : bothE (some x) (some y) = 0 := by unfold bothE; simp [hl]
          have eo : bothO k (some x) (some y) = some (bothB k x y) := by unfold bothO; rw [if_pos e]; rfl
          rw [e, eo]
          rw [← hl] at st' cn'
          refine (lboth_ok hk st st' cn cn').mono ?_
          rintro _ h' ⟨p2, q2, ws2, rfl, s2, c2, hb2, g, f1, f2⟩
          refine ⟨ptr p2, p2, q2, rfl, ⟨rfl, ws2, by rw [bothB_len]; exact s2, by rw [bothB_len]; exact c2, fun i => ?_⟩, g, fun _ => ⟨f1, f2⟩⟩
          rw [hb2, hb, hb', hold_both]
          by_cases hi : i < x.length
          · simp [hi]
          · rw [hold_out (by omega), hold_out (by omega : y.length ≤ i)]
            simp [hi]; unfold opB; simp
        · have e : bothE (some x) (some y) = 11 := by unfold bothE; simp [hl]
          have eo : bothO k (some x) (some y) = none := by unfold bothO; rw [if_neg (by omega)]
          rw [e, eo]
          refine (lboth_err hk fun f => size_both st st' hl).mono ?_
          rintro _ _ ⟨rfl, rfl⟩
          exact ⟨nilP, 0, 0, rfl, rfl, Chg.refl _, fun e => absurd rfl e⟩

theorem qBoth {h : Heap} {k : Nat} (hk : k < 4) {hv hv' : Value} {a b : Option (List Bool)} (r : Reads h hv ((a.getD []).map .bool)) (r' : Reads h hv' ((b.getD []).map .bool)) (hn : (a.getD []).length ≤ 16777216) :
    Gives P T (.fn F_colonnaderef01_Both) [.int .i64 k, rv a.isSome hv, rv b.isSome hv'] h fun u h' => ∃ hw q, u = .tuple #[rv (bothO k a b).isSome hw, .int .i64 (bothE a b)] ∧ Own h' hw q (((bothO k a b).getD []).map .bool) ∧ Grow h h' ∧ (hw ≠ nilS → h.dyn.length ≤ q ∧ q < h'.dyn.length) := by
  by_cases hne : a.isNone ∨ b.isNone
  · have e : bothE a b = 1 := by unfold bothE; rw [if_pos hne]
    have eo : bothO k a b = none := by unfold bothO; rw [if_neg (by omega)]
    rw [e, eo]
    refine (rBoth_nil (by cases a <;> cases b <;> simp_all)).mono ?_
    rintro _ h' ⟨rfl, g⟩
    exact ⟨nilS, 0, rfl, .inl ⟨rfl, rfl⟩, g, fun e => absurd rfl e⟩
  · cases a with
    | none => simp at hne
    | some x =>
      cases b with
      | none => simp at hne
      | some y =>
        simp only [Option.getD_some, Option.isSome_some] at *
        by_cases hl : x.length = y.length
        · have e : bothE (some x) (some y) = 0 := by unfold bothE; simp [hl]
          have eo : bothO k (some x) (some y) = some (bothB k x y) := by unfold bothO; rw [if_pos e]; rfl
          rw [e, eo]
          refine (rBoth_ok hk r r' hl.symm hn).mono ?_
          rintro _ h' ⟨hw, q, zs, rfl, hz, hb, ow, g, h1, h2⟩
          have ez : zs = bothB k x y := hold_ext (by rw [hz, bothB_len]) fun j hj => by rw [hb, hold_both]
          exact ⟨hw, q, rfl, by rw [← ez]; exact ow, g, fun e => ⟨h1, h2 e⟩⟩
        · have e : bothE (some x) (some y) = 11 := by unfold bothE; simp [hl]
          have eo : bothO k (some x) (some y) = none := by unfold bothO; rw [if_neg (by omega)]
          rw [e, eo]
          refine (rBoth_size r r' hl).mono ?_
          rintro _ h' ⟨rfl, g⟩
          exact ⟨nilS, 0, rfl, .inl ⟨rfl, rfl⟩, g, fun e => absurd rfl e⟩

theorem bothO_le {k : Nat} {a b : Option (List Bool)} (h : (a.getD []).length ≤ 16777216) : ((bothO k a b).getD []).length ≤ 16777216 := by
  unfold bothO
  split
  · simp [bothB_len]; exact h
  · simp

/-- What a load gives. -/
def loadO (n : Int) (ws : List (BitVec 64)) : Option (List Bool) := if loadE n ws = 0 then some ((List.range n.toNat).map (bit ws)) else none

theorem hold_bits {ws : List (BitVec 64)} {n : Nat} (j : Nat) : hold ((List.range n).map (bit ws)) j = (decide (j < n) && bit ws j) := by
  unfold hold
  rw [List.getD_eq_getElem?_getD, List.getElem?_map]
  by_cases hj : j < n
  · rw [List.getElem?_range hj]; simp [hj]
  · rw [List.getElem?_eq_none (by simp; omega)]; simp [hj]

theorem load_canon {n : Int} {ws : List (BitVec 64)} (h : loadE n ws = 0) : ∃ m : Nat, n = m ∧ Canon m ws := by
  unfold loadE at h
  split at h
  · omega
  · split at h
    · omega
    · split at h
      · rename_i h1 h2 h3
        obtain ⟨m, rfl⟩ : ∃ m : Nat, n = m := ⟨n.toNat, by omega⟩
        have hl : ws.length = (m + 63) / 64 := by omega
        exact ⟨m, rfl, hl, by omega, (tight_iff hl).1 (by simpa using h3)⟩
      · omega

theorem pLoadO {h : Heap} {v : Value} {n : Int} {ws : List (BitVec 64)} (r : Reads h v (ws.map wv)) (hw : ws.length ≤ 1000000000000) :
    Gives P T (.fn F_bits_Load) [.int .i64 n, v] h fun u h' => ∃ w p2 q2, u = .tuple #[w, .int .i64 (loadE n ws)] ∧ PSet h' w p2 q2 (loadO n ws) ∧ Grow h h' ∧ (loadO n ws ≠ none → h.dyn.length ≤ p2 ∧ h.dyn.length ≤ q2) := by
  refine (pLoad r hw).mono ?_
  rintro u h' ⟨k, g⟩
  by_cases e : loadE n ws = 0
  · rw [if_pos e] at k
    obtain ⟨p2, q2, rfl, st, f1, f2⟩ := k
    obtain ⟨m, rfl, cn⟩ := load_canon e
    unfold loadO
    rw [e, if_pos rfl]
    refine ⟨ptr p2, p2, q2, rfl, ⟨rfl, ws, by simpa using st, by simpa using cn, fun i => ?_⟩, g, fun _ => ⟨f1, f2⟩⟩
    rw [hold_bits]
    by_cases hi : i < m
    · simp [hi]
    · rw [cn.out i (by omega)]; simp
  · rw [if_neg e] at k
    unfold loadO
    rw [if_neg e]
    exact ⟨nilP, 0, 0, k, rfl, g, fun e => absurd rfl e⟩

theorem qLoadO {h : Heap} {v : Value} {n : Int} {ws : List (BitVec 64)} (r : Reads h v (ws.map wv)) (hw : ws.length ≤ 1000000000000) :
    Gives P T (.fn F_colonnaderef01_Load) [.int .i64 n, v] h fun u h' => ∃ hw q, u = .tuple #[rv (loadO n ws).isSome hw, .int .i64 (loadE n ws)] ∧ Own h' hw q (((loadO n ws).getD []).map .bool) ∧ Grow h h' ∧ (hw ≠ nilS → h.dyn.length ≤ q ∧ q < h'.dyn.length) := by
  refine (rLoad r hw).mono ?_
  rintro u h' ⟨k, g⟩
  by_cases e : loadE n ws = 0
  · rw [if_pos e] at k
    obtain ⟨hv, q, bs, rfl, hl, hb, ow, h1, h2⟩ := k
    unfold loadO
    rw [e, if_pos rfl]
    have eb : bs = (List.range n.toNat).map (bit ws) := hold_ext (by simpa using hl) fun j hj => by rw [hb, hold_bits, decide_eq_true (by omega), Bool.true_and]
    exact ⟨hv, q, rfl, by rw [Option.getD_some, ← eb]; exact ow, g, fun e => ⟨h1, h2 e⟩⟩
  · rw [if_neg e] at k
    unfold loadO
    rw [if_neg e]
    exact ⟨nilS, 0, k, .inl ⟨rfl, rfl⟩, g, fun e => absurd rfl e⟩

theorem loadO_le {n : Int} {ws : List (BitVec 64)} : ((loadO n ws).getD []).length ≤ 16777216 := by
  unfold loadO
  split
  · rename_i e
    obtain ⟨m, rfl, cn⟩ := load_canon e
    simpa using cn.le
  · simp

end Go.Ax

namespace Go.Ax
open Go.Proofs
set_option linter.unusedVariables false
set_option linter.unusedSimpArgs false
set_option maxRecDepth 100000

/-- A step of a script. -/
structure StD where
  k : Int
  a : Int
  w : Int
  t : Int
  i : Int
  j : Int
  on : Bool
  vw : Value
  vb : Value
  vs : Value
  ws : List (BitVec 64)
  bs : List Bool
  ss : List Int

def StD.cells (s : StD) : List Value := [.int .i64 s.k, .int .i64 s.a, .int .i64 s.w, .int .i64 s.t, .int .i64 s.i, .int .i64 s.j, .bool s.on, s.vw, s.vb, s.vs]

structure StD.ok (ro : Nat → Nat → Option Value) (s : StD) : Prop where
  rw : ∀ h : Heap, h.ro = ro → Reads h s.vw (s.ws.map wv)
  rb : ∀ h : Heap, h.ro = ro → Reads h s.vb (s.bs.map .bool)
  rs : ∀ h : Heap, h.ro = ro → Reads h s.vs (s.ss.map (.int .i64))
  lw : s.ws.length ≤ 1048576
  lb : s.bs.length ≤ 1048576
  ls : s.ss.length ≤ 1048576
  ji : -9223372036854775808 ≤ s.i ∧ s.i < 9223372036854775808
  jj : -9223372036854775808 ≤ s.j ∧ s.j < 9223372036854775808

theorem Reads.good {h : Heap} {v : Value} {l : List Value} (r : Reads h v l) : goodC v = true := by
  obtain ⟨b, c, rfl, _⟩ := r.shape; simp
theorem Reads.is_slice {h : Heap} {v : Value} {l : List Value} (r : Reads h v l) : ∃ b c, v = .slice b l.length c := by
  obtain ⟨b, c, rfl, _⟩ := r.shape; exact ⟨b, c, rfl⟩

theorem res_made {N i j k n : Nat} {a : Addr} {l : List Value} {h : Heap} {e : List (Nat × Value)} (hi : i < N) (hj : j < N) (hk : k < N) (hs : slot e j = .pointer (some a)) (hl : loadN h a n = some l) : resVals (envT N e) h [.tmp i, .cell j (some n), .tmp k] = some [slot e i, .agg l.toArray, slot e k] := by
  simp only [resVals, envT_getD hi, envT_getD hj, envT_getD hk, hs, aload, hl, Option.map_some]

theorem made_end {h H J : Heap} (gH : Grow h H) (hHl : H.dyn.length = h.dyn.length + 2) (r5 : RowAt H (h.dyn.length + 1) 0 0 [.bool false, .slice none 0 0]) (gJ : Grow H J) {d : Pl} (f : Fresh H J d) :
    ∃ h3, storeN J ⟨h.dyn.length + 1, 0, some 0⟩ [.bool d.o.isSome, d.hv] = some h3 ∧ loadN h3 ⟨h.dyn.length + 1, 0, some 0⟩ 2 = some [.bool d.o.isSome, d.hv] ∧ Grow h h3 ∧ Fresh h h3 d ∧ Chg (· = h.dyn.length + 1) J h3 := by
  obtain ⟨h3, e3, r3, l3, g3, c3, n3⟩ := row2 rfl (r5.grow gJ) (gH.trans gJ) (by omega) (x := .bool d.o.isSome) (y := d.hv) (by simp) f.ok.good.2
  exact ⟨h3, e3, l3, g3, f.later (by omega) c3 fun b e => by omega, c3⟩

theorem WI.look {h : Heap} {x : Nat} {D : Nat → Pl} (w : WI h x D) {i : Nat} (hi : i < 6) :
    hload h ⟨x, i, some 0⟩ = some (D i).v ∧ hload h ⟨x, 6 + i * 2, some 0⟩ = some (.bool (D i).o.isSome) ∧ hload h ⟨x, 6 + i * 2 + 1, some 0⟩ = some (D i).hv ∧ loadN h ⟨x, 6 + i * 2, some 0⟩ 2 = some [.bool (D i).o.isSome, (D i).hv] := by
  obtain ⟨h1, h2, h3⟩ := wcells_get D hi
  refine ⟨w.row.get h1, w.row.get h2, w.row.get h3, ?_⟩
  have e2 := w.row.get h2
  have e3 := w.row.get h3
  simp [loadN, e2, e3]

theorem vsame_hv {b : Bool} {hv : Value} (hs : ∃ b n c, hv = .slice b n c) : vsame (.agg #[.bool b, hv]) (some (.agg #[.bool b, hv])) = true := by
  obtain ⟨b, n, c, rfl⟩ := hs; exact vsame_rv

theorem PSet.vs {h : Heap} {v : Value} {p q : Nat} {o : Option (List Bool)} (s : PSet h v p q o) : vsame v (some v) = true := by
  cases o with
  | none => rw [show v = nilP from s]; simp
  | some bs => rw [s.1]; unfold ptr; simp

theorem copy_top {h : Heap} {v : Value} {bs : List Bool} (r : Reads h v (bs.map .bool)) (hb : bs.length ≤ 16777216) :
    ∃ v1 h1 q1, aappend h 1 1 [.bool false] (.slice none 0 0) v = some (v1, h1) ∧ Own h1 v1 q1 (bs.map .bool) ∧ Grow h h1 ∧ h.dyn.length ≤ q1 ∧ TopS v1 := by
  obtain ⟨f1, f2⟩ := r.first
  by_cases h0 : bs = []
  · subst h0
    exact ⟨.slice none 0 0, h, h.dyn.length, (Own.nil h 0).app0 (by simp) f1 f2, .inl ⟨rfl, rfl⟩, Chg.refl _, Nat.le_refl _, fun b n c e => by cases e; exact .inl rfl⟩
  · obtain ⟨v', h', q', e, o, cg, l, d⟩ := (Own.nil h 0).app (bytes := 1) (z := .bool false) (x := v) (m := bs.map .bool) (by simpa using h0) f1 f2 (one_boolA bs) (by simp; omega) (by simp; omega)
    obtain ⟨b, m, et⟩ := aappend_top e f1 (by simpa using h0) (fun b n c e => by cases e; exact .inl rfl)
    refine ⟨v', h', q', e, o, cg.mono fun b hb e => absurd rfl e.2, ?_, et ▸ TopS.full⟩
    rcases d with ⟨_, d⟩ | d
    · exact absurd rfl d
    · omega

def joinO (S : List Pl) : Option (List Bool) := if joinE S = 0 then some (catL S) else none

theorem joinO_le {S : List Pl} : ((joinO S).getD []).length ≤ 16777216 := by
  unfold joinO
  split
  · rename_i e
    rw [Option.getD_some, catL_len]
    unfold joinE at e
    split at e
    · cases e
    · split at e
      · cases e
      · omega
  · simp

theorem pJoinO {h : Heap} {v : Value} {S : List Pl} (r : Reads h v (S.map (·.v))) (hs : ∀ d ∈ S, d.ok h) (hlen : S.length ≤ 1048576) :
    Gives P T (.fn F_bits_Join) [v] h fun u h' => ∃ w p q, u = .tuple #[w, .int .i64 (joinE S)] ∧ PSet h' w p q (joinO S) ∧ Grow h h' ∧ (joinO S ≠ none → h.dyn.length ≤ p ∧ h.dyn.length ≤ q) := by
  unfold joinO
  by_cases e : joinE S = 0
  · rw [if_pos e, e]
    refine (pJoin_ok r hs hlen e).mono ?_
    rintro _ h' ⟨p, q, rfl, ps, g, f1, f2⟩
    exact ⟨ptr p, p, q, rfl, ps, g, fun _ => ⟨f1, f2⟩⟩
  · rw [if_neg e]
    refine (pJoin_err r hs hlen e).mono ?_
    rintro _ _ ⟨rfl, rfl⟩
    exact ⟨nilP, 0, 0, rfl, rfl, Chg.refl _, fun e => absurd rfl e⟩

theorem qJoinO {h : Heap} {v : Value} {q0 : Nat} {S : List Pl} (o : OwnN h v q0 2 S.length (cellsL S)) (hs : ∀ d ∈ S, d.ok h) (hlen : S.length ≤ 1048576) (hh : ∀ d ∈ S, d.hq < h.dyn.length ∨ d.hv = nilS) :
    Gives P T (.fn F_colonnaderef01_Join) [v] h fun u h' => ∃ hw q, u = .tuple #[rv (joinO S).isSome hw, .int .i64 (joinE S)] ∧ Own h' hw q (((joinO S).getD []).map .bool) ∧ Grow h h' ∧ (hw ≠ nilS → h.dyn.length ≤ q ∧ q < h'.dyn.length) := by
  refine (rJoin o hs hlen hh).mono ?_
  rintro u h' ⟨k, g⟩
  unfold joinO
  by_cases e : joinE S = 0
  · rw [if_pos e] at k ⊢
    obtain ⟨hw, q, rfl, ow, h1, h2⟩ := k
    rw [e]
    exact ⟨hw, q, rfl, ow, g, fun e => ⟨h1, h2 e⟩⟩
  · rw [if_neg e] at k ⊢
    exact ⟨nilS, 0, k, .inl ⟨rfl, rfl⟩, g, fun e => absurd rfl e⟩

theorem OwnN.chgN {S : Nat → Prop} {h h' : Heap} {v : Value} {q es n : Nat} {l : List Value} (o : OwnN h v q es n l) (k : Chg S h h') (hs : v ≠ nilS → ¬ S q) : OwnN h' v q es n l := by
  obtain ⟨h1, o | ⟨u, h2, h3⟩⟩ := o
  · exact ⟨h1, .inl o⟩
  · exact ⟨h1, .inr ⟨u, h2, h3.chg k (hs (by rw [h2]; simp [nilS]))⟩⟩

theorem eq_ptr {h : Heap} {ty : TypeId} {xo yo : Operand} {v : Value} (hv : v = nilP ∨ ∃ p, v = ptr p) : abinop P h .eql ty (.ptr 2) xo yo v v = some (.bool true) := by
  rcases hv with rfl | ⟨p, rfl⟩
  · rfl
  · simp [abinop, aeq, ptr, sameA]

theorem same_nil {h : Heap} {t : List Value} {x : Operand} (hx : evalT t x = nilP) : same P (.bin .eql 24 (.ptr 2) x (.const nilP)) t (.bool true) h = true := by
  have e2 : evalT t (.const nilP) = nilP := rfl
  simp only [same, aop, hx, e2]
  rfl

theorem PSet.ptrs {h : Heap} {v : Value} {p q : Nat} {o : Option (List Bool)} (s : PSet h v p q o) : v = nilP ∨ ∃ p, v = ptr p := by
  cases o with
  | none => exact .inl s
  | some bs => exact .inr ⟨p, s.1⟩

theorem fresh_none {h h1 : Heap} {q : Nat} : Fresh h h1 ⟨nilP, 0, 0, none, nilS, q⟩ :=
  ⟨⟨rfl, .inl ⟨rfl, rfl⟩, by simp⟩, fun e => absurd rfl e, fun e => absurd rfl e, fun e => absurd rfl e⟩

@[simp] theorem useHeap_iadA {n es : Nat} {x i : Operand} : useHeap (.iadA n es x i) = false := by simp [useHeap, isEff]

set_option maxHeartbeats 8000000 in
theorem made_spec {h : Heap} {x : Nat} {D : Nat → Pl} {s : StD} (W : WI h x D) (S : s.ok h.ro) (hk : s.k = 1 ∨ s.k = 2 ∨ s.k = 3 ∨ s.k = 5 ∨ s.k = 6 ∨ s.k = 7 ∨ s.k = 12 ∨ s.k = 13) :
    Gives P T (.fn F_colonnadelaw01_world_made) [ptr x, .agg s.cells.toArray] h fun v h' => ∃ d, v = .tuple #[d.v, rv d.o.isSome d.hv, .bool true] ∧ Fresh h h' d ∧ Grow h h' := by
  refine gives_by t_colonnadelaw01_world_made (by simp [c_colonnadelaw01_world_made]) fun Q hQ => ?_
  have r3 := RowAt.new h s.cells 0
  have g3 := Grow.new h s.cells 0
  obtain ⟨F, hF⟩ : ∃ G, hnew h s.cells 0 = G := ⟨_, rfl⟩
  have hFl : F.dyn.length = h.dyn.length + 1 := by rw [← hF]; simp
  rw [hF] at r3 g3
  have r5 := RowAt.new F [.bool false, .slice none 0 0] 0
  have g5 := Grow.new F [.bool false, .slice none 0 0] 0
  obtain ⟨H, hH⟩ : ∃ G, hnew F [.bool false, .slice none 0 0] 0 = G := ⟨_, rfl⟩
  have hHl : H.dyn.length = h.dyn.length + 2 := by rw [← hH]; simp [hFl]
  rw [hH] at r5 g5
  rw [hFl] at r5
  have gH := g3.trans g5
  have st : ∀ J, Grow H J → ∀ i y, s.cells[i]? = some y → hload J ⟨h.dyn.length, i, some 0⟩ = some y := fun J gJ i y hy => ((r3.grow g5).grow gJ).get hy
  have WH := W.grow gH.l
  have roH : ∀ J, Grow H J → J.ro = h.ro := fun J gJ => (gJ.ro.trans gH.ro)
  obtain ⟨A, hA⟩ : ∃ A, (s.a % 6).toNat = A := ⟨_, rfl⟩
  obtain ⟨B, hB⟩ : ∃ B, (s.w % 6).toNat = B := ⟨_, rfl⟩
  have hA6 : A < 6 := by omega
  have hB6 : B < 6 := by omega
  have gHH : Grow H H := Chg.refl H
  have k0 := st H gHH 0 _ rfl
  have k1 := st H gHH 1 _ rfl
  have k2 := st H gHH 2 _ rfl
  have k4 := st H gHH 4 _ rfl
  have k5 := st H gHH 5 _ rfl
  have hsc : Value.agg s.cells.toArray = .agg #[.int .i64 s.k, .int .i64 s.a, .int .i64 s.w, .int .i64 s.t, .int .i64 s.i, .int .i64 s.j, .bool s.on, s.vw, s.vb, s.vs] := rfl
  have gw := (S.rw h rfl).good
  have gb := (S.rb h rfl).good
  have gs := (S.rs h rfl).good
  have hF' : hnew h [.int .i64 s.k, .int .i64 s.a, .int .i64 s.w, .int .i64 s.t, .int .i64 s.i, .int .i64 s.j, .bool s.on, s.vw, s.vb, s.vs] 0 = F := hF
  simp [c_colonnadelaw01_world_made, hsc, gw, gb, gs, hF', hH, hFl, k1]
  refine got_call (pickW_spec s.a (n := 6) (by omega) (by omega)) ?_
  rintro _ _ ⟨rfl, hHe⟩
  have hHe := hHe.symm
  subst hHe
  have hA' : (s.a % ((6 : Nat) : Int)).toNat = A := hA
  simp only [hA']
  simp [k2]
  refine got_call (pickW_spec s.w (n := 6) (by omega) (by omega)) ?_
  rintro _ _ ⟨rfl, hHe⟩
  have hHe := hHe.symm
  subst hHe
  have hB' : (s.w % ((6 : Nat) : Int)).toNat = B := hB
  simp only [hB']
  have hAi : (A : Int) < 6 := by omega
  have hBi : (B : Int) < 6 := by omega
  have wl := fun J (gJ : Grow H J) => (WH.grow gJ.l).look hA6
  have wl2 := fun J (gJ : Grow H J) => (WH.grow gJ.l).look hB6
  obtain ⟨e1, e2, e3, e4⟩ := wl H gHH
  obtain ⟨m1, m2, m3, m4⟩ := wl2 H gHH
  have okA := WH.ok A hA6
  have okB := WH.ok B hB6
  simp [k0]
  have okAr : Reads H (D A).hv (((D A).o.getD []).map .bool) := okA.2.1.reads
  have okBr : Reads H (D B).hv (((D B).o.getD []).map .bool) := okB.2.1.reads
  have ua := okA.1.vs
  have ub := okB.1.vs
  have va := vsame_hv (b := (D A).o.isSome) okA.2.1.is_slice
  have vb := vsame_hv (b := (D B).o.isSome) okB.2.1.is_slice
  rcases hk with hk | hk | hk | hk | hk | hk | hk | hk
  · -- News
    simp [hk, k4]
    refine got_call pNew ?_
    rintro v J1 ⟨p1, q1, s1, g1, f1⟩
    simp [st J1 g1 4 _ rfl, k4]
    refine got_call qNew ?_
    rintro _ J2 ⟨hv, q2, rfl, o2, g2, f2⟩
    obtain ⟨q', fr⟩ := fresh_ph s1 g1 g2 f1 o2 (fun e => f2 e) newO_le
    obtain ⟨h3, e3, l3, g3', f3, -⟩ := made_end gH hHl r5 (g1.trans g2) fr
    simp [e3]
    exact ⟨_, ⟨_, res_cell3 (by decide) (by simp) l3 (by decide), rfl⟩, hQ _ _ ⟨_, by simp [oneOf], f3, g3'⟩⟩
  · -- Ofs
    obtain ⟨n, hn⟩ : ∃ n, s.bs.length = n := ⟨_, rfl⟩
    have lb := S.lb
    rw [hn] at lb
    have rb := S.rb H (roH H gHH)
    obtain ⟨bb, cb, evb⟩ := rb.is_slice
    rw [List.length_map, hn] at evb
    obtain ⟨v1, J1, q1, e1', o1, g1, hq1, t1⟩ := copy_top rb (by omega)
    have gl1 := g1.len
    have g1n := Grow.new J1 [.bool true, .bool false, .bool true] 1
    obtain ⟨v2, J2, q2, e2', o2, c2, l2, d2⟩ := (o1.grow g1n).app (bytes := 1) (z := .bool false) (x := .slice (some ⟨J1.dyn.length, 0, some 0⟩) 3 3) (m := [.bool true, .bool false, .bool true]) (by simp) rfl
      (by simp only [firstN, List.length_cons, List.length_nil]; exact loadN_row_all (RowAt.new _ _ _) rfl) (by simp) (by simp; omega) (by simp; omega)
    obtain ⟨tb, tn, et⟩ := aappend_top e2' rfl (by simp) t1
    have gJ2 : Grow H J2 := (g1.trans g1n).after c2 fun b hb e => by have := e.1; omega
    obtain ⟨v3, e3', rm⟩ := room_mk (l := s.bs.map .bool) (more := [.bool true, .bool false, .bool true]) o2 ⟨tb, tn, et⟩ rfl
    obtain ⟨u2, ev2, row2'⟩ := o2.full ⟨tb, tn, et⟩
    have hlen : (s.bs.map Value.bool ++ [Value.bool true, .bool false, .bool true]).length = n + 3 := by simp [hn]
    rw [hlen] at ev2
    subst ev2
    simp only [List.length_map, hn] at e3'
    have hq2H : H.dyn.length ≤ q2 := by
      rcases d2 with ⟨h1, _⟩ | h1
      · omega
      · rw [h1]; simp; omega
    have b8 := st H gHH 8 _ rfl
    have b8' := st J2 gJ2 8 _ rfl
    rw [evb] at b8 b8' e1'
    simp [hk, b8, b8', e1', e2', e3']
    have hrm := rm.reads
    refine got_call (Of_spec hrm (by omega)) ?_
    rintro _ J3 ⟨p3, q3, ws3, rfl, st3, cn3, hb3, g3', f31, f32⟩
    have gJ3 := gJ2.trans g3'
    have row3 := row2'.grow g3'
    have b8'' := st J3 gJ3 8 _ rfl
    rw [evb] at b8''
    have at0 : hload J3 ⟨q2, n, some u2⟩ = some (.bool true) := row3.get (by rw [List.getElem?_append_right (by simp [hn])]; simp [hn])
    have at1 : hload J3 ⟨q2, n + 1, some u2⟩ = some (.bool false) := row3.get (by rw [List.getElem?_append_right (by simp [hn])]; simp [hn])
    have at2 : hload J3 ⟨q2, n + 2, some u2⟩ = some (.bool true) := row3.get (by rw [List.getElem?_append_right (by simp [hn])]; simp [hn])
    have w1 : IntKind.i64.wrap ((n : Int) + 1) = ((n + 1 : Nat) : Int) := by rw [wrap_i64 (by omega) (by omega)]; omega
    have w2 : IntKind.i64.wrap ((n : Int) + 2) = ((n + 2 : Nat) : Int) := by rw [wrap_i64 (by omega) (by omega)]; omega
    have i0 : n < n + 3 := by omega
    have i1 : n + 1 < n + 3 := by omega
    have i2 : n + 2 < n + 3 := by omega
    obtain ⟨n1, hn1⟩ : ∃ z, n + 1 = z := ⟨_, rfl⟩
    obtain ⟨n2, hn2⟩ : ∃ z, n + 2 = z := ⟨_, rfl⟩
    obtain ⟨n3, hn3⟩ : ∃ z, n + 3 = z := ⟨_, rfl⟩
    rw [hn1] at w1 at1 i1
    rw [hn2] at w2 at2 i2
    rw [hn3] at i0 i1 i2
    simp only [hn3]
    simp [b8'', at0, at1, at2, w1, w2, i0, i1, i2]
    have hapm : ∀ L : List Bool, L.map Value.bool ++ [Value.bool true, .bool false, .bool true] = (L ++ [true, false, true]).map .bool := fun L => by simp
    rw [hapm] at row3
    refine go_loopK (fun kk ks h2 => ∃ (i : Nat) (L : List Bool), kk = n - i ∧ i ≤ n ∧ ks = [(3, .pointer (some ⟨h.dyn.length, 0, some 0⟩)), (5, .pointer (some ⟨h.dyn.length + 1, 0, some 0⟩)), (9, .slice (some ⟨q2, 0, some u2⟩) n3 gcap), (10, ptr p3), (11, .bool true), (12, .int .i64 i)] ∧
        L.length = n ∧ (∀ j, hold L j = if j < i then !hold s.bs j else hold s.bs j) ∧ RowAt h2 q2 u2 1 ((L ++ [true, false, true]).map .bool) ∧ Grow H h2 ∧ Chg (· = q2) J3 h2 ∧ h2.dyn.length = J3.dyn.length) (n := n)
      ⟨0, s.bs, rfl, by omega, rfl, hn, fun j => by simp, row3, gJ3, Chg.refl _, rfl⟩ (by simp) ?_
    rintro I hI kk ks e h2 ⟨i, L, rfl, hi, rfl, hL, hb, rw2, gg, cc3, n2'⟩
    have c8 := st h2 gg 8 _ rfl
    rw [evb] at c8
    simp [c8]
    refine branch_dec (fun hlt => ?_) (fun hge => ?_)
    · have hw1 : IntKind.i64.wrap ((i : Int) + 1) = ((i + 1 : Nat) : Int) := by rw [wrap_i64 (by omega) (by omega)]; omega
      have hin3 : i < n3 := by omega
      have ldl : hload h2 ⟨q2, i, some u2⟩ = some (.bool (hold L i)) := rw2.get (by rw [List.map_append, List.getElem?_append_left (by simp; omega)]; exact hold_get (by omega))
      have rbb := S.rb h2 (roH h2 gg)
      rw [evb] at rbb
      obtain ⟨_, _, ev8, k8⟩ := rbb.shape
      simp only [List.length_map, hn, Value.slice.injEq] at ev8 k8
      obtain ⟨rfl, -, rfl⟩ := ev8
      obtain ⟨a8, rfl, hla⟩ := k8 i hlt
      have ldb := hla i _ (hold_get (by omega))
      have hLi : hold L i = hold s.bs i := by rw [hb, if_neg (by omega)]
      rw [hLi] at ldl
      obtain ⟨h4, e4', r4, c4, n4⟩ := rw2.store (i := i) (by simp; omega) (x := .bool (!hold s.bs i)) (by simp)
      have es : ((L ++ [true, false, true]).map Value.bool).set i (.bool (!hold s.bs i)) = (L.set i (!hold s.bs i) ++ [true, false, true]).map .bool := by
        rw [set_map, List.set_append_left _ _ (by omega)]
      rw [es] at r4
      simp [hlt, c8, hin3, ldl, ldb, e4', hw1, pushP_in]
      exact ⟨n - (i + 1), by omega, hI _ _ _ _ ⟨i + 1, L.set i (!hold s.bs i), rfl, by omega, rfl, by simpa using hL, fun j => by
        rw [hold_set (by omega), hb]
        by_cases hj : j = i
        · subst hj; simp
        · rw [if_neg hj]
          by_cases h1 : j < i
          · rw [if_pos h1, if_pos (by omega)]
          · rw [if_neg h1, if_neg (by omega)], r4, gg.after c4 fun b hb e => by omega, cc3.trans c4, by omega⟩ (by simp)⟩
    · have hin : i = n := by omega
      subst hin
      simp [c8]
      have rbb := S.rb h2 (roH h2 gg)
      rw [evb] at rbb
      refine got_call (rOf rbb (by omega)) ?_
      rintro _ J5 ⟨hv, q5, rfl, o5, g5', hq5, hq5'⟩
      have ps : PSet h2 (ptr p3) p3 q3 (some s.bs) := ⟨rfl, ws3, st3.chg cc3 (by omega) (by omega), cn3, hb3⟩
      have gl := gg.len
      obtain ⟨q', fr⟩ := fresh_ph (h := H) ps gg g5' (fun _ => ⟨by have := gJ2.len; omega, by have := gJ2.len; omega⟩) (o := some s.bs) o5 (fun e => ⟨hq5, hq5' e⟩) (by simp; omega)
      obtain ⟨h3, e3, l3, g3'', f3', -⟩ := made_end gH hHl r5 (gg.trans g5') fr
      simp at e3
      simp [e3]
      exact ⟨_, ⟨_, res_cell3 (by decide) (by simp) l3 (by decide), rfl⟩, hQ _ _ ⟨_, by simp [oneOf], f3', g3''⟩⟩
  · -- Loads
    simp [hk, st H gHH 7 _ rfl]
    have lw := S.lw
    refine got_call (lentW (S.rw H (roH H gHH)) (by omega)) ?_
    rintro u J1 ⟨qu, ru, g1, hqu⟩
    have g1l := g1.len
    simp [st J1 g1 4 _ rfl, st J1 g1 7 _ rfl]
    refine got_call (qLoadO (n := s.i) (S.rw J1 (roH J1 g1)) (by omega)) ?_
    rintro _ J2 ⟨hv, q2, rfl, o2, g2, f2⟩
    have g2l := g2.len
    obtain ⟨J3, e14, r14, l14, g14, c14, n14⟩ := row2 rfl (RowAt.new J2 [.bool false, .slice none 0 0] 0) (Grow.new J2 [.bool false, .slice none 0 0] 0) (Nat.le_refl _) (x := .bool (loadO s.i s.ws).isSome) (y := hv) (by simp) o2.good
    have gJ3 := (g1.trans g2).trans g14
    have hJ3l : J3.dyn.length = J2.dyn.length + 1 := by rw [n14]; simp
    simp [e14, st J3 gJ3 4 _ rfl]
    have ru3 := (ru.grow g2).grow g14
    refine got_call (pLoadO (n := s.i) ru3.reads (by omega)) ?_
    rintro _ J4 ⟨w, p4, q4, rfl, s4, g4, f4⟩
    have g4l := g4.len
    have gJ4 := gJ3.trans g4
    have l14' := loadN_row_all (r14.grow g4) (n := 2) rfl
    simp [l14', st J4 gJ4 7 _ rfl]
    have qlt := ru.lt
    refine got_call (keptW (ru3.grow g4) (S.rw J4 (roH J4 gJ4)) (by omega) fun h2 c2 => S.rw h2 (c2.ro.trans (roH J4 gJ4))) ?_
    rintro _ J5 ⟨rfl, c5⟩
    have c5l := c5.len
    have gJ5 : Grow H J5 := gJ4.after c5 fun b hb e => by omega
    have l14'' := loadN_row_all ((r14.grow g4).chg c5 (by omega)) (n := 2) rfl
    obtain ⟨q', fr⟩ := fresh_hp (h := J1) s4 (g2.trans g14) g4 f4 (o2.grow g14) (fun e => by have := f2 e; exact ⟨this.1, by omega⟩) loadO_le
    have fr5 : Fresh H J5 _ := fr.later g1l c5 fun b e => by omega
    obtain ⟨h3, e3, l3, g3'', f3', -⟩ := made_end gH hHl r5 gJ5 fr5
    have vh := vsame_hv (b := (loadO s.i s.ws).isSome) o2.is_slice
    simp [l14'', l14', e3, vh, pushP_in]
    exact ⟨_, ⟨_, res_cell3 (by decide) (by simp) l3 (by decide), rfl⟩, hQ _ _ ⟨_, by simp [oneOf], f3', g3''⟩⟩
  · -- Clones
    simp [hk, ptr, hAi, hA6, e1]
    refine got_call (pClone okA.1) ?_
    rintro v J1 ⟨p1, q1, s1, g1, f1⟩
    obtain ⟨e1', e2', e3', e4'⟩ := wl J1 g1
    simp [hAi, hA6, e4', e4, va]
    refine got_call (qClone (okAr.grow g1) okA.2.2) ?_
    rintro _ J2 ⟨hv, q2, rfl, o2, g2, f2⟩
    obtain ⟨q', fr⟩ := fresh_ph s1 g1 g2 f1 o2 (fun e => f2 e) okA.2.2
    obtain ⟨h3, e3, l3, g3', f3, -⟩ := made_end gH hHl r5 (g1.trans g2) fr
    simp [e3]
    exact ⟨_, ⟨_, res_cell3 (by decide) (by simp) l3 (by decide), rfl⟩, hQ _ _ ⟨_, by simp [oneOf], f3, g3'⟩⟩
  · -- Boths
    obtain ⟨K, hK⟩ : ∃ K, (s.i % 4).toNat = K := ⟨_, rfl⟩
    have hK4 : K < 4 := by omega
    simp [hk, k4]
    refine got_call (pickW_spec s.i (n := 4) (by omega) (by omega)) ?_
    rintro _ _ ⟨rfl, hHe⟩
    have hHe := hHe.symm
    subst hHe
    have hK' : (s.i % ((4 : Nat) : Int)).toNat = K := hK
    simp only [hK']
    simp [ptr, hAi, hA6, hBi, hB6, e4, m4, va, vb]
    refine got_call (qBoth hK4 okAr okBr okA.2.2) ?_
    rintro _ J1 ⟨hv, q2, rfl, o2, g2, f2⟩
    have g2l := g2.len
    obtain ⟨J2, e18, r18, l18, g18, c18, n18⟩ := row2 rfl (RowAt.new J1 [.bool false, .slice none 0 0] 0) (Grow.new J1 [.bool false, .slice none 0 0] 0) (Nat.le_refl _) (x := .bool (bothO K (D A).o (D B).o).isSome) (y := hv) (by simp) o2.good
    have gJ2 := g2.trans g18
    have hJ2l : J2.dyn.length = J1.dyn.length + 1 := by rw [n18]; simp
    simp [e18, st J2 gJ2 4 _ rfl]
    refine got_call (pickW_spec s.i (n := 4) (by omega) (by omega)) ?_
    rintro _ _ ⟨rfl, hHe⟩
    have hHe := hHe.symm
    subst hHe
    simp only [hK']
    obtain ⟨x1, x2, x3, x4⟩ := wl J2 gJ2
    obtain ⟨y1, y2, y3, y4⟩ := wl2 J2 gJ2
    simp [ptr, hAi, hA6, hBi, hB6, x1, y1, ua, ub]
    refine got_call (pBoth hK4 (okA.1.grow gJ2) (okB.1.grow gJ2)) ?_
    rintro _ J3 ⟨w, p3, q3, rfl, s3, g3', f3⟩
    have l18' := loadN_row_all (r18.grow g3') (n := 2) rfl
    obtain ⟨q', fr⟩ := fresh_hp s3 gJ2 g3' f3 (o2.grow g18) (fun e => by have := f2 e; exact ⟨this.1, by omega⟩) (bothO_le okA.2.2)
    obtain ⟨h3, e3, l3, g3'', f3', -⟩ := made_end gH hHl r5 (gJ2.trans g3') fr
    simp [l18', e3]
    exact ⟨_, ⟨_, res_cell3 (by decide) (by simp) l3 (by decide), rfl⟩, hQ _ _ ⟨_, by simp [oneOf], f3', g3''⟩⟩
  · -- Nots
    simp [hk, ptr, hAi, hA6, e1]
    refine got_call (pNot okA.1) ?_
    rintro v J1 ⟨p1, q1, s1, g1, f1⟩
    obtain ⟨e1', e2', e3', e4'⟩ := wl J1 g1
    simp [hAi, hA6, e4', e4, va]
    refine got_call (qNot (okAr.grow g1) okA.2.2) ?_
    rintro _ J2 ⟨hv, q2, rfl, o2, g2, f2⟩
    obtain ⟨q', fr⟩ := fresh_ph s1 g1 g2 f1 o2 (fun e => f2 e) (notO_le okA.2.2)
    obtain ⟨h3, e3, l3, g3', f3, -⟩ := made_end gH hHl r5 (g1.trans g2) fr
    simp [e3]
    exact ⟨_, ⟨_, res_cell3 (by decide) (by simp) l3 (by decide), rfl⟩, hQ _ _ ⟨_, by simp [oneOf], f3, g3'⟩⟩
  · -- Slices
    simp [hk, ptr, hAi, hA6, e1, k4, k5]
    refine got_call (pSlice okA.1) ?_
    rintro v J1 ⟨p1, q1, s1, g1, f1⟩
    obtain ⟨e1', e2', e3', e4'⟩ := wl J1 g1
    simp [hAi, hA6, e4', e4, va, k4, k5, st J1 g1 4 _ rfl, st J1 g1 5 _ rfl]
    refine got_call (qSlice (okA.2.1.grow g1) okA.2.2) ?_
    rintro _ J2 ⟨hv, q2, rfl, o2, g2, f2⟩
    obtain ⟨q', fr⟩ := fresh_ph s1 g1 g2 f1 o2 (fun e => f2 e) (sliceO_le okA.2.2)
    obtain ⟨h3, e3, l3, g3', f3, -⟩ := made_end gH hHl r5 (g1.trans g2) fr
    simp [e3]
    exact ⟨_, ⟨_, res_cell3 (by decide) (by simp) l3 (by decide), rfl⟩, hQ _ _ ⟨_, by simp [oneOf], f3, g3'⟩⟩
  · -- Joins
    obtain ⟨m, hm⟩ : ∃ m, s.ss.length = m := ⟨_, rfl⟩
    have ls := S.ls
    rw [hm] at ls
    have rs := S.rs H (roH H gHH)
    obtain ⟨bb, cb, evb⟩ := rs.is_slice
    rw [List.length_map, hm] at evb
    simp [hk]
    let pl : Int → Pl := fun k => D (k % 6).toNat
    have hpl : ∀ k : Int, (k % 6).toNat < 6 := fun k => by omega
    refine go_loopK (fun kk ks h2 => ∃ (i : Nat) (u w : Value) (qu qw : Nat), kk = m - i ∧ i ≤ m ∧ ks = [(0, ptr x), (3, .pointer (some ⟨h.dyn.length, 0, some 0⟩)), (5, .pointer (some ⟨h.dyn.length + 1, 0, some 0⟩)), (22, u), (23, w), (24, .int .i64 i)] ∧
        Own h2 u qu (((s.ss.take i).map pl).map (·.v)) ∧ OwnN h2 w qw 2 i (cellsL ((s.ss.take i).map pl)) ∧ (u ≠ nilS → H.dyn.length ≤ qu ∧ qu < h2.dyn.length) ∧ (w ≠ nilS → H.dyn.length ≤ qw ∧ qw < h2.dyn.length) ∧ (u ≠ nilS → w ≠ nilS → qu ≠ qw) ∧ Grow H h2 ∧ TopS u) (n := m)
      ⟨0, nilS, nilS, 0, 0, rfl, by omega, rfl, by simpa [nilS] using Own.nil H 0, by simpa [cellsL, nilS] using OwnN.nil H 0 2, fun e => absurd rfl e, fun e => absurd rfl e, fun e => absurd rfl e, Chg.refl _, fun b n c e => by cases e; exact .inl rfl⟩ (by simp [nilS]) ?_
    rintro I hI kk ks e h2 ⟨i, u, w, qu, qw, rfl, hi, rfl, ou, ow, hqu, hqw, hne, gg, htop⟩
    have c9 := st h2 gg 9 _ rfl
    rw [evb] at c9
    have gl := gg.len
    simp [c9]
    refine branch_dec (fun hlt => ?_) (fun hge => ?_)
    · have hw1 : IntKind.i64.wrap ((i : Int) + 1) = ((i + 1 : Nat) : Int) := by rw [wrap_i64 (by omega) (by omega)]; omega
      have rss := S.rs h2 (roH h2 gg)
      rw [evb] at rss
      obtain ⟨_, _, ev8, k8⟩ := rss.shape
      simp only [List.length_map, hm, Value.slice.injEq] at ev8 k8
      obtain ⟨rfl, -, rfl⟩ := ev8
      obtain ⟨a8, rfl, hla⟩ := k8 i hlt
      obtain ⟨z, hz⟩ : ∃ z, s.ss[i]? = some z := ⟨_, List.getElem?_eq_getElem (by omega)⟩
      have ldb := hla i (.int .i64 z) (by rw [List.getElem?_map, hz]; rfl)
      simp [hlt, c9, ldb]
      refine got_call (pickW_spec z (n := 6) (by omega) (by omega)) ?_
      rintro _ _ ⟨rfl, hHe⟩
      have hHe := hHe.symm
      subst hHe
      have hz6 : (z % ((6 : Nat) : Int)).toNat = (z % 6).toNat := rfl
      simp only [hz6]
      obtain ⟨C, hC⟩ : ∃ C, (z % 6).toNat = C := ⟨_, rfl⟩
      have hC6 : C < 6 := by have := hpl z; omega
      have hCi : (C : Int) < 6 := by omega
      rw [hC]
      obtain ⟨x1, x2, x3, x4⟩ := (WH.grow gg.l).look hC6
      have okC := (WH.grow gg.l).ok C hC6
      have goodC' := okC.good
      obtain ⟨u', h3, qu', e3', o3, c3, l3, d3⟩ := ou.push (bytes := 8) (z := .pointer none) (x := (D C).v) goodC'.1 (by simp; omega) (by simp; omega)
      obtain ⟨tb, tn, et⟩ := aappend_top e3' rfl (by simp) htop
      have hu' : u' ≠ nilS := by rw [et]; simp [nilS, gcap]
      have c3l := c3.len
      have g3' : Grow H h3 := gg.after c3 fun b hb e => by have := hqu e.2; have := e.1; omega
      have ow3 := ow.chgN c3 fun hw e => hne e.2 hw e.1.symm
      have c9' := st h3 g3' 9 _ rfl
      rw [evb] at c9'
      have ldb' : hload h3 (aadd a8 i) = some (.int .i64 z) := by
        have rss := S.rs h3 (roH h3 g3')
        rw [evb] at rss
        obtain ⟨_, _, ev8, k8⟩ := rss.shape
        simp only [List.length_map, hm, Value.slice.injEq] at ev8 k8
        obtain ⟨rfl, -, rfl⟩ := ev8
        obtain ⟨a9, e9, hla⟩ := k8 i hlt
        cases e9
        exact hla i (.int .i64 z) (by rw [List.getElem?_map, hz]; rfl)
      simp [hCi, hC6, x1, ptr, goodC', e3', c9', ldb', hlt, pushP_in]
      refine got_call (pickW_spec z (n := 6) (by omega) (by omega)) ?_
      rintro _ _ ⟨rfl, hHe⟩
      have hHe := hHe.symm
      subst hHe
      simp only [hz6, hC]
      obtain ⟨y1, y2, y3, y4⟩ := (WH.grow g3'.l).look hC6
      obtain ⟨cvb, cvn, cvc, evh⟩ := okC.2.1.is_slice
      have vsC := vsame_hv (b := (D C).o.isSome) okC.2.1.is_slice
      obtain ⟨w', h4, qw', e4', o4, c4, l4, d4⟩ := ow3.push (bytes := 32) (z := [.bool false, .slice none 0 0]) (x := [.bool (D C).o.isSome, (D C).hv]) rfl rfl (by simp [goodC'.2]) (by omega) (by omega)
      have c4l := c4.len
      have g4' : Grow H h4 := g3'.after c4 fun b hb e => by have := hqw e.2; have := e.1; omega
      have qu'lt : H.dyn.length ≤ qu' ∧ qu' < h3.dyn.length := by
        rcases d3 with ⟨h1, h2⟩ | h1
        · have := hqu h2; omega
        · omega
      have hne3 : w ≠ nilS → qu' ≠ qw := fun hw => by
        have hwl := hqw hw
        rcases d3 with ⟨h1, h2⟩ | h1
        · have := hne h2 hw; omega
        · omega
      have htk : (s.ss.take (i + 1)).map pl = (s.ss.take i).map pl ++ [D C] := by
        rw [List.take_add_one, hz, Option.toList_some, List.map_append]
        congr 1
        simp only [List.map_cons, List.map_nil, pl, hC]
      have hcl : cellsL ((s.ss.take (i + 1)).map pl) = cellsL ((s.ss.take i).map pl) ++ [.bool (D C).o.isSome, (D C).hv] := by
        rw [htk]; simp [cellsL]
      rw [evh] at y4 vsC e4'
      have hfill : fillL [.bool false, .slice none 0 0] [(0, 2, .agg #[.bool (D C).o.isSome, .slice cvb cvn cvc])] = some [.bool (D C).o.isSome, .slice cvb cvn cvc] := rfl
      simp [hCi, hC6, y4, vsC, goodC', evh, e4', pushP_in, hw1, hfill]
      refine ⟨m - (i + 1), by omega, hI _ _ _ _ ⟨i + 1, u', w', qu', qw', rfl, by omega, rfl, ?_, ?_, fun _ => ⟨qu'lt.1, by omega⟩, fun hw' => ?_, fun _ hw' => ?_, g4', et ▸ TopS.full⟩ (by simp [ptr])⟩
      · rw [htk, List.map_append]
        exact o3.chg c4 fun e => hne3 e.2 e.1
      · rw [hcl]; exact o4
      · rcases d4 with ⟨h1, h2⟩ | h1
        · have := hqw h2; omega
        · omega
      · rcases d4 with ⟨h1, h2⟩ | h1
        · have := hne3 h2; omega
        · omega
    · have him : i = m := by omega
      subst him
      have htake : s.ss.take i = s.ss := by rw [← hm]; exact List.take_length
      rw [htake] at ou ow
      obtain ⟨S0, hS0⟩ : ∃ S0, s.ss.map pl = S0 := ⟨_, rfl⟩
      have hS0l : S0.length = i := by rw [← hS0]; simpa using hm
      rw [hS0] at ou ow
      have hokS : ∀ d ∈ S0, ∃ j, j < 6 ∧ d = D j := fun d hd => by
        rw [← hS0, List.mem_map] at hd
        obtain ⟨k, _, rfl⟩ := hd
        exact ⟨_, hpl k, rfl⟩
      have W2 := WH.grow gg.l
      obtain ⟨x1, x2, x3, x4⟩ := W2.look (i := 0) (by omega)
      have ok0 := W2.ok 0 (by omega)
      have g1n := Grow.new h2 [(D 0).v, nilP] 1
      have e0 : ((D 0).v :: [nilP]) = [(D 0).v, nilP] := rfl
      obtain ⟨v2, h3, q2, e3', o3, c3, l3, d3⟩ := (ou.grow g1n).app (bytes := 8) (z := .pointer none) (x := .slice (some ⟨h2.dyn.length, 0, some 0⟩) 2 2) (m := [(D 0).v, nilP]) (by simp) rfl
        (by simp only [firstN, List.length_cons, List.length_nil]; exact loadN_row_all (RowAt.new _ _ _) rfl) (by simp [ok0.good.1]) (by simp [hS0l]; omega) (by simp [hS0l]; omega)
      obtain ⟨tb, tn, et⟩ := aappend_top e3' rfl (by simp) htop
      have c3l := c3.len
      have g3' : Grow H h3 := (gg.trans g1n).after c3 fun b hb e => by have := hqu e.2; have := e.1; omega
      have ow3 := (ow.grow g1n).chgN c3 fun hw e => hne e.2 hw e.1.symm
      obtain ⟨v3, e5', rm⟩ := room_mk (l := S0.map (·.v)) (more := [(D 0).v, nilP]) o3 ⟨tb, tn, et⟩ rfl
      obtain ⟨u2, ev2, row2'⟩ := o3.full ⟨tb, tn, et⟩
      have hlen : (S0.map (·.v) ++ [(D 0).v, nilP]).length = i + 2 := by simp [hS0l]
      rw [hlen] at ev2
      subst ev2
      simp only [List.length_map, hS0l] at e5'
      have W3 := WH.grow g3'.l
      have ia0 : ∀ h : Heap, iadAR h 6 1 (.pointer (some ⟨x, 0, some 0⟩)) (.int .i64 0) = some (.pointer (some ⟨x, 0, some 0⟩), h) := fun h => rfl
      simp [x1, ptr, ok0.good.1, e3', ia0]
      refine got_call (qJoinO (S := S0) (by rw [hS0l]; exact ow3) (fun d hd => by obtain ⟨j, hj, rfl⟩ := hokS d hd; exact W3.ok j hj) (by omega) (fun d hd => by
        obtain ⟨j, hj, rfl⟩ := hokS d hd
        by_cases hv : (D j).hv = nilS
        · exact .inr hv
        · exact .inl (W3.hlt j hj hv).1)) ?_
      rintro _ J1 ⟨hv, q5, rfl, o5, g5', f5⟩
      obtain ⟨J2, e25, r25, l25, g25, c25, n25⟩ := row2 rfl (RowAt.new J1 [.bool false, .slice none 0 0] 0) (Grow.new J1 [.bool false, .slice none 0 0] 0) (Nat.le_refl _) (x := .bool (joinO S0).isSome) (y := hv) (by simp) o5.good
      have g5l := g5'.len
      have gJ2 := (g3'.trans g5').trans g25
      have hJ2l : J2.dyn.length = J1.dyn.length + 1 := by rw [n25]; simp
      obtain ⟨wb, wc, ew, -⟩ := ow3.shape
      have e5'' : ∀ h, aslice h 1 (.slice (some ⟨q2, 0, some u2⟩) (i + 2) gcap) none (some (.int .i64 i)) none = some v3 → True := fun _ _ => trivial
      subst ew
      have row4 := (row2'.grow g5').grow g25
      have rm2 : ∃ v4, aslice J2 1 (.slice (some ⟨q2, 0, some u2⟩) (i + 2) gcap) none (some (.int .i64 i)) none = some v4 ∧ Room J2 v4 q2 (S0.map (·.v)) [(D 0).v, nilP] := by
        have oJ := (o3.grow g5').grow g25
        have := room_mk (l := S0.map (·.v)) (more := [(D 0).v, nilP]) oJ ⟨_, _, rfl⟩ rfl
        simpa [hS0l] using this
      obtain ⟨v4, e6', rmJ⟩ := rm2
      simp [e25, e6']
      have W4 := WH.grow gJ2.l
      refine got_call (pJoinO (S := S0) rmJ.reads (fun d hd => by obtain ⟨j, hj, rfl⟩ := hokS d hd; exact W4.ok j hj) (by omega)) ?_
      rintro _ J3 ⟨w9, p9, q9, rfl, s9, g9, f9⟩
      have gJ3 := gJ2.trans g9
      have l25' := loadN_row_all (r25.grow g9) (n := 2) rfl
      have row5 := row4.grow g9
      have W5 := WH.grow gJ3.l
      obtain ⟨z1, z2, z3, z4⟩ := W5.look (i := 0) (by omega)
      have at0 : hload J3 ⟨q2, i, some u2⟩ = some (D 0).v := row5.get (by rw [List.getElem?_append_right (by simp [hS0l])]; simp [hS0l])
      have at1 : hload J3 ⟨q2, i + 1, some u2⟩ = some nilP := row5.get (by rw [List.getElem?_append_right (by simp [hS0l])]; simp [hS0l])
      have w1 : IntKind.i64.wrap ((i : Int) + 1) = ((i + 1 : Nat) : Int) := by rw [wrap_i64 (by omega) (by omega)]; omega
      have i0 : i < i + 2 := by omega
      have i1 : i + 1 < i + 2 := by omega
      have i0' : (i : Int) < (i : Int) + 2 := by omega
      have i1' : (i : Int) + 1 < (i : Int) + 2 := by omega
      have pe := fun (h : Heap) (xo yo : Operand) => eq_ptr (h := h) (ty := 24) (xo := xo) (yo := yo) ok0.1.ptrs
      have pn := fun (h : Heap) (xo yo : Operand) => eq_ptr (h := h) (ty := 24) (xo := xo) (yo := yo) (v := nilP) (.inl rfl)
      obtain ⟨q', fr⟩ := fresh_hp (h := h3) s9 (g5'.trans g25) g9 f9 (o5.grow g25) (fun e => by have := f5 e; exact ⟨this.1, by omega⟩) joinO_le
      have fr2 : Fresh H J3 _ := fr.later (h0 := H) (by have := g3'.len; omega) (S := fun _ => False) (Chg.refl J3) fun b e => e.elim
      obtain ⟨h9, e9, l9, g9', f9', c9'⟩ := made_end gH hHl r5 gJ3 fr2
      have hq2H : H.dyn.length ≤ q2 := by
        rcases d3 with ⟨h1, h2⟩ | h1
        · have := hqu h2; omega
        · rw [h1]; simp; omega
      have at1' : hload h9 ⟨q2, i + 1, some u2⟩ = some nilP := (row5.chg c9' (by omega)).get (by rw [List.getElem?_append_right (by simp [hS0l])]; simp [hS0l])
      obtain ⟨n1, hn1⟩ : ∃ z, i + 1 = z := ⟨_, rfl⟩
      obtain ⟨n2, hn2⟩ : ∃ z, i + 2 = z := ⟨_, rfl⟩
      rw [hn1] at w1 at1 at1' i1
      rw [hn2] at i0 i1
      simp only [hn2]
      simp [l25', at0, at1, at1', w1, i0, i1, z1, pe, pn, e9, ia0, pushP_in]
      exact ⟨same_nil (by simp), _, ⟨_, res_cell3 (by decide) (by simp) l9 (by decide), rfl⟩, hQ _ _ ⟨_, by simp [oneOf], f9', g9'⟩⟩

end Go.Ax
