/- The machine: lists of the program's own whose elements have several cells. -/
import Derived.Test.YtpemffaclmpnnaaDoorMW
namespace Go.Ax
set_option linter.unusedVariables false
set_option linter.unusedSimpArgs false

/-- A list of n elements of es cells each, grown by appends; q: its block. -/
def OwnN (h : Heap) (v : Value) (q es n : Nat) (cells : List Value) : Prop :=
  cells.length = n * es ∧ ((v = .slice none 0 0 ∧ n = 0) ∨ ∃ u, v = .slice (some ⟨q, 0, some u⟩) n gcap ∧ RowAt h q u es cells)

theorem OwnN.nil (h : Heap) (q es : Nat) : OwnN h (.slice none 0 0) q es 0 [] := ⟨by simp, .inl ⟨rfl, rfl⟩⟩

theorem OwnN.chg {S : Nat → Prop} {h h' : Heap} {v : Value} {q es n : Nat} {l : List Value} (o : OwnN h v q es n l) (k : Chg S h h') (hs : ¬ S q) : OwnN h' v q es n l := by
  obtain ⟨h1, o | ⟨u, h2, h3⟩⟩ := o
  · exact ⟨h1, .inl o⟩
  · exact ⟨h1, .inr ⟨u, h2, h3.chg k hs⟩⟩

theorem OwnN.grow {h h' : Heap} {v : Value} {q es n : Nat} {l : List Value} (o : OwnN h v q es n l) (k : Grow h h') : OwnN h' v q es n l := o.chg k id

theorem OwnN.shape {h : Heap} {v : Value} {q es n : Nat} {l : List Value} (o : OwnN h v q es n l) : ∃ b c, v = .slice b n c ∧ (0 < n → ∃ u, b = some ⟨q, 0, some u⟩ ∧ RowAt h q u es l) := by
  obtain ⟨h1, ⟨rfl, rfl⟩ | ⟨u, rfl, r⟩⟩ := o
  · exact ⟨none, 0, rfl, fun h => by omega⟩
  · exact ⟨_, _, rfl, fun _ => ⟨u, rfl, r⟩⟩

theorem OwnN.good {h : Heap} {v : Value} {q es n : Nat} {l : List Value} (o : OwnN h v q es n l) : goodC v = true := by
  obtain ⟨b, c, rfl, _⟩ := o.shape; simp

/-- Appending what can be read: at least one element. -/
theorem OwnN.app {h : Heap} {v : Value} {q es n : Nat} {l : List Value} (o : OwnN h v q es n l) {bytes m : Nat} {z : List Value} {x : Value} {new : List Value} (hm : 0 < m) (hz : z.length = es) (hx : slen x = some m) (hf : firstN h es m x = some new) (hn : new.length = m * es)
    (hg : new.all goodC = true) (hb : (n + m) * bytes ≤ 140737488355328) (hb' : n + m ≤ 140737488355328) :
    ∃ v' h' q', aappend h es bytes z v x = some (v', h') ∧ OwnN h' v' q' es (n + m) (l ++ new) ∧ Chg (fun b => b = q ∧ v ≠ .slice none 0 0) h h' ∧ q' < h'.dyn.length ∧ (q' = q ∧ v ≠ .slice none 0 0 ∨ q' = h.dyn.length) := by
  obtain ⟨hl, ⟨rfl, rfl⟩ | ⟨u, rfl, r⟩⟩ := o
  · simp only [aappend, hx, hf]
    rw [if_neg (by omega), if_neg (show ¬ (z.length ≠ es ∨ new.length ≠ m * es ∨ new.all goodC = false) by rw [hg, hz, hn]; simp)]
    simp only [Nat.zero_add] at hb hb'
    have : l = [] := List.length_eq_zero_iff.1 (by simpa using hl)
    subst this
    simp only [appNew, Nat.zero_add, List.nil_append]
    rw [if_pos (by simp), if_pos ⟨hb, hb'⟩]
    exact ⟨_, _, h.dyn.length, rfl, ⟨hn, .inr ⟨0, rfl, RowAt.new _ _ _⟩⟩, (Grow.new _ _ _).chg, by simp, .inr rfl⟩
  · obtain ⟨k, hk, rfl, h2, h3, h4, h5⟩ := r.ex
    simp only [aappend, hx, hf]
    rw [if_neg (by omega), if_neg (show ¬ (z.length ≠ es ∨ new.length ≠ m * es ∨ new.all goodC = false) by rw [hg, hz, hn]; simp)]
    simp only [hk]
    rw [if_neg (Nat.lt_irrefl _), if_pos ⟨trivial, trivial, hb, hb'⟩, if_pos ⟨h2.symm, h5, hl.symm, h4⟩]
    refine ⟨_, _, q, rfl, ⟨by simp only [List.length_append, hn, hl, Nat.add_mul], .inr ⟨u + 1, rfl, ⟨{ k with cells := k.cells ++ new, sizes := k.sizes ++ [(n + m) * es] }, ?_, rfl, by simp [h2], ?_, by simp; omega, h5⟩⟩⟩, ?_, by simpa using r.lt, .inl ⟨rfl, by simp⟩⟩
    · simp only; rw [List.getElem?_set_self r.lt]
    · simp only; rw [List.getElem?_append_right (by omega), h2]; simp only [Nat.sub_self, List.getElem?_cons_zero, List.length_append, hn, hl, Nat.add_mul]
    · exact ⟨rfl, rfl, by simp, fun b hb hs => by simp only; rw [List.getElem?_set_ne (fun e => hs ⟨e.symm, by simp⟩)]⟩

/-- One element more. -/
theorem OwnN.push {h : Heap} {v : Value} {q es n : Nat} {l : List Value} (o : OwnN h v q es n l) {bytes : Nat} {z x : List Value} (hz : z.length = es) (hx : x.length = es) (hg : x.all goodC = true) (hb : (n + 1) * bytes ≤ 140737488355328) (hb' : n + 1 ≤ 140737488355328) :
    ∃ v' h' q', aappend (hnew h x es) es bytes z v (.slice (some ⟨h.dyn.length, 0, some 0⟩) 1 1) = some (v', h') ∧ OwnN h' v' q' es (n + 1) (l ++ x) ∧ Chg (fun b => b = q ∧ v ≠ .slice none 0 0) h h' ∧ q' < h'.dyn.length ∧ (q' = q ∧ v ≠ .slice none 0 0 ∨ q' = h.dyn.length + 1) := by
  obtain ⟨v', h', q', e, o', c', l', d'⟩ := (o.grow (Grow.new h x es)).app (bytes := bytes) (z := z) (x := .slice (some ⟨h.dyn.length, 0, some 0⟩) 1 1) (m := 1) (new := x) (by omega) hz rfl
    (by simp only [firstN]; exact loadN_row_all (RowAt.new _ _ _) (by omega)) (by omega) hg hb hb'
  exact ⟨v', h', q', e, o', (Grow.new _ _ _).chg.trans c', l', by simpa using d'⟩

/-- Reading a cell of an element. -/
theorem OwnN.get {h : Heap} {v : Value} {q es n : Nat} {l : List Value} (o : OwnN h v q es n l) {i : Nat} {x : Value} (hx : l[i]? = some x) (hi : i < n * es) : ∃ u, v = .slice (some ⟨q, 0, some u⟩) n gcap ∧ hload h ⟨q, i, some u⟩ = some x := by
  obtain ⟨hl, ⟨rfl, rfl⟩ | ⟨u, rfl, r⟩⟩ := o
  · omega
  · exact ⟨u, rfl, r.get hx⟩

end Go.Ax
