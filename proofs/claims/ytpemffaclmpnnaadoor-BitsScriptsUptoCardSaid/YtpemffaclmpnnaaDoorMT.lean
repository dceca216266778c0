/- The machine: slices with known room behind them. -/
import Derived.Test.YtpemffaclmpnnaaDoorMS
namespace Go.Ax
set_option linter.unusedVariables false
set_option linter.unusedSimpArgs false

/-- A slice that an append of something makes anew. -/
def TopS (v : Value) : Prop := ∀ b n c, v = .slice b n c → b = none ∨ c = gcap ∨ c ≤ n

theorem aappend_top {h h' : Heap} {es bytes n : Nat} {zero : List Value} {v x v' : Value} (e : aappend h es bytes zero v x = some (v', h')) (hn : slen x = some n) (h0 : n ≠ 0) (ht : TopS v) : ∃ b m, v' = .slice b m gcap := by
  cases v with
  | slice b len c =>
    simp only [aappend, hn] at e
    split at e
    · cases e
    · rw [if_neg h0] at e
      split at e
      · cases e
      · cases b with
        | none =>
          simp only [appNew] at e
          split at e
          · split at e
            · cases e; exact ⟨_, _, rfl⟩
            · cases e
          · cases e
        | some a =>
          simp only at e
          by_cases hc : c < gcap
          · rw [if_pos hc] at e
            have hcn : c ≤ len := by rcases ht _ _ _ rfl with h | h | h; cases h; omega; exact h
            rw [if_neg (by omega)] at e
            split at e
            · simp only [appNew] at e
              split at e
              · cases e; exact ⟨_, _, rfl⟩
              · cases e
            · cases e
          · rw [if_neg hc] at e
            split at e
            · split at e
              · cases e
              · split at e
                · split at e
                  · cases e; exact ⟨_, _, rfl⟩
                  · cases e
                · cases e
            · cases e
  | _ => simp [aappend] at e

theorem TopS.full {b : Option Addr} {n : Nat} : TopS (.slice b n gcap) := fun _ _ _ e => by cases e; exact .inr (.inl rfl)

theorem Own.full {h : Heap} {v : Value} {q : Nat} {l : List Value} (o : Own h v q l) (ht : ∃ b n, v = .slice b n gcap) : ∃ u, v = .slice (some ⟨q, 0, some u⟩) l.length gcap ∧ RowAt h q u 1 l := by
  obtain ⟨b, n, rfl⟩ := ht
  rcases o with ⟨e, _⟩ | o | ⟨u, rest, e, hc, _⟩
  · simp [gcap] at e
  · exact o
  · simp only [Value.slice.injEq] at e; omega

/-- A slice, and what stands behind it. -/
def Room (h : Heap) (v : Value) (q : Nat) (l more : List Value) : Prop := ∃ u, v = .slice (some ⟨q, 0, some u⟩) l.length gcap ∧ RowAt h q u 1 (l ++ more)

theorem Room.chg {S : Nat → Prop} {h h' : Heap} {v : Value} {q : Nat} {l more : List Value} (o : Room h v q l more) (k : Chg S h h') (hs : ¬ S q) : Room h' v q l more := by
  obtain ⟨u, h1, h2⟩ := o
  exact ⟨u, h1, h2.chg k hs⟩
theorem Room.grow {h h' : Heap} {v : Value} {q : Nat} {l more : List Value} (o : Room h v q l more) (k : Grow h h') : Room h' v q l more := o.chg k id
theorem Room.lt {h : Heap} {v : Value} {q : Nat} {l more : List Value} (o : Room h v q l more) : q < h.dyn.length := by
  obtain ⟨u, h1, h2⟩ := o
  exact h2.lt

theorem Room.reads {h : Heap} {v : Value} {q : Nat} {l more : List Value} (o : Room h v q l more) : Reads h v l := by
  obtain ⟨u, rfl, r⟩ := o
  refine .inr ⟨_, _, rfl, fun i x hx => ?_⟩
  have hi := (List.getElem?_eq_some_iff.1 hx).1
  simpa using r.get (i := i) (x := x) (by rw [List.getElem?_append_left hi]; exact hx)

theorem RowAt.esOk {h : Heap} {q u : Nat} {l : List Value} (r : RowAt h q u 1 l) (o : Nat) : esOk h 1 ⟨q, o, some u⟩ = true := by
  obtain ⟨k, hk, _, _, _, _, h5⟩ := r.ex
  simp [Ax.esOk, hk, h5]

theorem RowAt.topOf {h : Heap} {q u n : Nat} {l : List Value} (r : RowAt h q u 1 l) : topOf h 1 ⟨q, 0, some u⟩ n = l.length := by
  obtain ⟨k, hk, rfl, h2, h3, h4, h5⟩ := r.ex
  simp only [Ax.topOf, hk]
  rw [if_pos ⟨h2.symm, h5, by omega, h4⟩]; simp

/-- Reaching into the room. -/
theorem Room.reach {h : Heap} {v : Value} {q : Nat} {l more : List Value} (o : Room h v q l more) {n : Nat} (hn : n = l.length + more.length) :
    ∃ v2, aslice h 1 v none (some (.int .i64 n)) none = some v2 ∧ Reads h v2 (l ++ more) := by
  obtain ⟨u, rfl, r⟩ := o
  refine ⟨.slice (some ⟨q, 0, some u⟩) (l ++ more).length gcap, ?_, .inr ⟨_, _, rfl, fun i x hx => by simpa using r.get hx⟩⟩
  have ht := r.topOf (n := l.length)
  subst hn
  simp only [aslice, Nat.lt_irrefl, ↓reduceIte, Option.isSome_none, Bool.false_eq_true, ne_eq, not_true_eq_false, Option.isNone_some, ht, optBound, asliceBound, List.length_append]
  rw [if_pos (by omega)]
  simp
  omega

/-- Making room: a list cut short. -/
theorem room_mk {h : Heap} {v : Value} {q : Nat} {l more : List Value} {c : List Value} (o : Own h v q c) (ht : ∃ b n, v = .slice b n gcap) (hc : c = l ++ more) :
    ∃ v2, aslice h 1 v none (some (.int .i64 l.length)) none = some v2 ∧ Room h v2 q l more := by
  subst hc
  obtain ⟨u, rfl, r⟩ := o.full ht
  refine ⟨.slice (some ⟨q, 0, some u⟩) l.length gcap, ?_, u, rfl, r⟩
  simp only [aslice, Nat.lt_irrefl, ↓reduceIte, Option.isSome_none, Bool.false_eq_true, ne_eq, not_true_eq_false, Option.isNone_some, optBound, asliceBound, List.length_append]
  rw [if_pos (by omega)]
  simp

theorem Room.set {h : Heap} {v : Value} {q : Nat} {l more : List Value} (o : Room h v q l more) {i : Nat} (hi : i < l.length) {x : Value} (hg : goodC x = true) :
    ∃ u h', v = .slice (some ⟨q, 0, some u⟩) l.length gcap ∧ hstore h ⟨q, i, some u⟩ x = some h' ∧ Room h' v q (l.set i x) more ∧ Chg (· = q) h h' ∧ h'.dyn.length = h.dyn.length := by
  obtain ⟨u, rfl, r⟩ := o
  obtain ⟨h', e, r', c', n'⟩ := r.store (i := i) (by simp; omega) hg
  rw [List.set_append_left _ _ hi] at r'
  exact ⟨u, h', rfl, e, ⟨u, by simp, r'⟩, c', n'⟩

end Go.Ax
