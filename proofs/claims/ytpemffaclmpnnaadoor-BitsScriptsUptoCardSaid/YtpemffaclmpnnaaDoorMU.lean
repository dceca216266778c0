/- The machine: what an append leaves as it was. -/
import Derived.Test.YtpemffaclmpnnaaDoorMT
namespace Go.Ax
set_option linter.unusedVariables false
set_option linter.unusedSimpArgs false

/-- Whatever could be read stays, but block q from n on (and there, in a slice of known room, elder versions). -/
def Keeps (q n : Nat) (v : Value) (h h' : Heap) : Prop :=
  ∀ a x, hload h a = some x → (a.spot ≠ none → a.block = q → a.off < n ∧ ∀ u m c, v = .slice (some ⟨q, 0, some u⟩) m c → c < gcap → a.spot = some u) → hload h' a = some x

theorem Keeps.of_grow {q n : Nat} {v : Value} {h h' : Heap} (g : Grow h h') : Keeps q n v h h' := fun a x e _ => hload_grow g e

theorem Keeps.after {q n : Nat} {v : Value} {h h1 h' : Heap} (g : Grow h h1) (k : Keeps q n v h1 h') : Keeps q n v h h' := fun a x e c => k a x (hload_grow g e) c

theorem storeN_keep : ∀ (m : List Value) {h h' : Heap} {q u o : Nat}, storeN h ⟨q, o, some u⟩ m = some h' → ∀ a x, hload h a = some x → (a.spot ≠ none → a.block = q → a.off < o ∧ a.spot = some u) → hload h' a = some x
  | [], h, h', q, u, o, e, a, x, hx, hc => by simp [storeN] at e; subst e; exact hx
  | y :: m, h, h', q, u, o, e, a, x, hx, hc => by
    simp only [storeN] at e
    cases hs : hstore h ⟨q, o, some u⟩ y with
    | none => rw [hs] at e; simp at e
    | some h1 =>
      rw [hs] at e
      simp only at e
      refine storeN_keep m (h := h1) (q := q) (u := u) (o := o + 1) (by simpa [aadd] using e) a x ?_ (fun h1 h2 => ⟨by have := (hc h1 h2).1; omega, (hc h1 h2).2⟩)
      simp only [hstore] at hs
      cases hk : h.dyn[q]? with
      | none => rw [hk] at hs; simp at hs
      | some k =>
        rw [hk] at hs
        simp only at hs
        split at hs
        · rename_i hcond
          simp only [Option.some.injEq] at hs
          subst hs
          unfold hload at hx ⊢
          cases ha : a.spot with
          | none => rw [ha] at hx; exact hx
          | some w =>
            rw [ha] at hx
            simp only at hx ⊢
            have hq : q < h.dyn.length := (List.getElem?_eq_some_iff.1 hk).1
            by_cases hb : a.block = q
            · obtain ⟨c1, c2⟩ := hc (by rw [ha]; simp) hb
              rw [ha] at c2
              simp only [Option.some.injEq] at c2
              subst c2
              rw [hb, hk] at hx
              rw [hb, List.getElem?_set_self hq]
              simp only at hx ⊢
              split at hx
              · rename_i h5
                rw [if_pos ⟨Nat.le_refl _, h5.2⟩, List.getElem?_set_ne (by omega)]; exact hx
              · cases hx
            · rw [List.getElem?_set_ne (fun e => hb e.symm)]; exact hx
        · cases hs

theorem Own.app_keep {h h' : Heap} {v v' : Value} {q : Nat} {l : List Value} (o : Own h v q l) {bytes : Nat} {z : Value} {x : Value} {m : List Value} (hm : m ≠ []) (hx : slen x = some m.length) (hf : firstN h 1 m.length x = some m)
    (hg : m.all goodC = true) (e : aappend h 1 bytes [z] v x = some (v', h')) : Keeps q l.length v h h' := by
  have hp : 0 < m.length := List.length_pos_iff.2 hm
  rcases o with ⟨rfl, rfl⟩ | ⟨u, rfl, r⟩ | ⟨u, rest, rfl, hc, r⟩
  · simp only [aappend, hx, hf] at e
    rw [if_neg (by omega), if_neg (show ¬ ([z].length ≠ 1 ∨ m.length ≠ m.length * 1 ∨ m.all goodC = false) by rw [hg]; simp)] at e
    simp only [appNew, Nat.zero_add, List.nil_append] at e
    rw [if_pos (by simp)] at e
    split at e
    · cases e; exact Keeps.of_grow (Grow.new _ _ _)
    · cases e
  · obtain ⟨k, hk, rfl, h2, h3, h4, h5⟩ := r.ex
    simp only [aappend, hx, hf] at e
    rw [if_neg (by omega), if_neg (show ¬ ([z].length ≠ 1 ∨ m.length ≠ m.length * 1 ∨ m.all goodC = false) by rw [hg]; simp)] at e
    simp only [Nat.mul_one, hk] at e
    rw [if_neg (Nat.lt_irrefl _)] at e
    split at e
    · rw [if_pos ⟨h2.symm, h5, trivial, h4⟩] at e
      cases e
      intro a y hy hcond
      unfold hload at hy ⊢
      cases ha : a.spot with
      | none => rw [ha] at hy; exact hy
      | some w =>
        rw [ha] at hy
        simp only at hy ⊢
        by_cases hb : a.block = q
        · rw [hb, hk] at hy
          rw [hb, List.getElem?_set_self r.lt]
          simp only at hy ⊢
          split at hy
          · rename_i h6
            have hw : w < k.sizes.length := by
              apply Classical.byContradiction
              intro hn
              rw [List.getD_eq_getElem?_getD, List.getElem?_eq_none (by omega)] at h6
              exact absurd h6.2 (by simp)
            have hsz : (k.sizes ++ [k.cells.length + m.length]).getD w 0 = k.sizes.getD w 0 := by
              rw [List.getD_eq_getElem?_getD, List.getD_eq_getElem?_getD, List.getElem?_append_left hw]
            have hoff := (List.getElem?_eq_some_iff.1 hy).1
            rw [hsz, if_pos h6, List.getElem?_append_left hoff]; exact hy
          · cases hy
        · rw [List.getElem?_set_ne (fun e => hb e.symm)]; exact hy
    · cases e
  · simp only [aappend, hx, hf] at e
    rw [if_neg (by omega), if_neg (show ¬ ([z].length ≠ 1 ∨ m.length ≠ m.length * 1 ∨ m.all goodC = false) by rw [hg]; simp)] at e
    simp only [Nat.mul_one] at e
    rw [if_pos hc] at e
    split at e
    · split at e
      · rename_i h1 hst
        cases e
        intro a y hy hcond
        refine storeN_keep m (by simpa [aadd] using hst) a y hy fun h1 h2 => ?_
        obtain ⟨c1, c2⟩ := hcond h1 h2
        exact ⟨c1, c2 u _ _ rfl hc⟩
      · cases e
    · split at e
      · simp only [appNew] at e
        split at e
        · cases e; exact Keeps.of_grow (Grow.new _ _ _)
        · cases e
      · cases e

theorem Own.push_keep {h h' : Heap} {v v' : Value} {q : Nat} {l : List Value} (o : Own h v q l) {bytes : Nat} {z : Value} {x : Value} (hg : goodC x = true)
    (e : aappend (hnew h [x] 1) 1 bytes [z] v (.slice (some ⟨h.dyn.length, 0, some 0⟩) 1 1) = some (v', h')) : Keeps q l.length v h h' :=
  .after (Grow.new h [x] 1) ((o.grow (Grow.new h [x] 1)).app_keep (m := [x]) (by simp) rfl (by simp only [firstN, List.length_singleton, Nat.one_mul]; exact loadN_row_all (RowAt.new _ _ _) rfl) (by simp [hg]) e)

end Go.Ax
