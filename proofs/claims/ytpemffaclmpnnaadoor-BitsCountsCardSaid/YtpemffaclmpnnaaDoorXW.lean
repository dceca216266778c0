/- An abstract machine for Go programs: a block that grows, against the model's append. -/
import Derived.Test.YtpemffaclmpnnaaDoorXU
namespace Go.Ax
set_option linter.unusedVariables false
set_option linter.unusedSimpArgs false

section
variable {P : Program} {B : Nat} {g : Ghost} {h : Heap} {w : World} {ρ ρ' : Operand → Value}

theorem extend_sound {w' : World} (R : Rel P B g h w) {b v : Nat} {k : Blk} (hk : h.dyn[b]? = some k) (hv : v + 1 = k.sizes.length) (hd : k.dead ≤ v)
    {r : Nat} {c : Array Value} {e : TypeId} {f : Nat × Nat} (hsz : w.heap.size ≤ w'.heap.size) (hsame : ∀ i, i ≠ r → i < w.heap.size → w'.heap[i]? = w.heap[i]?)
    (hr : w'.heap[r]? = some (.cells c e f)) (hf : FzOk k.es c.size f) (hB : B ≤ r) (hlt : r < w'.heap.size)
    (own : w.heap.size ≤ r ∨ (g.m b v = some r ∧ ∃ c0 e0 f0, w.heap[r]? = some (.cells c0 e0 f0) ∧ f0 = f ∧ c.size = c0.size ∧ ∀ j, j < k.cells.length → c[j]? = c0[j]?))
    (new : List Value) (hc : (k.cells ++ new).length ≤ c.size) (rel : ∀ (j : Nat) (x : Value), (k.cells ++ new)[j]? = some x → ∃ y, c[j]? = some y ∧ VRel g x y)
    (hos : w'.os = w.os) (htape : w'.tape = w.tape) (hout : w'.output = w.output) :
    ∃ g', Rel P B g' { h with dyn := h.dyn.set b { k with cells := k.cells ++ new, sizes := k.sizes ++ [(k.cells ++ new).length] } } w' ∧ Ext g w g' w' ∧
      g'.m b (v + 1) = some r ∧ g'.room b (v + 1) = c.size ∧ g'.es b = k.es := by
  have K := R.blk _ _ hk
  have hbl : b < h.dyn.length := by
    rcases Nat.lt_or_ge b h.dyn.length with h' | h'
    · exact h'
    · rw [List.getElem?_eq_none h'] at hk; simp at hk
  have hnone : g.m b (v + 1) = none := by
    cases hm : g.m b (v + 1) with
    | none => rfl
    | some q =>
      obtain ⟨⟨k', hk', hv'⟩, _⟩ := R.dom _ _ _ hm
      rw [hk] at hk'; simp only [Option.some.injEq] at hk'; subst hk'; omega
  let g' : Ghost := { g with
    m := fun b' v' => if b' = b ∧ v' = v + 1 then some r else g.m b' v'
    room := fun b' v' => if b' = b ∧ v' = v + 1 then c.size else g.room b' v' }
  have gm : ∀ b' v' q, g.m b' v' = some q → g'.m b' v' = some q := by
    intro b' v' q hm; show (if _ then _ else _) = _
    rw [if_neg (fun ⟨e1, e2⟩ => by rw [e1, e2, hnone] at hm; simp at hm)]; exact hm
  have G : Gle g g' := by
    refine ⟨gm, ?_, fun _ _ _ _ => rfl, rfl, fun _ _ h => h⟩
    intro b' v' q hm; show (if _ then _ else _) = _
    rw [if_neg (fun ⟨e1, e2⟩ => by rw [e1, e2, hnone] at hm; simp at hm)]
  have hnm : ∀ b' v' q, g'.m b' v' = some q → g.m b' v' = some q ∨ (b' = b ∧ v' = v + 1 ∧ q = r) := by
    intro b' v' q hm
    have hm' : (if b' = b ∧ v' = v + 1 then some r else g.m b' v') = some q := hm
    split at hm'
    · rename_i hh; simp only [Option.some.injEq] at hm'; exact .inr ⟨hh.1, hh.2, hm'.symm⟩
    · exact .inl hm'
  -- another block never is r
  have other : ∀ b' v' q, g.m b' v' = some q → b' ≠ b → q ≠ r := by
    intro b' v' q hm hne e
    subst e
    rcases own with h1 | ⟨h1, _⟩
    · have := (R.dom _ _ _ hm).2.2; omega
    · exact hne (R.inj _ _ _ _ _ hm h1)
  have lpne : ∀ l q, g.lp l = some q → q ≠ r := by
    intro l q hl e
    subst e
    obtain ⟨_, _, h4, L, hL⟩ := R.lpdom _ _ hl
    rcases own with h1 | ⟨_, c0, e0, f0, h2, _⟩
    · omega
    · rw [hL] at h2; simp at h2
  refine ⟨g', ?_, ?_, ?_, ?_, ?_⟩
  · constructor
    · exact Nat.le_trans R.base hsz
    · intro b' k' hk'
      simp only at hk'
      by_cases hb : b = b'
      · subst hb
        rw [List.getElem?_set_self hbl] at hk'
        simp only [Option.some.injEq] at hk'
        subst hk'
        refine ⟨by simp, by simp, ?_, K.es, ?_, ?_⟩
        · intro v' s hs'
          simp only at hs' ⊢
          by_cases hv' : v' < k.sizes.length
          · rw [List.getElem?_append_left hv'] at hs'
            have := K.le _ _ hs'; simp; omega
          · rw [List.getElem?_append_right (by omega)] at hs'
            cases hq : v' - k.sizes.length with
            | zero => rw [hq] at hs'; simp at hs'; simp; omega
            | succ z => rw [hq] at hs'; simp at hs'
        · intro v' hv'
          simp at hv'
          by_cases h1 : v' < k.sizes.length
          · obtain ⟨q, hq⟩ := K.all v' h1; exact ⟨q, gm _ _ _ hq⟩
          · have : v' = v + 1 := by omega
            exact ⟨r, by show (if _ then _ else _) = _; rw [if_pos ⟨rfl, this⟩]⟩
        · intro v' s hd' hs'
          simp only at hd' hs'
          by_cases hv' : v' < k.sizes.length
          · rw [List.getElem?_append_left hv'] at hs'
            have hsl := K.le _ _ hs'
            obtain ⟨r2, c2, e2, f2, hm2, hh2, hf2, hroom2, hle2, hcell2⟩ := K.at_ v' s hd' hs'
            have hr2 := (R.dom _ _ _ hm2).2.2
            have hcell3 : ∀ (j : Nat) (x : Value), j < s → (k.cells ++ new)[j]? = some x → ∃ y, c2[j]? = some y ∧ VRel g' x y := by
              intro j x hj hx
              rw [List.getElem?_append_left (by omega)] at hx
              obtain ⟨y, hy, hxy⟩ := hcell2 j x hj hx
              exact ⟨y, hy, hxy.mono G⟩
            by_cases hrr : r2 = r
            · subst hrr
              rcases own with h1 | ⟨h1, c0, e0, f0, h2, h3, h4, h5⟩
              · omega
              · rw [hh2] at h2; simp only [Option.some.injEq, Obj.cells.injEq] at h2
                obtain ⟨rfl, rfl, rfl⟩ := h2
                refine ⟨r2, c, e, f, gm _ _ _ hm2, hr, hf, ?_, by omega, fun j x hj hx => ?_⟩
                · rw [h4, hroom2]; exact (G.room _ _ _ hm2).symm
                · obtain ⟨y, hy, hxy⟩ := hcell3 j x hj hx
                  exact ⟨y, by rw [h5 j (by omega)]; exact hy, hxy⟩
            · exact ⟨r2, c2, e2, f2, gm _ _ _ hm2, by rw [hsame r2 hrr hr2]; exact hh2, hf2, by rw [hroom2]; exact (G.room _ _ _ hm2).symm, hle2, hcell3⟩
          · rw [List.getElem?_append_right (by omega)] at hs'
            have hvq : v' = v + 1 := by
              rcases Nat.lt_or_ge (v' - k.sizes.length) 1 with h1 | h1
              · omega
              · rw [List.getElem?_eq_none (by simpa using h1)] at hs'; simp at hs'
            subst hvq
            have : v + 1 - k.sizes.length = 0 := by omega
            rw [this] at hs'; simp at hs'; subst hs'
            refine ⟨r, c, e, f, by show (if _ then _ else _) = _; rw [if_pos ⟨rfl, rfl⟩], hr, hf, by show _ = (if _ then _ else _); rw [if_pos ⟨rfl, rfl⟩], by simpa using hc, fun j x hj hx => ?_⟩
            obtain ⟨y, hy, hxy⟩ := rel j x hx
            exact ⟨y, hy, hxy.mono G⟩
      · rw [List.getElem?_set_ne hb] at hk'
        have K' := R.blk _ _ hk'
        refine ⟨K'.ne, K'.last, K'.le, K'.es, fun v' hv' => ?_, ?_⟩
        · obtain ⟨q, hq⟩ := K'.all v' hv'; exact ⟨q, gm _ _ _ hq⟩
        · intro v' s hd' hs'
          obtain ⟨r2, c2, e2, f2, hm2, hh2, hf2, hroom2, hle2, hcell2⟩ := K'.at_ v' s hd' hs'
          refine ⟨r2, c2, e2, f2, gm _ _ _ hm2, by rw [hsame r2 (other _ _ _ hm2 (Ne.symm hb)) (R.dom _ _ _ hm2).2.2]; exact hh2, hf2, by rw [hroom2]; exact (G.room _ _ _ hm2).symm, hle2, fun j x hj hx => ?_⟩
          obtain ⟨y, hy, hxy⟩ := hcell2 j x hj hx
          exact ⟨y, hy, hxy.mono G⟩
    · intro b' v' q hm
      rcases hnm b' v' q hm with h1 | ⟨rfl, rfl, rfl⟩
      · obtain ⟨⟨k', hk', hv'⟩, h2, h3⟩ := R.dom b' v' q h1
        refine ⟨?_, h2, by omega⟩
        by_cases hb : b = b'
        · subst hb
          rw [hk] at hk'; simp only [Option.some.injEq] at hk'; subst hk'
          exact ⟨_, List.getElem?_set_self hbl, by simp; omega⟩
        · exact ⟨k', by simp only; rw [List.getElem?_set_ne hb]; exact hk', hv'⟩
      · exact ⟨⟨_, List.getElem?_set_self hbl, by simp; omega⟩, hB, hlt⟩
    · intro b1 v1 q b2 v2 h1 h2
      rcases hnm b1 v1 q h1 with k1 | ⟨d1, _, e1⟩ <;> rcases hnm b2 v2 q h2 with k2 | ⟨d2, _, e2⟩
      · exact R.inj _ _ _ _ _ k1 k2
      · by_cases hq : b1 = b
        · rw [hq, d2]
        · exact (other _ _ _ k1 hq e2).elim
      · by_cases hq : b2 = b
        · rw [hq, d1]
        · exact (other _ _ _ k2 hq e1).elim
      · rw [d1, d2]
    · intro b' o x hx
      obtain ⟨h1, y, hy, hxy⟩ := R.ro b' o x hx
      refine ⟨h1, y, ?_, hxy.mono G⟩
      rw [← hy]
      exact World.cell?_of_block (w := w) (hsame _ (by show (roA g b').block ≠ r; omega) (Nat.lt_of_lt_of_le h1 R.base))
    · intro l p hp
      obtain ⟨r2, L, hl, hL⟩ := R.lps l p hp
      exact ⟨r2, L, hl, by rw [hsame r2 (lpne _ _ hl) (R.lpdom _ _ hl).2.2.1]; exact hL.at_, hL.state, hL.pend, hL.tmps.mono G, hL.params, hL.assign, hL.body⟩
    · intro l r2 hl
      obtain ⟨h2, h3, h4, L, hL⟩ := R.lpdom l r2 hl
      exact ⟨h2, h3, by omega, L, by rw [hsame r2 (lpne _ _ hl) h4]; exact hL⟩
    · exact R.lpinj
  · refine ⟨G, ?_, hsz, ?_, hos, htape, hout⟩
    · intro q hq
      rcases hq with ⟨b', v', hm⟩ | ⟨l, hl⟩
      · rcases hnm b' v' q hm with h1 | ⟨_, _, h1⟩
        · exact .inl (.inl ⟨_, _, h1⟩)
        · subst h1
          rcases own with h2 | ⟨h2, _⟩
          · exact .inr h2
          · exact .inl (.inl ⟨_, _, h2⟩)
      · exact .inl (.inr ⟨l, hl⟩)
    · intro q hq hn
      refine hsame q ?_ hq
      rintro rfl
      rcases own with h2 | ⟨h2, _⟩
      · omega
      · exact hn (.inl ⟨_, _, h2⟩)
  · show (if _ then _ else _) = _; rw [if_pos ⟨rfl, rfl⟩]
  · show (if _ then _ else _) = _; rw [if_pos ⟨rfl, rfl⟩]
  · exact K.es

/-- Cells of a block written in a row, whoever looks at them. -/
theorem storeCells_raw {r : Nat} {e : TypeId} {f : Nat × Nat} : ∀ (ys : List Value) (w : World) (c : Array Value) (o i : Nat), w.heap[r]? = some (.cells c e f) → (∀ j, j < c.size → ¬ (f.1 ≤ j ∧ j < f.2)) → o + i + ys.length ≤ c.size → ys.all goodC = true →
    ∃ w' c', (storeCells ⟨r, o, none⟩ ys i).run P w = .ok () w' ∧ w'.heap[r]? = some (.cells c' e f) ∧ c'.size = c.size ∧ (∀ j, c'[j]? = if o + i ≤ j ∧ j < o + i + ys.length then ys[j - (o + i)]? else c[j]?) ∧
      (∀ q, q ≠ r → w'.heap[q]? = w.heap[q]?) ∧ w'.heap.size = w.heap.size ∧ w'.os = w.os ∧ w'.tape = w.tape ∧ w'.output = w.output := by
  intro ys
  induction ys with
  | nil =>
    intro w c o i hh hf hle hg
    refine ⟨w, c, rfl, hh, rfl, fun j => ?_, fun _ _ => rfl, rfl, rfl, rfl, rfl⟩
    rw [if_neg (by simp only [List.length_nil]; omega)]
  | cons y ys ih =>
    intro w c o i hh hf hle hg
    simp only [List.length_cons] at hle
    simp only [List.all_cons, Bool.and_eq_true] at hg
    have hadd : (⟨r, o, none⟩ : Addr).add i = ⟨r, o + i, none⟩ := addr_add _ rfl i
    have hlt' : o + i < c.size := by omega
    have hcu : w.cell? ⟨r, o + i, none⟩ = some c[o + i] := by
      simp only [World.cell?, hh]; simp [hlt']
    have hfz : w.frozen? ⟨r, o + i, none⟩ = false := by
      simp only [World.frozen?, hh]
      have := hf (o + i) (by omega)
      simp only [Bool.and_eq_false_iff, decide_eq_false_iff_not]
      by_cases hq : f.1 ≤ o + i
      · exact .inr (fun h => this ⟨hq, h⟩)
      · exact .inl hq
    obtain ⟨c', e', f', hb', _, _, hb2⟩ := store_heap (r := ⟨r, o + i, none⟩) (y := y) rfl hcu
    simp only at hb' hb2
    rw [hh] at hb'
    obtain ⟨rfl, rfl, rfl⟩ : c = c' ∧ e = e' ∧ f = f' := by simpa using hb'
    obtain ⟨w', c2, hrun, h1, h2, h3, h4, h5, h6, h7, h8⟩ := ih (w.setCell ⟨r, o + i, none⟩ y) (c.setIfInBounds (o + i) y) o (i + 1) hb2 (by simpa using hf) (by simp; omega) hg.2
    refine ⟨w', c2, ?_, h1, by rw [h2]; simp, fun j => ?_, fun q hq => ?_, by rw [h5]; simp, h6, h7, h8⟩
    · unfold storeCells
      rw [hadd, run_bindE (run_store1 hg.1 hcu hfz _)]
      exact hrun
    · rw [h3]
      simp only [List.length_cons]
      by_cases hj : o + (i + 1) ≤ j ∧ j < o + (i + 1) + ys.length
      · rw [if_pos hj, if_pos (by omega)]
        rw [show j - (o + i) = (j - (o + (i + 1))) + 1 by omega]; simp
      · rw [if_neg hj, Array.getElem?_setIfInBounds]
        by_cases hj2 : o + i = j
        · rw [if_pos hj2, if_pos (by omega), if_pos (by omega)]
          rw [show j - (o + i) = 0 by omega]; rfl
        · rw [if_neg hj2, if_neg (by omega)]
    · rw [h4 q hq]; exact setCell_other (by simpa using hq)

theorem slen_rel {x y : Value} (hx : VRel g x y) {n : Nat} (hn : slen x = some n) : (Builtin.lenOf y).run P w = .ok n w := by
  cases hx <;> simp [slen, undef, skipV] at hn
  all_goals (subst hn; first | rfl | simp [Builtin.lenOf])

theorem extract_take (s : ByteArray) (n : Nat) : (s.extract 0 n).data.toList = s.data.toList.take n := by
  rw [ByteArray.data_extract]; simp

theorem firstN_sound (R : Rel P B g h w) {x y : Value} (hx : VRel g x y) {es n m : Nat} (hm : slen x = some m) (hnm : n ≤ m) {l : List Value} (hl : firstN h es n x = some l) :
    ∃ ys, (Builtin.firstCells es n y).run P w = .ok ys.toArray w ∧ LR g l ys := by
  unfold firstN at hl
  split at hl
  · rename_i a len c
    simp [slen] at hm; subst hm
    obtain ⟨r, rc, rfl, h1, _, _⟩ := rel_slice hx
    have hcells : ∃ ys : List Value, LR g l ys ∧ l.length = n * es ∧ (∀ i, i < n * es → ∃ y, ys[i]? = some y ∧ w.cell? (r.add i) = some y) := by
      rcases h1 with ⟨rfl, _⟩ | h1
      · have : n = 0 := by omega
        subst this
        simp [loadN] at hl; subst hl; exact ⟨[], LR.nil g, by simp, fun i hi => by omega⟩
      · exact loadN_sound R (n * es) h1 hl
    obtain ⟨ys, hlr, hlen, hc⟩ := hcells
    exact ⟨ys, run_loadCells hc (by rw [← hlr.1]; exact hlen), hlr⟩
  · rw [rel_none_slice hx]
    simp only [Option.some.injEq] at hl; subst hl
    exact ⟨[], rfl, LR.nil g⟩
  · rename_i s
    rw [rel_string hx]
    simp only [Option.some.injEq] at hl; subst hl
    refine ⟨byteCells (s.data.toList.take n), ?_, ?_⟩
    · show Result.ok _ w = _
      congr 1
      apply Array.toList_inj.1
      rw [← extract_take]
      simp [byteCells]
    · exact LR.map _ _ _ fun a _ => .int _ _
  · simp at hl

theorem grow_le (need : Nat) : ∀ (n c : Nat), c ≤ 2 * need → 768 ≤ c * 3 → Builtin.growBy need n c ≤ 2 * need := by
  intro n
  induction n with
  | zero => intro c h _; exact h
  | succ n ih =>
    intro c h h2
    unfold Builtin.growBy
    split
    · exact h
    · rename_i hc
      exact ih _ (by omega) (by omega)

theorem nextcap_le {need old : Nat} (h : old < need) : Builtin.nextslicecap need old ≤ 2 * need := by
  unfold Builtin.nextslicecap
  split
  · omega
  · split
    · omega
    · exact grow_le need 4 old (by omega) (by omega)

theorem zeroCells_size (z : Array Value) (n : Nat) : (Builtin.zeroCells z n).size = n * z.size := by simp [Builtin.zeroCells]

end

end Go.Ax
