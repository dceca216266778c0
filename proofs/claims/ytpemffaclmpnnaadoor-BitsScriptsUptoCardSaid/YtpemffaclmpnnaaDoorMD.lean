/- An abstract machine for Go programs: a block that grows, against the model's append. -/
import Derived.Test.YtpemffaclmpnnaaDoorMC
namespace Go.Ax
set_option linter.unusedVariables false
set_option linter.unusedSimpArgs false

section
variable {P : Program} {B : Nat} {g : Ghost} {h : Heap} {w : World} {ρ ρ' : Operand → Value}

theorem extend_sound {w' : World} (R : Rel P B g h w) {b v : Nat} {k : Blk} (hk : h.dyn[b]? = some k) (hv : v + 1 = k.sizes.length) (hd : k.dead ≤ v)
    {r : Nat} {c : Array Value} {e : TypeId} {f : Nat × Nat} (hsz : w.heap.size ≤ w'.heap.size) (hsame : ∀ i, i ≠ r → i < w.heap.size → w'.heap[i]? = w.heap[i]?)
    (hr : w'.heap[r]? = some (.cells c e f)) (hf : FzOk k.es c.size f) (hB : B ≤ r) (hlt : r < w'.heap.size)
    (own : w.heap.size ≤ r ∨ (g.m b v = some r ∧ ∃ c0 e0 f0, w.heap[r]? = some (.cells c0 e0 f0) ∧ f0 = f ∧ c.size = c0.size ∧ ∀ j, j < k.cells.length → c[j]? = c0[j]?))
    (new : List Value) (hc : (k.cells ++ new).length ≤ c.size) (rel : ∀ (j : Nat) (x : Value), (k.cells ++ new)[j]? = some x → ∃ y, c[j]? = some y ∧ VRel g x y)
    (hos : w'.os = w.os) (htape : w'.tape = w.tape) (hout : w'.output = w.output) :
    ∃ g', Rel P B g' { h with dyn := h.dyn.set b { k with cells := k.cells ++ new, sizes := k.sizes ++ [(k.cells ++ new).length] } } w' ∧ Ext g w g' w' ∧
      g'.m b (v + 1) = some r ∧ g'.room b (v + 1) = c.size ∧ g'.es b = k.es := by
  have K := R.blk _ _ hk
  have hbl : b < h.dyn.length := by
    rcases Nat.lt_or_ge b h.dyn.length with h' | h'
    · exact h'
    · rw [List.getElem?_eq_none h'] at hk; simp at hk
  have hnone : g.m b (v + 1) = none := by
    cases hm : g.m b (v + 1) with
    | none => rfl
    | some q =>
      obtain ⟨⟨k', hk', hv'⟩, _⟩ := R.dom _ _ _ hm
      rw [hk] at hk'; simp only [Option.some.injEq] at hk'; subst hk'; omega
  let g' : Ghost := { g with
    m := fun b' v' => if b' = b ∧ v' = v + 1 then some r else g.m b' v'
    room := fun b' v' => if b' = b ∧ v' = v + 1 then c.size else g.room b' v' }
  have gm : ∀ b' v' q, g.m b' v' = some q → g'.m b' v' = some q := by
    intro b' v' q hm; show (if _ then _ else _) = _
    rw [if_neg (fun ⟨e1, e2⟩ => by rw [e1, e2, hnone] at hm; simp at hm)]; exact hm
  have G : Gle g g' := by
    refine ⟨gm, ?_, fun _ _ _ _ => rfl, rfl, fun _ _ h => h⟩
    intro b' v' q hm; show (if _ then _ else _) = _
    rw [if_neg (fun ⟨e1, e2⟩ => by rw [e1, e2, hnone] at hm; simp at hm)]
  have hnm : ∀ b' v' q, g'.m b' v' = some q → g.m b' v' = some q ∨ (b' = b ∧ v' = v + 1 ∧ q = r) := by
    intro b' v' q hm
    have hm' : (if b' = b ∧ v' = v + 1 then some r else g.m b' v') = some q := hm
    split at hm'
    · rename_i hh; simp only [Option.some.injEq] at hm'; exact .inr ⟨hh.1, hh.2, hm'.symm⟩
    · exact .inl hm'
  -- another block never is r
  have other : ∀ b' v' q, g.m b' v' = some q → b' ≠ b → q ≠ r := by
    intro b' v' q hm hne e
    subst e
    rcases own with h1 | ⟨h1, _⟩
    · have := (R.dom _ _ _ hm).2.2; omega
    · exact hne (R.inj _ _ _ _ _ hm h1)
  have lpne : ∀ l q, g.lp l = some q → q ≠ r := by
    intro l q hl e
    subst e
    obtain ⟨_, _, h4, L, hL⟩ := R.lpdom _ _ hl
    rcases own with h1 | ⟨_, c0, e0, f0, h2, _⟩
    · omega
    · rw [hL] at h2; simp at h2
  refine ⟨g', ?_, ?_, ?_, ?_, ?_⟩
  · constructor
    · exact Nat.le_trans R.base hsz
    · intro b' k' hk'
      simp only at hk'
      by_cases hb : b = b'
      · subst hb
        rw [List.getElem?_set_self hbl] at hk'
        simp only [Option.some.injEq] at hk'
        subst hk'
        refine ⟨by simp, by simp, ?_, K.es, ?_, ?_⟩
        · intro v' s hs'
          simp only at hs' ⊢
          by_cases hv' : v' < k.sizes.length
          · rw [List.getElem?_append_left hv'] at hs'
            have := K.le _ _ hs'; simp; omega
          · rw [List.getElem?_append_right (by omega)] at hs'
            cases hq : v' - k.sizes.length with
            | zero => rw [hq] at hs'; simp at hs'; simp; omega
            | succ z => rw [hq] at hs'; simp at hs'
        · intro v' hv'
          simp at hv'
          by_cases h1 : v' < k.sizes.length
          · obtain ⟨q, hq⟩ := K.all v' h1; exact ⟨q, gm _ _ _ hq⟩
          · have : v' = v + 1 := by omega
            exact ⟨r, by show (if _ then _ else _) = _; rw [if_pos ⟨rfl, this⟩]⟩
        · intro v' s hd' hs'
          simp only at hd' hs'
          by_cases hv' : v' < k.sizes.length
          · rw [List.getElem?_append_left hv'] at hs'
            have hsl := K.le _ _ hs'
            obtain ⟨r2, c2, e2, f2, hm2, hh2, hf2, hroom2, hle2, hcell2⟩ := K.at_ v' s hd' hs'
            have hr2 := (R.dom _ _ _ hm2).2.2
            have hcell3 : ∀ (j : Nat) (x : Value), j < s → (k.cells ++ new)[j]? = some x → ∃ y, c2[j]? = some y ∧ VRel g' x y := by
              intro j x hj hx
              rw [List.getElem?_append_left (by omega)] at hx
              obtain ⟨y, hy, hxy⟩ := hcell2 j x hj hx
              exact ⟨y, hy, hxy.mono G⟩
            by_cases hrr : r2 = r
            · subst hrr
              rcases own with h1 | ⟨h1, c0, e0, f0, h2, h3, h4, h5⟩
              · omega
              · rw [hh2] at h2; simp only [Option.some.injEq, Obj.cells.injEq] at h2
                obtain ⟨rfl, rfl, rfl⟩ := h2
                refine ⟨r2, c, e, f, gm _ _ _ hm2, hr, hf, ?_, by omega, fun j x hj hx => ?_⟩
                · rw [h4, hroom2]; exact (G.room _ _ _ hm2).symm
                · obtain ⟨y, hy, hxy⟩ := hcell3 j x hj hx
                  exact ⟨y, by rw [h5 j (by omega)]; exact hy, hxy⟩
            · exact ⟨r2, c2, e2, f2, gm _ _ _ hm2, by rw [hsame r2 hrr hr2]; exact hh2, hf2, by rw [hroom2]; exact (G.room _ _ _ hm2).symm, hle2, hcell3⟩
          · rw [List.getElem?_append_right (by omega)] at hs'
            have hvq : v' = v + 1 := by
              rcases Nat.lt_or_ge (v' - k.sizes.length) 1 with h1 | h1
              · omega
              · rw [List.getElem?_eq_none (by simpa using h1)] at hs'; simp at hs'
            subst hvq
            have : v + 1 - k.sizes.length = 0 := by omega
            rw [this] at hs'; simp at hs'; subst hs'
            refine ⟨r, c, e, f, by show (if _ then _ else _) = _; rw [if_pos ⟨rfl, rfl⟩], hr, hf, by show _ = (if _ then _ else _); rw [if_pos ⟨rfl, rfl⟩], by simpa using hc, fun j x hj hx => ?_⟩
            obtain ⟨y, hy, hxy⟩ := rel j x hx
            exact ⟨y, hy, hxy.mono G⟩
      · rw [List.getElem?_set_ne hb] at hk'
        have K' := R.blk _ _ hk'
        refine ⟨K'.ne, K'.last, K'.le, K'.es, fun v' hv' => ?_, ?_⟩
        · obtain ⟨q, hq⟩ := K'.all v' hv'; exact ⟨q, gm _ _ _ hq⟩
        · intro v' s hd' hs'
          obtain ⟨r2, c2, e2, f2, hm2, hh2, hf2, hroom2, hle2, hcell2⟩ := K'.at_ v' s hd' hs'
          refine ⟨r2, c2, e2, f2, gm _ _ _ hm2, by rw [hsame r2 (other _ _ _ hm2 (Ne.symm hb)) (R.dom _ _ _ hm2).2.2]; exact hh2, hf2, by rw [hroom2]; exact (G.room _ _ _ hm2).symm, hle2, fun j x hj hx => ?_⟩
          obtain ⟨y, hy, hxy⟩ := hcell2 j x hj hx
          exact ⟨y, hy, hxy.mono G⟩
    · intro b' v' q hm
      rcases hnm b' v' q hm with h1 | ⟨rfl, rfl, rfl⟩
      · obtain ⟨⟨k', hk', hv'⟩, h2, h3⟩ := R.dom b' v' q h1
        refine ⟨?_, h2, by omega⟩
        by_cases hb : b = b'
        · subst hb
          rw [hk] at hk'; simp only [Option.some.injEq] at hk'; subst hk'
          exact ⟨_, List.getElem?_set_self hbl, by simp; omega⟩
        · exact ⟨k', by simp only; rw [List.getElem?_set_ne hb]; exact hk', hv'⟩
      · exact ⟨⟨_, List.getElem?_set_self hbl, by simp; omega⟩, hB, hlt⟩
    · intro b1 v1 q b2 v2 h1 h2
      rcases hnm b1 v1 q h1 with k1 | ⟨d1, _, e1⟩ <;> rcases hnm b2 v2 q h2 with k2 | ⟨d2, _, e2⟩
      · exact R.inj _ _ _ _ _ k1 k2
      · by_cases hq : b1 = b
        · rw [hq, d2]
        · exact (other _ _ _ k1 hq e2).elim
      · by_cases hq : b2 = b
        · rw [hq, d1]
        · exact (other _ _ _ k2 hq e1).elim
      · rw [d1, d2]
    · intro b' o x hx
      obtain ⟨h1, y, hy, hxy⟩ := R.ro b' o x hx
      refine ⟨h1, y, ?_, hxy.mono G⟩
      rw [← hy]
      exact World.cell?_of_block (w := w) (hsame _ (by show (roA g b').block ≠ r; omega) (Nat.lt_of_lt_of_le h1 R.base))
    · intro l p hp
      obtain ⟨r2, L, hl, hL⟩ := R.lps l p hp
      exact ⟨r2, L, hl, by rw [hsame r2 (lpne _ _ hl) (R.lpdom _ _ hl).2.2.1]; exact hL.at_, hL.state, hL.pend, hL.tmps.mono G, hL.params, hL.assign, hL.body⟩
    · intro l r2 hl
      obtain ⟨h2, h3, h4, L, hL⟩ := R.lpdom l r2 hl
      exact ⟨h2, h3, by omega, L, by rw [hsame r2 (lpne _ _ hl) h4]; exact hL⟩
    · exact R.lpinj
  · refine ⟨G, ?_, hsz, ?_, hos, htape, hout⟩
    · intro q hq
      rcases hq with ⟨b', v', hm⟩ | ⟨l, hl⟩
      · rcases hnm b' v' q hm with h1 | ⟨_, _, h1⟩
        · exact .inl (.inl ⟨_, _, h1⟩)
        · subst h1
          rcases own with h2 | ⟨h2, _⟩
          · exact .inr h2
          · exact .inl (.inl ⟨_, _, h2⟩)
      · exact .inl (.inr ⟨l, hl⟩)
    · intro q hq hn
      refine hsame q ?_ hq
      rintro rfl
      rcases own with h2 | ⟨h2, _⟩
      · omega
      · exact hn (.inl ⟨_, _, h2⟩)
  · show (if _ then _ else _) = _; rw [if_pos ⟨rfl, rfl⟩]
  · show (if _ then _ else _) = _; rw [if_pos ⟨rfl, rfl⟩]
  · exact K.es

/-- Cells of a block written in a row, whoever looks at them. -/
theorem storeCells_raw {r : Nat} {e : TypeId} {f : Nat × Nat} : ∀ (ys : List Value) (w : World) (c : Array Value) (o i : Nat), w.heap[r]? = some (.cells c e f) → (∀ j, j < c.size → ¬ (f.1 ≤ j ∧ j < f.2)) → o + i + ys.length ≤ c.size → ys.all goodC = true →
    ∃ w' c', (storeCells ⟨r, o, none⟩ ys i).run P w = .ok () w' ∧ w'.heap[r]? = some (.cells c' e f) ∧ c'.size = c.size ∧ (∀ j, c'[j]? = if o + i ≤ j ∧ j < o + i + ys.length then ys[j - (o + i)]? else c[j]?) ∧
      (∀ q, q ≠ r → w'.heap[q]? = w.heap[q]?) ∧ w'.heap.size = w.heap.size ∧ w'.os = w.os ∧ w'.tape = w.tape ∧ w'.output = w.output := by
  intro ys
  induction ys with
  | nil =>
    intro w c o i hh hf hle hg
    refine ⟨w, c, rfl, hh, rfl, fun j => ?_, fun _ _ => rfl, rfl, rfl, rfl, rfl⟩
    rw [if_neg (by simp only [List.length_nil]; omega)]
  | cons y ys ih =>
    intro w c o i hh hf hle hg
    simp only [List.length_cons] at hle
    simp only [List.all_cons, Bool.and_eq_true] at hg
    have hadd : (⟨r, o, none⟩ : Addr).add i = ⟨r, o + i, none⟩ := addr_add _ rfl i
    have hlt' : o + i < c.size := by omega
    have hcu : w.cell? ⟨r, o + i, none⟩ = some c[o + i] := by
      simp only [World.cell?, hh]; simp [hlt']
    have hfz : w.frozen? ⟨r, o + i, none⟩ = false := by
      simp only [World.frozen?, hh]
      have := hf (o + i) (by omega)
      simp only [Bool.and_eq_false_iff, decide_eq_false_iff_not]
      by_cases hq : f.1 ≤ o + i
      · exact .inr (fun h => this ⟨hq, h⟩)
      · exact .inl hq
    obtain ⟨c', e', f', hb', _, _, hb2⟩ := store_heap (r := ⟨r, o + i, none⟩) (y := y) rfl hcu
    simp only at hb' hb2
    rw [hh] at hb'
    obtain ⟨rfl, rfl, rfl⟩ : c = c' ∧ e = e' ∧ f = f' := by simpa using hb'
    obtain ⟨w', c2, hrun, h1, h2, h3, h4, h5, h6, h7, h8⟩ := ih (w.setCell ⟨r, o + i, none⟩ y) (c.setIfInBounds (o + i) y) o (i + 1) hb2 (by simpa using hf) (by simp; omega) hg.2
    refine ⟨w', c2, ?_, h1, by rw [h2]; simp, fun j => ?_, fun q hq => ?_, by rw [h5]; simp, h6, h7, h8⟩
    · unfold storeCells
      rw [hadd, run_bindE (run_store1 hg.1 hcu hfz _)]
      exact hrun
    · rw [h3]
      simp only [List.length_cons]
      by_cases hj : o + (i + 1) ≤ j ∧ j < o + (i + 1) + ys.length
      · rw [if_pos hj, if_pos (by omega)]
        rw [show j - (o + i) = (j - (o + (i + 1))) + 1 by omega]; simp
      · rw [if_neg hj, Array.getElem?_setIfInBounds]
        by_cases hj2 : o + i = j
        · rw [if_pos hj2, if_pos (by omega), if_pos (by omega)]
          rw [show j - (o + i) = 0 by omega]; rfl
        · rw [if_neg hj2, if_neg (by omega)]
    · rw [h4 q hq]; exact setCell_other (by simpa using hq)

theorem slen_rel {x y : Value} (hx : VRel g x y) {n : Nat} (hn : slen x = some n) : (Builtin.lenOf y).run P w = .ok n w := by
  cases hx <;> simp [slen, undef, skipV, nanV, cellV] at hn
  all_goals (subst hn; first | rfl | simp [Builtin.lenOf])

theorem extract_take (s : ByteArray) (n : Nat) : (s.extract 0 n).data.toList = s.data.toList.take n := by
  rw [ByteArray.data_extract]; simp

theorem firstN_sound (R : Rel P B g h w) {x y : Value} (hx : VRel g x y) {es n m : Nat} (hm : slen x = some m) (hnm : n ≤ m) {l : List Value} (hl : firstN h es n x = some l) :
    ∃ ys, (Builtin.firstCells es n y).run P w = .ok ys.toArray w ∧ LR g l ys := by
  unfold firstN at hl
  split at hl
  · rename_i a len c
    simp [slen] at hm; subst hm
    obtain ⟨r, rc, rfl, h1, _, _⟩ := rel_slice hx
    have hcells : ∃ ys : List Value, LR g l ys ∧ l.length = n * es ∧ (∀ i, i < n * es → ∃ y, ys[i]? = some y ∧ w.cell? (r.add i) = some y) := by
      rcases h1 with ⟨rfl, _⟩ | h1
      · have : n = 0 := by omega
        subst this
        simp [loadN] at hl; subst hl; exact ⟨[], LR.nil g, by simp, fun i hi => by omega⟩
      · exact loadN_sound R (n * es) h1 hl
    obtain ⟨ys, hlr, hlen, hc⟩ := hcells
    exact ⟨ys, run_loadCells hc (by rw [← hlr.1]; exact hlen), hlr⟩
  · rw [rel_none_slice hx]
    simp only [Option.some.injEq] at hl; subst hl
    exact ⟨[], rfl, LR.nil g⟩
  · rename_i s
    rw [rel_string hx]
    simp only [Option.some.injEq] at hl; subst hl
    refine ⟨byteCells (s.data.toList.take n), ?_, ?_⟩
    · show Result.ok _ w = _
      congr 1
      apply Array.toList_inj.1
      rw [← extract_take]
      simp [byteCells]
    · exact LR.map _ _ _ fun a _ => .int _ _
  · simp at hl

theorem grow_le (need : Nat) : ∀ (n c : Nat), c ≤ 2 * need → 768 ≤ c * 3 → Builtin.growBy need n c ≤ 2 * need := by
  intro n
  induction n with
  | zero => intro c h _; exact h
  | succ n ih =>
    intro c h h2
    unfold Builtin.growBy
    split
    · exact h
    · rename_i hc
      exact ih _ (by omega) (by omega)

theorem nextcap_le {need old : Nat} (h : old < need) : Builtin.nextslicecap need old ≤ 2 * need := by
  unfold Builtin.nextslicecap
  split
  · omega
  · split
    · omega
    · exact grow_le need 4 old (by omega) (by omega)

theorem zeroCells_size (z : Array Value) (n : Nat) : (Builtin.zeroCells z n).size = n * z.size := by simp [Builtin.zeroCells]

end

end Go.Ax

/- An abstract machine for Go programs: append and copy against the model's. -/
namespace Go.Ax
set_option linter.unusedVariables false
set_option linter.unusedSimpArgs false

section
variable {P : Program} {B : Nat} {g : Ghost} {h : Heap} {w : World} {ρ ρ' : Operand → Value}

theorem addr_mk {a : Addr} {v : Nat} (h1 : a.off = 0) (h2 : a.spot = some v) : a = ⟨a.block, 0, some v⟩ := by
  cases a; simp only at h1 h2; subst h1; subst h2; rfl

theorem loadN_blk {h : Heap} {b v : Nat} {k : Blk} (hk : h.dyn[b]? = some k) (hd : k.dead ≤ v) {s : Nat} (hs : k.sizes.getD v 0 = s) (hle : s ≤ k.cells.length) :
    ∀ (n o : Nat), o + n ≤ s → loadN h ⟨b, o, some v⟩ n = some ((k.cells.drop o).take n) := by
  intro n
  induction n with
  | zero => intro o _; simp [loadN]
  | succ n ih =>
    intro o ho
    unfold loadN
    have hlt : o < k.cells.length := by omega
    have h1 : hload h ⟨b, o, some v⟩ = some k.cells[o] := by
      unfold hload
      simp only [hk, hs]
      rw [if_pos ⟨hd, by omega⟩, List.getElem?_eq_getElem hlt]
    have h2 : loadN h (aadd ⟨b, o, some v⟩ 1) n = some ((k.cells.drop (o + 1)).take n) := ih (o + 1) (by omega)
    simp only [h1, h2]
    rw [List.drop_eq_getElem_cons hlt]
    rfl

/-- The model's append in place. -/
theorem run_app_in {st xt elem ty : TypeId} {xd : TypeDesc} {i : TypeInfo} {base : Option Addr} {sLen sCap n : Nat} {x : Value} {new : Array Value} {w' : World} (hst : P.underlying st = some (.slice elem)) (hxt : P.underlying xt = some xd) (hxd : isIntD xd = false)
    (hi : P.info? elem = some i) (hn : (Builtin.lenOf x).run P w = .ok n w) (hc : sLen + n ≤ sCap) (hf : (Builtin.firstCells i.size n x).run P w = .ok new w)
    (hs : match base with | some a => (storeCells (a.add (sLen * i.size)) new.toList).run P w = .ok () w' | none => w' = w) :
    (Builtin.append_ #[st, xt] ty #[.slice base sLen sCap, x]).run P w = .ok (.slice base (sLen + n) sCap) w' := by
  have hs' : asize P elem = some i.size := by simp [asize, hi]
  unfold Builtin.append_
  simp only [List.getElem?_toArray, List.getElem?_cons_zero, List.getElem?_cons_succ]
  rw [run_bindE (run_und hst)]
  simp only
  rw [run_bindE (run_size hs'), run_bindE (run_und hxt), run_bindE (a := false) (w' := w) (by cases xd <;> first | rfl | simp [isIntD] at hxd)]
  simp only [Bool.false_eq_true, if_false, Bool.not_false, if_true]
  rw [run_bindE hn, if_pos hc, run_bindE hf]
  cases base with
  | none => simp only at hs ⊢; subst hs; rfl
  | some a => simp only at hs ⊢; rw [run_bindE hs]; rfl

/-- The model's append into a new block. -/
theorem run_app_out {st xt elem ty : TypeId} {xd : TypeDesc} {i : TypeInfo} {z : Value} {base : Option Addr} {sLen sCap n : Nat} {x : Value} {old new : Array Value} (hst : P.underlying st = some (.slice elem)) (hxt : P.underlying xt = some xd) (hxd : isIntD xd = false)
    (hi : P.info? elem = some i) (hz : i.zero = some z) (hn : (Builtin.lenOf x).run P w = .ok n w) (hc : ¬ sLen + n ≤ sCap) (hb : (sLen + n) * i.bytes ≤ 140737488355328) (hnb : sLen + n ≤ 140737488355328)
    (ho : (Builtin.firstCells i.size sLen (.slice base sLen sCap)).run P w.drew = .ok old w.drew) (hf : (Builtin.firstCells i.size n x).run P w.drew = .ok new w.drew) :
    ∃ newCap, sLen + n ≤ newCap ∧ (Builtin.append_ #[st, xt] ty #[.slice base sLen sCap, x]).run P w =
      .ok (.slice (some ⟨w.heap.size, 0, none⟩) (sLen + n) newCap) (w.drew.alloc (.cells (old ++ new ++ Builtin.zeroCells z.cells (newCap - (sLen + n))) elem)) := by
  have hs' : asize P elem = some i.size := by simp [asize, hi]
  let newCap := (Question.appendCap (sLen + n) sCap elem).cut (w.tape w.drawn (.appendCap (sLen + n) sCap elem))
  refine ⟨newCap, by show _ ≤ sLen + n + _; omega, ?_⟩
  unfold Builtin.append_
  simp only [List.getElem?_toArray, List.getElem?_cons_zero, List.getElem?_cons_succ]
  rw [run_bindE (run_und hst)]
  simp only
  rw [run_bindE (run_size hs'), run_bindE (run_und hxt), run_bindE (a := false) (w' := w) (by cases xd <;> first | rfl | simp [isIntD] at hxd)]
  simp only [Bool.false_eq_true, if_false, Bool.not_false, if_true]
  rw [run_bindE hn, if_neg hc, run_bindE (run_info hi)]
  have hmax : IntKind.i64.max = 9223372036854775807 := by decide
  rw [if_neg (by rw [hmax]; omega), run_bindE (run_info hi)]
  have hnc := nextcap_le (need := sLen + n) (old := sCap) (by omega)
  have hb2 : ¬ Builtin.nextslicecap (sLen + n) sCap * i.bytes > 2 ^ 48 := by
    have : Builtin.nextslicecap (sLen + n) sCap * i.bytes ≤ 2 * (sLen + n) * i.bytes := Nat.mul_le_mul_right _ hnc
    rw [Nat.mul_assoc] at this
    omega
  rw [if_neg hb2]
  rw [run_bindE (a := newCap) (w' := w.drew) rfl]
  rw [run_bindE (run_info hi), run_bindE (run_askRoom P w.drew _), run_bindE ho, run_bindE hf, run_bindE (run_zero hi hz), run_bindE run_newRow]
  rfl

theorem firstN_drew {w : World} {es n : Nat} {x : Value} {l : Array Value} (hl : ∀ w0 : World, w0.heap = w.heap → (Builtin.firstCells es n x).run P w0 = .ok l w0) : (Builtin.firstCells es n x).run P w.drew = .ok l w.drew := hl _ rfl

theorem old_sound (R : Rel P B g h w) {a r : Addr} (ha : ARel g a r) {len rc es : Nat} {old : List Value} (ho : loadN h a (len * es) = some old) :
    ∃ ys, (Builtin.firstCells es len (.slice (some r) len rc)).run P w = .ok ys.toArray w ∧ LR g old ys := by
  obtain ⟨ys, hlr, hlen, hc⟩ := loadN_sound R (len * es) ha ho
  exact ⟨ys, run_loadCells hc (by rw [← hlr.1]; exact hlen), hlr⟩

theorem os_app (R : Rel P B g h w) {st xt ty : TypeId} {xd : TypeDesc} {elem : TypeId} {i : TypeInfo} {zl : List Value} {s x : Operand} (hst : P.underlying st = some (.slice elem)) (hxt : P.underlying xt = some xd) (hxd : isIntD xd = false)
    (hi : P.info? elem = some i) (hz : zeroOf P elem = some zl) (hs : VRel g (ρ s) (ρ' s)) (hx : VRel g (ρ x) (ρ' x)) {res : ARes}
    (he : aop P h ρ (.app i.size i.bytes zl s x) = some res) : OpS P B g w (do pure (.value (← Builtin.append_ #[st, xt] ty #[ρ' s, ρ' x]))) res := by
  simp only [aop] at he
  obtain ⟨i', z, hi', hzz, rfl, hp⟩ := zeroOf_some hz
  rw [hi] at hi'; simp only [Option.some.injEq] at hi'; subst hi'
  unfold toRes at he
  split at he
  case h_2 => simp at he
  rename_i v h' ha
  simp only [Option.some.injEq] at he; subst he
  unfold aappend at ha
  split at ha
  case h_2 => simp at ha
  rename_i base len cap n e1 e2
  rw [e1] at hs
  have hlen : (Builtin.lenOf (ρ' x)).run P w = .ok n w := slen_rel hx e2
  split at ha
  · simp at ha
  rename_i new hnw
  have hfirst : ∀ (w0 : World), Rel P B g h w0 → ∃ ys, (Builtin.firstCells i.size n (ρ' x)).run P w0 = .ok ys.toArray w0 ∧ LR g new ys := fun w0 R0 => firstN_sound R0 hx e2 (Nat.le_refl _) hnw
  -- a new block
  have fresh : ∀ (s' : Value) (base' : Option Addr) (rc : Nat) (oldl : List Value), s' = .slice base' len rc → ¬ len + n ≤ rc → (len + n) * i.bytes ≤ 140737488355328 → len + n ≤ 140737488355328 → z.cells.toList.length = i.size → new.length = n * i.size → oldl.length = len * i.size →
      (∀ w0 : World, Rel P B g h w0 → ∃ ys, (Builtin.firstCells i.size len (.slice base' len rc)).run P w0 = .ok ys.toArray w0 ∧ LR g oldl ys) →
      OpS P B g w (do pure (.value (← Builtin.append_ #[st, xt] ty #[s', ρ' x]))) (.val (.slice (some (hnext h)) (len + n) gcap) (hnew h (oldl ++ new) i.size)) := by
    intro s' base' rc oldl hs' hcap hb hnb hzl hnl hol hold
    subst hs'
    have R1 : Rel P B g h w.drew := R.drew
    obtain ⟨ys, hys, hlr⟩ := hfirst _ R1
    obtain ⟨os, hos, hlo⟩ := hold _ R1
    obtain ⟨newCap, hnc, hrun⟩ := run_app_out (ty := ty) hst hxt hxd hi hzz hlen hcap hb hnb hos hys
    let c : Array Value := os.toArray ++ ys.toArray ++ Builtin.zeroCells z.cells (newCap - (len + n))
    have hcs : c.size = newCap * i.size := by
      have h1 := hlr.1; have h2 := hlo.1
      have h3 : z.cells.size = i.size := by simpa using hzl
      simp only [c, Array.size_append, List.size_toArray, zeroCells_size, h3]
      rw [← h1, ← h2, hnl, hol, ← Nat.add_mul, ← Nat.add_mul]
      congr 1; omega
    have hall : LR g (oldl ++ new) (os ++ ys) := hlo.append hlr
    obtain ⟨g', R', E', hadr, hroom, hes⟩ := new_sound R1 c elem (oldl ++ new) i.size (by
        rw [hcs, List.length_append, hol, hnl, ← Nat.add_mul]; exact Nat.mul_le_mul_right _ hnc) (fun j y hj => by
      obtain ⟨y', hy', hv'⟩ := hall.get hj
      refine ⟨y', ?_, hv'⟩
      have hlt : j < (os ++ ys).length := by
        rcases Nat.lt_or_ge j (os ++ ys).length with h1 | h1
        · exact h1
        · rw [List.getElem?_eq_none h1] at hy'; simp at hy'
      simp only [c]
      rw [Array.getElem?_append_left (by simpa using hlt)]
      simpa using hy')
    refine ⟨_, _, g', .inl (run_v hrun), .sliU _ _ hadr hnc (fun v hv => ?_), R', ⟨E'.le, E'.new, E'.size, E'.same, E'.os, E'.tape, E'.output⟩⟩
    have : v = 0 := by simpa [hnext] using hv.symm
    subst this
    show 0 + newCap * g'.es h.dyn.length = g'.room h.dyn.length 0
    rw [hes, hroom, hcs]; omega
  split at ha
  · -- nothing is appended
    rename_i hn0
    subst hn0
    split at ha
    · simp at ha
    · rename_i hcl
      simp only [Option.some.injEq, Prod.mk.injEq] at ha
      obtain ⟨rfl, rfl⟩ := ha
      obtain ⟨ys, hys, hlr⟩ := hfirst w R
      have hys0 : ys.toArray = #[] := by
        have : new = [] := by
          unfold firstN at hnw
          split at hnw <;> simp_all [loadN, byteCells]
        subst this
        rw [hlr.nil_inv]
      rw [hys0] at hys
      cases base with
      | none =>
        have := rel_none_slice hs
        rw [this]
        refine OpS.sameV R (run_app_in (w' := w) hst hxt hxd hi hlen (by omega) hys rfl) ?_
        rw [← this]; simpa [this] using hs
      | some a =>
        obtain ⟨r, rc, hr, h1, h2, h3⟩ := rel_slice hs
        rw [hr]
        have hle : len ≤ rc := by
          by_cases hg : cap < gcap
          · rw [h2 hg]; omega
          · by_cases hg2 : cap = gcap
            · exact (h3 hg2).1
            · rcases h1 with ⟨h1, _⟩ | h1
              · omega
              · cases hs' : ρ' s <;> rw [hs'] at hs <;> cases hs <;> simp_all
        refine OpS.sameV R (run_app_in (w' := w) hst hxt hxd hi hlen (by omega) hys (by simp [storeCells])) ?_
        rw [hr] at hs; exact hs
  · rename_i hn0
    split at ha
    · simp at ha
    · rename_i hcond
      simp only [not_or, ne_eq, Decidable.not_not, Bool.not_eq_false] at hcond
      obtain ⟨hzl, hnl, hgood⟩ := hcond
      cases base with
      | none =>
        simp only at ha
        split at ha
        · rename_i h0
          obtain ⟨rfl, rfl⟩ := h0
          unfold appNew at ha
          split at ha
          · rename_i hb
            simp only [Option.some.injEq, Prod.mk.injEq] at ha
            obtain ⟨rfl, rfl⟩ := ha
            have := fresh (ρ' s) none 0 [] (rel_none_slice hs) (by omega) (by simpa using hb.1) (by simpa using hb.2) hzl hnl (by simp) (fun w0 _ => ⟨[], rfl, LR.nil g⟩)
            simpa using this
          · simp at ha
        · simp at ha
      | some a =>
        obtain ⟨r, rc, hr, h1, h2, h3⟩ := rel_slice hs
        simp only at ha
        split at ha
        · rename_i hg
          have har : ARel g a r := by rcases h1 with ⟨_, h1⟩ | h1; omega; exact h1
          have := h2 hg; subst this
          split at ha
          · rename_i hle
            split at ha
            · rename_i h'' hst'
              simp only [Option.some.injEq, Prod.mk.injEq] at ha
              obtain ⟨rfl, rfl⟩ := ha
              obtain ⟨ys, hys, hlr⟩ := hfirst w R
              obtain ⟨w', hrun, R', E'⟩ := storeN_sound _ R (har.add (len * i.size)) hlr hst' 0
              have hrun' := hrun (r.add (len * i.size)) (har.add _).spot (by simp [Addr.add])
              rw [hr]
              exact ⟨_, w', g, .inl (run_v (run_app_in hst hxt hxd hi hlen hle hys (by simpa using hrun'))), .sliK _ _ har hg, R', E'⟩
            · simp at ha
          · rename_i hle
            split at ha
            · rename_i old hold
              unfold appNew at ha
              split at ha
              · rename_i hb
                simp only [Option.some.injEq, Prod.mk.injEq] at ha
                obtain ⟨rfl, rfl⟩ := ha
                exact fresh (ρ' s) (some r) rc old hr hle hb.1 hb.2 hzl hnl (by
                  obtain ⟨ys, _, hl, _⟩ := loadN_sound R _ har hold; exact hl) (fun w0 R0 => old_sound R0 har hold)
              · simp at ha
            · simp at ha
        · rename_i hg
          split at ha
          · rename_i hc
            obtain ⟨hcg, hoff, hb, hnb⟩ := hc
            subst hcg
            have har : ARel g a r := by rcases h1 with ⟨_, h1⟩ | h1; omega; exact h1
            obtain ⟨hlrc, hroom⟩ := h3 rfl
            split at ha
            · simp at ha
            · rename_i v hv
              split at ha
              · rename_i k hk
                split at ha
                · rename_i hkc
                  obtain ⟨k1, k2, k3, k4⟩ := hkc
                  simp only [Option.some.injEq, Prod.mk.injEq] at ha
                  obtain ⟨rfl, rfl⟩ := ha
                  have hg0 : g.m a.block v = some r.block ∧ r.off = a.off := by have := har.2; rw [hv] at this; exact this
                  have K := R.blk _ _ hk
                  have hsz : k.sizes[v]? = some k.cells.length := by rw [← K.last]; congr 1; omega
                  obtain ⟨r', c, e, f, hm, hh, hf, hroomc, hle, hcell⟩ := K.at_ v _ k4 hsz
                  have hrr : r' = r.block := by rw [hg0.1] at hm; exact (Option.some.inj hm).symm
                  subst hrr
                  have hB := (R.dom _ _ _ hm).2
                  have hrm := hroom v hv
                  rw [K.es, k2, hoff, Nat.zero_add, ← hroomc] at hrm
                  have hr0 : r = ⟨r.block, 0, none⟩ := by have := har.1; have := hg0.2; cases r; simp_all
                  by_cases hin : len + n ≤ rc
                  · -- in place
                    obtain ⟨ys, hys, hlr⟩ := hfirst w R
                    have hyl : ys.length = n * i.size := by rw [← hlr.1]; exact hnl
                    have hfit : len * i.size + 0 + ys.length ≤ c.size := by
                      rw [hyl, ← hrm, Nat.add_zero, ← Nat.add_mul]; exact Nat.mul_le_mul_right _ hin
                    have hyg : ys.all goodC = true := by
                      rw [List.all_eq_true] at hgood ⊢
                      intro y hy
                      obtain ⟨j, hj, rfl⟩ := List.getElem_of_mem hy
                      have hj' : j < new.length := by rw [hlr.1]; exact hj
                      exact goodC_rel (hlr.2 j new[j] ys[j] (List.getElem?_eq_getElem hj') (List.getElem?_eq_getElem hj)) (hgood _ (List.getElem_mem hj'))
                    obtain ⟨w', c', hrun, hh', hcs, hcg, hoth, hws, q1, q2, q3⟩ := storeCells_raw (P := P) ys w c (len * i.size) 0 hh hf.1 hfit hyg
                    have hcl : (k.cells ++ new).length ≤ c'.size := by rw [hcs, List.length_append, ← k3, hnl, ← hyl]; simpa using hfit
                    obtain ⟨g', R', E', gm, groom, ges⟩ := extend_sound R hk k1 k4 (w' := w') (by omega) (fun q hq _ => hoth q hq) hh' (by rw [hcs]; exact hf) hB.1 (by omega)
                      (.inr ⟨hm, c, e, f, hh, rfl, hcs, fun j hj => by rw [hcg, if_neg (by omega)]⟩) new hcl (fun j y hj => by
                        rw [hcg]
                        by_cases hjl : j < k.cells.length
                        · rw [if_neg (by omega)]
                          rw [List.getElem?_append_left hjl] at hj
                          exact hcell j y hjl hj
                        · rw [List.getElem?_append_right (by omega)] at hj
                          obtain ⟨y', hy', hv'⟩ := hlr.get hj
                          have hlt : j - k.cells.length < ys.length := by
                            rcases Nat.lt_or_ge (j - k.cells.length) ys.length with h1 | h1
                            · exact h1
                            · rw [List.getElem?_eq_none h1] at hy'; simp at hy'
                          rw [if_pos (by omega)]
                          exact ⟨y', by rw [show j - (len * i.size + 0) = j - k.cells.length by omega]; exact hy', hv'⟩) q1 q2 q3
                    have hadd : r.add (len * i.size) = ⟨r.block, len * i.size, none⟩ := by rw [addr_add r har.1, hg0.2, hoff]; simp
                    have hrun' : (Builtin.append_ #[st, xt] ty #[ρ' s, ρ' x]).run P w = .ok (.slice (some r) (len + n) rc) w' := by
                      rw [hr]
                      exact run_app_in hst hxt hxd hi hlen hin hys (by simp only; rw [hadd]; simpa using hrun)
                    rw [show (len + n) * i.size = (k.cells ++ new).length by rw [List.length_append, ← k3, hnl, ← Nat.add_mul]]
                    refine ⟨_, w', g', .inl (run_v hrun'), .sliU _ _ ⟨har.1, ?_⟩ hin (fun v' hv' => ?_), R', E'⟩
                    · show g'.m a.block (v + 1) = some r.block ∧ r.off = 0
                      exact ⟨gm, by rw [hg0.2, hoff]⟩
                    · have : v' = v + 1 := by simpa using hv'.symm
                      subst this
                      show 0 + rc * g'.es a.block = g'.room a.block (v + 1)
                      rw [ges, groom, k2, hcs, Nat.zero_add, hrm]
                  · -- in new memory
                    have R1 : Rel P B g h w.drew := R.drew
                    obtain ⟨ys, hys, hlr⟩ := hfirst _ R1
                    have hyl : ys.length = n * i.size := by rw [← hlr.1]; exact hnl
                    have hold : loadN h a (len * i.size) = some k.cells := by
                      have ha0 : a = ⟨a.block, 0, some v⟩ := addr_mk hoff hv
                      rw [ha0, loadN_blk hk k4 (getD_some hsz) (Nat.le_refl _) _ _ (by omega), k3]
                      simp
                    obtain ⟨os, hos, hlo⟩ := old_sound R1 har (rc := rc) hold
                    obtain ⟨newCap, hnc, hrun⟩ := run_app_out (ty := ty) hst hxt hxd hi hzz hlen hin hb hnb hos hys
                    let c2 : Array Value := os.toArray ++ ys.toArray ++ Builtin.zeroCells z.cells (newCap - (len + n))
                    have hcs : c2.size = newCap * i.size := by
                      have h1 := hlr.1; have h2 := hlo.1
                      have h3 : z.cells.size = i.size := by simpa using hzl
                      simp only [c2, Array.size_append, List.size_toArray, zeroCells_size, h3]
                      rw [← h1, ← h2, hnl, ← k3, ← Nat.add_mul, ← Nat.add_mul]
                      congr 1; omega
                    have hall : LR g (k.cells ++ new) (os ++ ys) := hlo.append hlr
                    obtain ⟨g', R', E', gm, groom, ges⟩ := extend_sound R1 hk k1 k4 (w' := w.drew.alloc (.cells c2 elem)) (by simp) (fun q _ hq => Go.RowKit.Below.heap_alloc _ _ q hq) (alloc_at _ _)
                      ⟨fun j _ => by omega, fun _ => rfl⟩ R.base (by simp) (.inl (Nat.le_refl _)) new (by rw [hcs, List.length_append, ← k3, hnl, ← Nat.add_mul]; exact Nat.mul_le_mul_right _ hnc) (fun j y hj => by
                        obtain ⟨y', hy', hv'⟩ := hall.get hj
                        refine ⟨y', ?_, hv'⟩
                        have hlt : j < (os ++ ys).length := by
                          rcases Nat.lt_or_ge j (os ++ ys).length with h1 | h1
                          · exact h1
                          · rw [List.getElem?_eq_none h1] at hy'; simp at hy'
                        simp only [c2]
                        rw [Array.getElem?_append_left (by simpa using hlt)]
                        simpa using hy') rfl rfl rfl
                    rw [show (len + n) * i.size = (k.cells ++ new).length by rw [List.length_append, ← k3, hnl, ← Nat.add_mul]]
                    rw [← hr] at hrun
                    refine ⟨_, _, g', .inl (run_v hrun), .sliU _ _ ⟨rfl, ?_⟩ hnc (fun v' hv' => ?_), R', ⟨E'.le, E'.new, E'.size, E'.same, E'.os, E'.tape, E'.output⟩⟩
                    · show g'.m a.block (v + 1) = some w.heap.size ∧ 0 = 0
                      exact ⟨gm, rfl⟩
                    · have : v' = v + 1 := by simpa using hv'.symm
                      subst this
                      show 0 + newCap * g'.es a.block = g'.room a.block (v + 1)
                      rw [ges, groom, k2, hcs, Nat.zero_add]
                · simp at ha
              · simp at ha
          · simp at ha

theorem os_copy (R : Rel P B g h w) {dt ty : TypeId} {elem : TypeId} {rest : List TypeId} {es : Nat} {d s : Operand} (hdt : P.underlying dt = some (.slice elem)) (hes : asize P elem = some es)
    (hd : VRel g (ρ d) (ρ' d)) (hs : VRel g (ρ s) (ρ' s)) {res : ARes}
    (he : aop P h ρ (.copy es d s) = some res) : OpS P B g w (do pure (.value (← Builtin.copy_ (dt :: rest).toArray ty #[ρ' d, ρ' s]))) res := by
  simp only [aop] at he
  unfold toRes at he
  split at he
  case h_2 => simp at he
  rename_i v h' ha
  simp only [Option.some.injEq] at he; subst he
  unfold acopy at ha
  split at ha
  case h_2 => simp at ha
  rename_i base dl dc sl e1 e2
  rw [e1] at hd
  have hlen : (Builtin.lenOf (ρ' s)).run P w = .ok sl w := slen_rel hs e2
  split at ha
  · simp at ha
  rename_i new hnw
  obtain ⟨ys, hys, hlr⟩ := firstN_sound R hs e2 (Nat.min_le_left _ _) hnw
  have pre : ∀ {base' : Option Addr} {rc : Nat}, ρ' d = .slice base' dl rc → (Builtin.copy_ (dt :: rest).toArray ty #[ρ' d, ρ' s]).run P w = (do
      if let some a := base' then storeCells a ys.toArray.toList
      pure (goInt (min sl dl : Nat)) : Sem Value).run P w := by
    intro base' rc hr
    rw [hr]
    unfold Builtin.copy_
    simp only [List.getElem?_toArray, List.getElem?_cons_zero, List.getElem?_cons_succ]
    rw [run_bindE (run_und hdt)]
    simp only
    rw [run_bindE hlen, run_bindE (run_size hes)]
    have : Nat.min sl dl = min sl dl := rfl
    rw [this, run_bindE hys]
    cases base' <;> rfl
  cases base with
  | none =>
    simp only [Option.some.injEq, Prod.mk.injEq] at ha
    obtain ⟨rfl, rfl⟩ := ha
    exact OpS.sameV R (pre (rel_none_slice hd)) (.int _ _)
  | some a =>
    obtain ⟨r, rc, hr, h1, h2, h3⟩ := rel_slice hd
    simp only at ha
    split at ha
    · rename_i h'' hst
      simp only [Option.some.injEq, Prod.mk.injEq] at ha
      obtain ⟨rfl, rfl⟩ := ha
      rcases h1 with ⟨h1, h1'⟩ | har
      · subst h1
        have hn0 : new = [] := by
          unfold firstN at hnw
          split at hnw <;> simp_all [loadN, byteCells]
        subst hn0
        have := hlr.nil_inv; subst this
        simp [storeN] at hst; subst hst
        refine OpS.sameV R ((pre hr).trans ?_) (.int _ _)
        simp [storeCells, goInt]
      · obtain ⟨w', hrun, R', E'⟩ := storeN_sound _ R har hlr hst 0
        have hrun' := hrun r har.spot (by simp [Addr.add])
        refine ⟨_, w', g, .inl (run_v (w' := w') (y := .int .i64 (min sl dl : Nat)) ((pre hr).trans ?_)), .int _ _, R', E'⟩
        simp only
        rw [run_bindE (by simpa using hrun')]
        rfl
    · simp at ha

end

end Go.Ax

/- An abstract machine for Go programs: its operations against the model's: all of them. -/
namespace Go.Ax
set_option linter.unusedVariables false
set_option linter.unusedSimpArgs false

section
variable {P : Program} {B : Nat} {g : Ghost} {h : Heap} {w : World} {ρ ρ' : Operand → Value}

theorem rel_nilIface {y : Value} (h : VRel g .nilIface y) : y = .nilIface := by cases h; rfl

theorem tup2 {v y : Value} {b : Bool} (hv : VRel g v y) : VRel g (.tuple #[v, .bool b]) (.tuple #[y, .bool b]) := by
  refine .tuple rfl fun i p q hp hq => ?_
  match i with
  | 0 => simp at hp hq; subst hp; subst hq; exact hv
  | 1 => simp at hp hq; subst hp; subst hq; exact .bool b
  | i + 2 => simp at hp

theorem hold2 {v y : Value} {ok : Bool} (hv : VRel g v y) : VRel g (if ok then .tuple #[v, .bool true] else v) (if ok then .tuple #[y, .bool true] else y) := by
  cases ok
  · exact hv
  · exact tup2 hv

theorem ta_in {s a xt : TypeId} {u : Value} {ok : Bool} {ms : Array (String × TypeId)} {j : TypeInfo} (hu : P.underlying a = some (.interface ms)) (hj : P.info? s = some j) (hm : Instr.missingMethod ms j.methods = none) :
    (Instr.typeAssert (.iface s u) xt a ok).run P w = .ok (if ok then .tuple #[.iface s u, .bool true] else .iface s u) w := by
  unfold Instr.typeAssert
  rw [run_bindE (run_und hu)]
  simp only
  rw [run_bindE (run_info hj)]
  simp only [hm]
  rfl

theorem ta_out {s a xt : TypeId} {u z : Value} {ms : Array (String × TypeId)} {i j : TypeInfo} (hu : P.underlying a = some (.interface ms)) (hj : P.info? s = some j) (hm : ¬ (Instr.missingMethod ms j.methods).isNone = true) (hi : P.info? a = some i) (hz : i.zero = some z) :
    (Instr.typeAssert (.iface s u) xt a true).run P w = .ok (.tuple #[z, .bool false]) w := by
  unfold Instr.typeAssert
  rw [run_bindE (run_und hu)]
  simp only
  rw [run_bindE (run_info hj)]
  cases hq : Instr.missingMethod ms j.methods with
  | none => simp [hq] at hm
  | some m =>
    simp only [if_true]
    rw [run_bindE (run_zero hi hz)]; rfl

theorem ta_nil {a xt : TypeId} {z : Value} {d : TypeDesc} {i : TypeInfo} (hu : P.underlying a = some d) (hi : P.info? a = some i) (hz : i.zero = some z) :
    (Instr.typeAssert .nilIface xt a true).run P w = .ok (.tuple #[z, .bool false]) w := by
  unfold Instr.typeAssert
  rw [run_bindE (run_und hu)]
  cases d <;> (simp only [if_true]; rw [run_bindE (run_zero hi hz)]; rfl)

theorem ta_same {s a xt : TypeId} {u : Value} {ok : Bool} {d : TypeDesc} (hu : P.underlying a = some d) (hd : ∀ ms, d ≠ .interface ms) (hs : s = a) :
    (Instr.typeAssert (.iface s u) xt a ok).run P w = .ok (if ok then .tuple #[u, .bool true] else u) w := by
  unfold Instr.typeAssert
  rw [run_bindE (run_und hu)]
  cases d <;> first | (exact (hd _ rfl).elim) | (simp only [hs, if_true]; rfl)

theorem ta_other {s a xt : TypeId} {u z : Value} {d : TypeDesc} {i : TypeInfo} (hu : P.underlying a = some d) (hd : ∀ ms, d ≠ .interface ms) (hs : ¬ s = a) (hi : P.info? a = some i) (hz : i.zero = some z) :
    (Instr.typeAssert (.iface s u) xt a true).run P w = .ok (.tuple #[z, .bool false]) w := by
  unfold Instr.typeAssert
  rw [run_bindE (run_und hu)]
  cases d <;> first | (exact (hd _ rfl).elim) | (simp only [if_neg hs, if_true]; rw [run_bindE (run_zero hi hz)]; rfl)

theorem os_asrt (R : Rel P B g h w) {x : Operand} {xt a : TypeId} {ok : Bool} (hx : VRel g (ρ x) (ρ' x)) {res : ARes} (he : aop P h ρ (compOp P (.typeAssert x xt a ok)) = some res) :
    OpS P B g w (do pure (.value (← Instr.typeAssert (ρ' x) xt a ok))) res := by
  simp only [compOp] at he
  split at he
  · rename_i ms i hu hi
    split at he
    · rename_i z hz
      split at he
      · rename_i hp
        simp only [aop] at he
        split at he
        · rename_i e
          rw [e] at hx; rw [rel_nilIface hx]
          split at he
          · rename_i hok
            simp only [Option.some.injEq] at he; subst he; subst hok
            exact OpS.sameV R (ta_nil hu hi hz) (tup2 (plain_refl hp))
          · simp at he
        · rename_i e1 e2; simp at e2
        · rename_i s v ms' e1 e2
          simp only [Option.some.injEq] at e2; subst e2
          rw [e1] at hx; obtain ⟨u, hur, hv⟩ := rel_iface hx
          rw [hur]
          split at he
          · rename_i j hj
            split at he
            · rename_i hm
              simp only [Option.some.injEq] at he; subst he
              exact OpS.sameV R (ta_in hu hj (by simpa using hm)) (hold2 (.iface s hv))
            · rename_i hm
              split at he
              · rename_i hok
                simp only [Option.some.injEq] at he; subst he; subst hok
                exact OpS.sameV R (ta_out hu hj hm hi hz) (tup2 (plain_refl hp))
              · simp at he
          · simp at he
        · simp at he
      · simp [aop] at he
    · simp [aop] at he
  · rename_i d i hnd hu hi
    have hd : ∀ ms, d ≠ .interface ms := fun ms e => by subst e; exact hnd _ rfl
    split at he
    · rename_i z hz
      split at he
      · rename_i hp
        simp only [aop] at he
        split at he
        · rename_i e
          rw [e] at hx; rw [rel_nilIface hx]
          split at he
          · rename_i hok
            simp only [Option.some.injEq] at he; subst he; subst hok
            exact OpS.sameV R (ta_nil hu hi hz) (tup2 (plain_refl hp))
          · simp at he
        · rename_i s v e1 e2
          rw [e1] at hx; obtain ⟨u, hur, hv⟩ := rel_iface hx
          rw [hur]
          split at he
          · rename_i hs
            simp only [Option.some.injEq] at he; subst he
            exact OpS.sameV R (ta_same hu hd hs) (hold2 hv)
          · rename_i hs
            split at he
            · rename_i hok
              simp only [Option.some.injEq] at he; subst he; subst hok
              exact OpS.sameV R (ta_other hu hd hs hi hz) (tup2 (plain_refl hp))
            · simp at he
        · rename_i e1 e2; simp at e2
        · simp at he
      · simp [aop] at he
    · simp [aop] at he
  · simp [aop] at he

/-! methods -/

inductive PlRel (g : Ghost) : APl → Place → Prop
  | val {v y : Value} (h : VRel g v y) : PlRel g (.val v) (.val y)
  | var {a r : Addr} (h : ARel g a r) : PlRel g (.var a) (.var r)

theorem get_sound (R : Rel P B g h w) {t : TypeId} {x : APl} {y : Place} (hp : PlRel g x y) {v : Value} (hv : x.get P h t = some v) : ∃ u, (y.get t).run P w = .ok u w ∧ VRel g v u := by
  cases hp with
  | val h1 => simp only [APl.get, Option.some.injEq] at hv; subst hv; exact ⟨_, rfl, h1⟩
  | var h1 =>
    simp only [APl.get] at hv
    split at hv
    · rename_i q hq
      exact loadVar_sound R hq h1 hv
    · simp at hv

theorem run_fieldPlace {f : Field} {r : Addr} (h0 : ¬ (asize P f.type).getD 0 = 0) : (fieldPlace r f).run P w = .ok (r.add f.offset) w := by
  cases hs : asize P f.type with
  | none => simp [hs] at h0
  | some n =>
    simp [hs] at h0
    unfold fieldPlace
    rw [run_bindE (run_size hs)]
    simp [h0]

theorem follow_sound (R : Rel P B g h w) : ∀ {path : List FieldStep} {t : TypeId} {x : APl} {y : Place} (hp : PlRel g x y) {t' : TypeId} {x' : APl} (hf : afollow P h path t x = some (t', x')),
    ∃ y', (follow path t y).run P w = .ok (t', y') w ∧ PlRel g x' y' := by
  intro path
  induction path with
  | nil => intro t x y hp t' x' hf; simp [afollow] at hf; obtain ⟨rfl, rfl⟩ := hf; exact ⟨y, rfl, hp⟩
  | cons s path ih =>
    intro t x y hp t' x' hf
    unfold afollow at hf
    split at hf
    · rename_i fields hu
      split at hf
      · rename_i f hfl
        split at hf
        · rename_i hd
          split at hf
          · rename_i a ha
            obtain ⟨u, hu', hv⟩ := get_sound R hp ha
            obtain ⟨r, rfl, har⟩ := rel_ptr hv
            split at hf
            · simp at hf
            · rename_i h0
              obtain ⟨y', hy', hp'⟩ := ih (.var (har.add f.offset)) hf
              refine ⟨y', ?_, hp'⟩
              unfold follow
              rw [run_bindE (run_und hu)]
              simp only [hfl, hd, if_true]
              rw [run_bindE hu', run_bindE (a := r) (w' := w) rfl, run_bindE (run_fieldPlace h0)]
              exact hy'
          · simp at hf
        · rename_i hd
          cases hp with
          | var har =>
            simp only at hf
            split at hf
            · simp at hf
            · rename_i h0
              obtain ⟨y', hy', hp'⟩ := ih (.var (har.add f.offset)) hf
              refine ⟨y', ?_, hp'⟩
              unfold follow
              rw [run_bindE (run_und hu)]
              simp only [hfl, hd]
              simp only [Bool.false_eq_true, if_false]
              rw [run_bindE (run_fieldPlace h0)]
              exact hy'
          | val hv =>
            split at hf
            · rename_i a e; simp at e
            · rename_i cs e
              simp only [APl.val.injEq] at e; subst e
              obtain ⟨b, rfl, hs, hr⟩ := rel_agg hv
              split at hf
              · rename_i q hq
                split at hf
                · rename_i v hv'
                  obtain ⟨u, hu', hvu⟩ := part_sound (w := w) hq hs hr hv'
                  obtain ⟨y', hy', hp'⟩ := ih (.val hvu) hf
                  refine ⟨y', ?_, hp'⟩
                  unfold follow
                  rw [run_bindE (run_und hu)]
                  simp only [hfl, hd]
                  simp only [Bool.false_eq_true, if_false]
                  rw [run_bindE hu']
                  exact hy'
                · simp at hf
              · simp at hf
            · simp at hf
      · simp at hf
    · simp at hf

theorem recv_sound (R : Rel P B g h w) {xt : TypeId} {x : APl} {y : Place} (hp : PlRel g x y) {ptr : Bool} {v : Value} (hv : arecv P h xt x ptr = some v) (wr : Option String) : ∃ u, (receiverAt xt y ptr wr).run P w = .ok u w ∧ VRel g v u := by
  unfold arecv at hv
  split at hv
  · simp at hv
  · rename_i elem hu
    split at hv
    · rename_i hptr
      subst hptr
      obtain ⟨u, hu', hvu⟩ := get_sound R hp hv
      refine ⟨u, ?_, hvu⟩
      unfold receiverAt
      rw [run_bindE (run_und hu)]
      exact hu'
    · rename_i hptr
      have hptr : ptr = false := by simpa using hptr
      subst hptr
      split at hv
      · rename_i a ha
        obtain ⟨u, hu', hvu⟩ := get_sound R hp ha
        obtain ⟨r, rfl, har⟩ := rel_ptr hvu
        split at hv
        · rename_i q hq
          obtain ⟨u2, hu2, hvu2⟩ := loadVar_sound R hq har hv
          refine ⟨u2, ?_, hvu2⟩
          unfold receiverAt
          rw [run_bindE (run_und hu)]
          simp only
          rw [run_bindE hu']
          cases wr with
          | none =>
            simp only
            rw [run_bindE (a := .pointer (some r)) (w' := w) rfl, run_bindE (a := r) (w' := w) rfl]; exact hu2
          | some name =>
            simp only
            rw [run_bindE (a := .pointer (some r)) (w' := w) rfl, run_bindE (a := r) (w' := w) rfl]; exact hu2
        · simp at hv
      · simp at hv
  · rename_i d hnp hu
    split at hv
    · rename_i hptr
      subst hptr
      cases hp with
      | val h1 => simp at hv
      | var h1 =>
        simp only [Option.some.injEq] at hv; subst hv
        refine ⟨_, ?_, .ptr h1⟩
        unfold receiverAt
        rw [run_bindE (run_und hu)]
        cases d <;> first | rfl | exact (hnp _ rfl).elim
    · rename_i hptr
      have hptr : ptr = false := by simpa using hptr
      subst hptr
      obtain ⟨u, hu', hvu⟩ := get_sound R hp hv
      refine ⟨u, ?_, hvu⟩
      unfold receiverAt
      rw [run_bindE (run_und hu)]
      cases d <;> first | exact hu' | exact (hnp _ rfl).elim

theorem method_sound (R : Rel P B g h w) {t : TypeId} {v y : Value} (hv : VRel g v y) {name : String} {f : FuncId} {r : Value} (hm : amethod P h t v name = some (f, r)) (n : Nat) :
    ∃ u, (method (n + 1) t y name).run P w = .ok (f, u) w ∧ VRel g r u := by
  unfold amethod at hm
  split at hm
  · simp at hm
  · rename_i i hi
    split at hm
    · simp at hm
    · rename_i m hmm
      split at hm
      · simp at hm
      · rename_i xt x hx
        obtain ⟨y', hy', hp'⟩ := follow_sound R (.val hv) hx
        split at hm
        · simp at hm
        · rename_i f' ptr hfu
          cases hr : arecv P h xt x ptr with
          | none => simp [hr] at hm
          | some r' =>
            simp [hr] at hm
            obtain ⟨rfl, rfl⟩ := hm
            obtain ⟨u, hu, hvu⟩ := recv_sound R hp' hr (if m.path.isEmpty then some ((name.splitOn ".").getLastD name) else none)
            refine ⟨u, ?_, hvu⟩
            unfold method
            rw [run_bindE (run_info hi)]
            simp only [hmm]
            rw [run_bindE hy']
            simp only [hfu]
            rw [run_bindE hu]; rfl

/-! calls -/

theorem LR_plain {l l' : List Value} (hl : LR g l l') (hp : l.all plain = true) : l' = l := by
  rw [List.all_eq_true] at hp
  apply List.ext_getElem? 
  intro i
  cases e : l[i]? with
  | none => rw [List.getElem?_eq_none_iff] at e; rw [List.getElem?_eq_none_iff, ← hl.1]; exact e
  | some x =>
    obtain ⟨y, hy, hv⟩ := hl.get e
    rw [hy, plain_eq (hp x (List.mem_of_getElem? e)) hv]

theorem mm_sound (R : Rel P B g h w) {mx : Bool} {c : Call} {ts : Array TypeId} {ty : TypeId} {l' : Array Value} (hl : LR g (c.args.toList.map ρ) l'.toList) {res : ARes} (he : aop P h ρ (.mm mx c.args.toList) = some res) :
    OpS P B g w (do pure (.value (← (if mx then Builtin.max_ ts ty l' else Builtin.min_ ts ty l' : Sem Value)))) res := by
  simp only [aop] at he
  split at he
  · rename_i k a k' b e
    rw [e] at hl
    obtain ⟨y1, l1, h1, hv1, hl1⟩ := hl.cons_inv
    obtain ⟨y2, l2, h2, hv2, hl2⟩ := hl1.cons_inv
    have h3 := hl2.nil_inv
    subst h3; subst h2
    rw [rel_int hv1, rel_int hv2] at h1
    have h1' : l' = #[.int k a, .int k' b] := Array.toList_inj.1 h1
    subst h1'
    simp only [Option.some.injEq] at he; subst he
    cases mx
    · exact OpS.sameV R rfl (.int _ _)
    · exact OpS.sameV R rfl (.int _ _)
  · split at he
    · rename_i hp
      obtain ⟨v, hv, rfl⟩ := toVal_some he
      have h1 := LR_plain hl hp
      have h1' : l' = (c.args.toList.map ρ).toArray := Array.toList_inj.1 (by simpa using h1)
      subst h1'
      obtain ⟨hr, hpl⟩ := pures_run (w := w) hv
      refine OpS.sameV R ?_ (plain_refl hpl)
      cases mx <;> exact hr
    · simp at he

theorem call_sound (R : Rel P B g h w) {c : Call} {ty : TypeId} (hρ : ∀ x ∈ c.operands, VRel g (ρ x) (ρ' x)) {res : ARes} (he : aop P h ρ (compCall P c) = some res) :
    OpS P B g w (do let d ← resolve ρ' c ty; invoke d.target d.args) res := by
  have hargs : ∀ x ∈ c.args, VRel g (ρ x) (ρ' x) := by
    intro x hx
    refine hρ x ?_
    unfold Call.operands
    exact Array.mem_append.2 (.inr hx)
  have hmap : LR g (c.args.toList.map ρ) (c.args.map ρ').toList := by
    have := LR.map (g := g) c.args.toList ρ ρ' fun x hx => hargs x (by simpa using hx)
    simpa using this
  unfold compCall at he
  split at he
  · -- a function's value
    rename_i f hcal
    have hf : VRel g (ρ f) (ρ' f) := hρ f (by unfold Call.operands; rw [hcal]; simp)
    simp only [aop] at he
    unfold acallee at he
    split at he
    · rename_i id first captured e
      simp only [Option.some.injEq] at he; subst he
      rw [e] at hf
      generalize hy : ρ' f = y at hf
      cases hf with
      | @func fn a b cc d hfn h1 h2 ha hc =>
        refine ⟨b ++ c.args.map ρ' ++ d, ?_, ?_⟩
        · have l1 : LR g first.toList b.toList := ⟨by simpa using h1, fun i x y hx hy => ha i x y (by simpa using hx) (by simpa using hy)⟩
          have l2 : LR g captured.toList d.toList := ⟨by simpa using h2, fun i x y hx hy => hc i x y (by simpa using hx) (by simpa using hy)⟩
          simpa using (l1.append hmap).append l2
        · simp only
          unfold resolve
          simp only [hcal, hy]
          rfl
    · rename_i l first captured e
      split at he
      · rename_i h0
        simp only [Option.some.injEq] at he; subst he
        rw [e] at hf
        generalize hy : ρ' f = y at hf
        cases hf with
        | func fn hfn => exact (hfn _ rfl).elim
        | @yield l' r hl =>
          refine ⟨c.args.map ρ', by simpa using hmap, r, hl, ?_⟩
          unfold resolve
          simp only [hcal, hy]
          simp [Deferred.ofValue, invoke]
      · simp at he
    · simp at he
  · -- a method
    rename_i r name hcal
    have hr : VRel g (ρ r) (ρ' r) := hρ r (by unfold Call.operands; rw [hcal]; simp)
    simp only [aop] at he
    split at he
    · rename_i t v e
      split at he
      · rename_i f rv hm
        simp only [Option.some.injEq] at he; subst he
        rw [e] at hr
        obtain ⟨u, hu, hv⟩ := rel_iface hr
        obtain ⟨y, hy, hvy⟩ := method_sound R hv hm (P.types.size + 99)
        refine ⟨#[y] ++ c.args.map ρ', by simpa using LR.cons hvy (by simpa using hmap), ?_⟩
        simp only
        unfold resolve
        simp only [hcal, hu]
        rw [run_bindE (a := { target := .fn (.method name) #[], args := #[.iface t u] ++ c.args.map ρ' }) (w' := w) rfl]
        simp only [invoke]
        have h0 : (#[Value.iface t u] ++ c.args.map ρ')[0]? = some (.iface t u) := by rw [Array.getElem?_append_left (by simp)]; rfl
        have h1 : (#[Value.iface t u] ++ c.args.map ρ').extract 1 (#[Value.iface t u] ++ c.args.map ρ').size = c.args.map ρ' := by
          apply Array.toList_inj.1; simp; exact List.take_of_length_le (by simp)
        rw [h0]
        simp only [h1, callMethod]
        rw [run_bindE (run_program P w)]
        have hy' : (method (P.types.size + Made.depth) t u name).run P w = .ok (f, y) w := hy
        rw [run_bindE hy']
      · simp at he
    · simp at he
  · -- a builtin
    rename_i b hcal
    have hrun : ∀ {r : Result Next}, (builtin b c.argTypes ty (c.args.map fun | .const _ => true | _ => false) (c.args.map ρ')).run P w = r → (do let d ← resolve ρ' c ty; invoke d.target d.args : Sem Next).run P w = r := by
      intro r hr
      unfold resolve
      simp only [hcal]
      exact hr
    have lift : ∀ {s : Sem Next}, (do let d ← resolve ρ' c ty; invoke d.target d.args : Sem Next).run P w = s.run P w → OpS P B g w s res → OpS P B g w (do let d ← resolve ρ' c ty; invoke d.target d.args) res := by
      intro s hs ho
      cases res with
      | val v h' =>
        obtain ⟨y, w', g', h1, h2⟩ := ho
        exact ⟨y, w', g', by rw [hs]; exact h1, h2⟩
      | call tg args =>
        obtain ⟨a', h1, h2⟩ := ho
        refine ⟨a', h1, ?_⟩
        cases tg with
        | fn f => simp only at h2 ⊢; rw [hs]; exact h2
        | yield l => simp only at h2 ⊢; obtain ⟨r, h3, h4⟩ := h2; exact ⟨r, h3, by rw [hs]; exact h4⟩
    split at he
    · -- len
      rename_i x xs t ts ha ht
      have hx : VRel g (ρ x) (ρ' x) := hargs x (by rw [← Array.mem_toList_iff, ha]; simp)
      have e1 : c.args.map ρ' = (ρ' x :: xs.map ρ').toArray := by apply Array.toList_inj.1; simp [ha]
      have e2 : c.argTypes = (t :: ts).toArray := by apply Array.toList_inj.1; simp [ht]
      refine lift (s := do pure (.value (← Builtin.len_ (t :: ts).toArray ty (ρ' x :: xs.map ρ').toArray))) (hrun (by rw [e1, e2]; rfl)) ?_
      split at he
      · rename_i hu
        simp only [aop] at he
        split at he
        · rename_i s e
          rw [e] at hx
          simp only [Option.some.injEq] at he; subst he
          exact OpS.sameV R (by unfold Builtin.len_; simp only [List.getElem?_toArray, List.getElem?_cons_zero]; rw [run_bindE (run_und hu), rel_string hx]; rfl) (.int _ _)
        · simp at he
      · rename_i el hu
        simp only [aop] at he
        split at he
        · rename_i a n cc e
          rw [e] at hx
          simp only [Option.some.injEq] at he; subst he
          cases a with
          | none => exact OpS.sameV R (by unfold Builtin.len_; simp only [List.getElem?_toArray, List.getElem?_cons_zero]; rw [run_bindE (run_und hu), rel_none_slice hx]; rfl) (.int _ _)
          | some a =>
            obtain ⟨r, rc, hr, _⟩ := rel_slice hx
            exact OpS.sameV R (by unfold Builtin.len_; simp only [List.getElem?_toArray, List.getElem?_cons_zero]; rw [run_bindE (run_und hu), hr]; rfl) (.int _ _)
        · simp at he
      · rename_i n el hu
        simp only [aop, Option.some.injEq] at he; subst he
        refine OpS.sameV R (y := .int .i64 n) ?_ (.int _ _)
        unfold Builtin.len_; simp only [List.getElem?_toArray, List.getElem?_cons_zero]; rw [run_bindE (run_und hu)]
        cases ρ' x <;> rfl
      · rename_i arr hu
        split at he
        · rename_i n el hu2
          simp only [aop, Option.some.injEq] at he; subst he
          refine OpS.sameV R (y := .int .i64 n) ?_ (.int _ _)
          unfold Builtin.len_; simp only [List.getElem?_toArray, List.getElem?_cons_zero]; rw [run_bindE (run_und hu)]
          cases ρ' x <;> (simp only; rw [run_bindE (run_und hu2)]; rfl)
        · simp [aop] at he
      · simp [aop] at he
    · -- cap
      rename_i x xs t ts ha ht
      have hx : VRel g (ρ x) (ρ' x) := hargs x (by rw [← Array.mem_toList_iff, ha]; simp)
      have e1 : c.args.map ρ' = (ρ' x :: xs.map ρ').toArray := by apply Array.toList_inj.1; simp [ha]
      have e2 : c.argTypes = (t :: ts).toArray := by apply Array.toList_inj.1; simp [ht]
      refine lift (s := do pure (.value (← Builtin.cap_ (t :: ts).toArray ty (ρ' x :: xs.map ρ').toArray))) (hrun (by rw [e1, e2]; rfl)) ?_
      split at he
      · rename_i el hu
        simp only [aop] at he
        split at he
        · rename_i a n cc e
          rw [e] at hx
          split at he
          · rename_i hc
            simp only [Option.some.injEq] at he; subst he
            have key : ∀ {a' : Option Addr}, ρ' x = .slice a' n cc → (Builtin.cap_ (t :: ts).toArray ty (ρ' x :: xs.map ρ').toArray).run P w = .ok (.int .i64 cc) w := by
              intro a' hr
              unfold Builtin.cap_
              simp only [List.getElem?_toArray, List.getElem?_cons_zero]
              rw [run_bindE (run_und hu), hr]
              rfl
            cases a with
            | none => exact OpS.sameV R (key (rel_none_slice hx)) (.int _ _)
            | some a =>
              obtain ⟨r, rc, hr, _, h2, _⟩ := rel_slice hx
              have := h2 hc; subst this
              exact OpS.sameV R (key hr) (.int _ _)
          · simp at he
        · simp at he
      · simp [aop] at he
    · -- append
      rename_i s x st xt ha ht
      have hs : VRel g (ρ s) (ρ' s) := hargs s (by rw [← Array.mem_toList_iff, ha]; simp)
      have hx : VRel g (ρ x) (ρ' x) := hargs x (by rw [← Array.mem_toList_iff, ha]; simp)
      have e1 : c.args.map ρ' = #[ρ' s, ρ' x] := by apply Array.toList_inj.1; simp [ha]
      have e2 : c.argTypes = #[st, xt] := by apply Array.toList_inj.1; simp [ht]
      refine lift (s := do pure (.value (← Builtin.append_ #[st, xt] ty #[ρ' s, ρ' x]))) (hrun (by rw [e1, e2]; rfl)) ?_
      split at he
      · rename_i el xd hst hxt
        split at he
        · simp [aop] at he
        · rename_i hxd
          split at he
          · rename_i i zl hi hz
            exact os_app R hst hxt (by simpa using hxd) hi hz hs hx he
          · simp [aop] at he
      · simp [aop] at he
    · -- copy
      rename_i d s t ts ha ht
      have hd : VRel g (ρ d) (ρ' d) := hargs d (by rw [← Array.mem_toList_iff, ha]; simp)
      have hs : VRel g (ρ s) (ρ' s) := hargs s (by rw [← Array.mem_toList_iff, ha]; simp)
      have e1 : c.args.map ρ' = #[ρ' d, ρ' s] := by apply Array.toList_inj.1; simp [ha]
      have e2 : c.argTypes = (t :: ts).toArray := by apply Array.toList_inj.1; simp [ht]
      refine lift (s := do pure (.value (← Builtin.copy_ (t :: ts).toArray ty #[ρ' d, ρ' s]))) (hrun (by rw [e1, e2]; rfl)) ?_
      split at he
      · rename_i el hu
        split at he
        · rename_i n hn
          exact os_copy R hu hn hd hs he
        · simp [aop] at he
      · simp [aop] at he
    · -- max
      have := mm_sound R (mx := true) (c := c) (ts := c.argTypes) (ty := ty) hmap he
      exact lift (s := do pure (.value (← Builtin.max_ c.argTypes ty (c.args.map ρ')))) (hrun rfl) this
    · -- min
      have := mm_sound R (mx := false) (c := c) (ts := c.argTypes) (ty := ty) hmap he
      exact lift (s := do pure (.value (← Builtin.min_ c.argTypes ty (c.args.map ρ')))) (hrun rfl) this
    · simp [aop] at he

theorem ORel.of {o : Option Operand} {l : Array Operand} (hρ : ∀ x ∈ l, VRel g (ρ x) (ρ' x)) (ho : ∀ x, o = some x → x ∈ l) : ORel g (o.map ρ) (o.map ρ') :=
  ORel.map fun x hx => hρ x (ho x hx)

theorem op_sound (R : Rel P B g h w) {o : Oper} (hρ : ∀ x ∈ o.op.operands, VRel g (ρ x) (ρ' x)) {res : ARes} (he : aop P h ρ (compOp P o.op) = some res) : OpS P B g w (execOp ρ' o) res := by
  obtain ⟨dst, op, ty, pos, after, guard⟩ := o
  simp only at hρ he
  unfold execOp
  simp only
  cases op with
  | move x => exact os_move R (hρ x (by simp [Op.operands])) he
  | assign x => exact os_move R (hρ x (by simp [Op.operands])) he
  | pick c a b => exact os_pick R (hρ c (by simp [Op.operands])) (hρ a (by simp [Op.operands])) (hρ b (by simp [Op.operands])) he
  | alloc t => exact os_new R he
  | box t x => exact os_box R (hρ x (by simp [Op.operands])) he
  | build t parts =>
    refine os_build R (fun p hp => hρ p.2 ?_) he
    simp only [Op.operands, List.mem_toArray, List.mem_map]
    exact ⟨p, by simpa using hp, rfl⟩
  | buildSlice t len parts =>
    refine os_lit R (fun p hp => hρ p.2 ?_) he
    simp only [Op.operands, List.mem_toArray, List.mem_map]
    exact ⟨p, by simpa using hp, rfl⟩
  | load t x => exact os_load R (hρ x (by simp [Op.operands])) he
  | store t a x => exact os_store R (hρ a (by simp [Op.operands])) (hρ x (by simp [Op.operands])) he
  | nilCheck x => exact os_chk R (hρ x (by simp [Op.operands])) (o := ⟨dst, .nilCheck x, ty, pos, after, guard⟩) rfl he
  | binOp op t x y yt => exact os_bin R (hρ x (by simp [Op.operands])) (hρ y (by simp [Op.operands])) he
  | unOp op t x => exact os_un R (hρ x (by simp [Op.operands])) he
  | convert s d x => exact os_convert R (hρ x (by simp [Op.operands])) he
  | makeInterface t x => exact os_mkI R (hρ x (by simp [Op.operands])) he
  | makeFunc fn a b =>
    have ha : ∀ x ∈ a, VRel g (ρ x) (ρ' x) := fun x hx => hρ x (Array.mem_append.2 (.inl hx))
    have hb : ∀ x ∈ b, VRel g (ρ x) (ρ' x) := fun x hx => hρ x (Array.mem_append.2 (.inr hx))
    simp only [compOp] at he
    split at he
    · simp [aop] at he
    · rename_i hn
      exact os_mkF R (fun l e => hn l e) ha hb he
  | makeSlice t l c => exact os_mkS R (hρ l (by simp [Op.operands])) (hρ c (by simp [Op.operands])) he
  | slice t x lo hi mx =>
    have hx := hρ x (by simp [Op.operands])
    have hlo : ORel g (lo.map ρ) (lo.map ρ') := ORel.of hρ fun z hz => by subst hz; simp [Op.operands]
    have hhi : ORel g (hi.map ρ) (hi.map ρ') := ORel.of hρ fun z hz => by subst hz; simp [Op.operands]
    have hmx : ORel g (mx.map ρ) (mx.map ρ') := ORel.of hρ fun z hz => by subst hz; simp [Op.operands]
    simp only [compOp] at he
    split at he
    · rename_i e hu
      split at he
      · rename_i s hs; exact os_slc R hu hs hx hlo hhi hmx he
      · simp [aop] at he
    · rename_i hu
      split at he
      · simp [aop] at he
      · rename_i hm
        have : mx = none := by cases mx <;> simp_all
        subst this
        exact os_slcStr R hu hx hlo hhi he
    · rename_i n e hu
      split at he
      · rename_i s hs
        split at he
        · rename_i hn; exact os_slcArr R hu hs hx hlo hhi hmx hn he
        · simp [aop] at he
      · simp [aop] at he
    · simp [aop] at he
  | fieldAddr t x i => exact os_fad R (hρ x (by simp [Op.operands])) he
  | field t x i => exact os_fld R (hρ x (by simp [Op.operands])) he
  | indexAddr t x i => exact os_iad R (hρ x (by simp [Op.operands])) (hρ i (by simp [Op.operands])) he
  | index t x i => exact os_ix R (hρ x (by simp [Op.operands])) (hρ i (by simp [Op.operands])) he
  | typeAssert x xt a ok => exact os_asrt R (hρ x (by simp [Op.operands])) he
  | extract x i => exact os_extr R (hρ x (by simp [Op.operands])) he
  | call c => exact call_sound R hρ he
  | _ => simp [compOp, aop] at he

end

end Go.Ax
