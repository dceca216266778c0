/- An abstract machine for Go programs: its runs against the model's: whole texts. -/
import Derived.Test.YtpemffaclmpnnaaDoorXS
namespace Go.Ax
set_option linter.unusedVariables false
set_option linter.unusedSimpArgs false

section
variable {P : Program} {B : Nat} {g : Ghost} {h : Heap} {w : World}

theorem compOps_get {ops : Array Oper} {i : Nat} {o : Oper} (ho : ops[i]? = some o) : (compOps P ops)[i]? = some (compOper P ops (befores ops.toList) (effOf P ops) i o) := by
  unfold compOps
  simp only [List.getElem?_mapIdx]
  have : ops.toList[i]? = some o := by simpa using ho
  rw [this]; rfl

theorem compOps_len {ops : Array Oper} : (compOps P ops).length = ops.size := by
  unfold compOps; simp

theorem QX.mono {N : Nat} {g0 g1 : Ghost} {w0 w1 : World} {e : Ex} {t' : List Value} {h' : Heap} (E : Ext g0 w0 g1 w1) {ex : Exit} {a' : Act} {w' : World} (hq : QX P B N g1 w1 e t' h' ex a' w') : QX P B N g0 w0 e t' h' ex a' w' := by
  obtain ⟨h1, g', h2, h3⟩ := hq
  exact ⟨h1, g', E.trans h2, h3⟩

theorem ops_sound {cf : CF} (hcf : CallOK P B cf) {ops : Array Oper} {r : Option Nat} {N : Nat} {g0 : Ghost} {w0 : World} {t' : List Value} {h' : Heap} : ∀ (k i : Nat) (t : List Value) (h : Heap) (g : Ghost) (a : Act) (w : World), i + k = ops.size → runOps P cf ((compOps P ops).drop i) t h = some (t', h') →
    Rel P B g h w → LR g t a.tmps.toList → Marks g w N a.defers → Ext g0 w0 g w → wpOpsIn (F0 r) 0 P ops (QX P B N g0 w0 .normal t' h') ((List.range ops.size).drop i) a w := by
  intro k
  induction k with
  | zero =>
    intro i t h g a w hi hr R hl hm E
    have : (compOps P ops).drop i = [] := by rw [List.drop_eq_nil_iff, compOps_len]; omega
    rw [this] at hr
    simp only [runOps, Option.some.injEq, Prod.mk.injEq] at hr
    obtain ⟨rfl, rfl⟩ := hr
    have : (List.range ops.size).drop i = [] := by rw [List.drop_eq_nil_iff, List.length_range]; omega
    rw [this]
    exact ⟨trivial, g, E, R, hl, hm⟩
  | succ k ih =>
    intro i t h g a w hi hr R hl hm E
    have hlt : i < ops.size := by omega
    have ho : ops[i]? = some ops[i] := Array.getElem?_eq_getElem hlt
    have hlc : i < (compOps P ops).length := by rw [compOps_len]; exact hlt
    have hge : (compOps P ops)[i] = compOper P ops (befores ops.toList) (effOf P ops) i ops[i] := by
      have := compOps_get (P := P) ho
      rw [List.getElem?_eq_getElem hlc] at this
      exact Option.some.inj this
    rw [List.drop_eq_getElem_cons hlc, hge] at hr
    have hrl : i < (List.range ops.size).length := by simpa using hlt
    rw [List.drop_eq_getElem_cons hrl, List.getElem_range]
    simp only [wpOpsIn, ho]
    simp only [runOps] at hr
    split at hr
    · rename_i hw
      have hw' := wanted_rel hl (o := ops[i]) hw
      rw [hw']
      simp only [if_true]
      split at hr
      · rename_i v h1 hop
        refine opIn_sound hcf R (fun x _ => eval_rel hl x) hop fun y w' g' hy R' E' => ?_
        exact ih (i + 1) _ _ g' _ w' (by omega) hr R' (put_rel (hl.mono E'.le) hy _) (by rw [put_defers]; exact hm.ext E') (E.trans E')
      · simp at hr
    · rename_i hw
      have hw' := wanted_rel hl (o := ops[i]) hw
      rw [hw']
      simp only [Bool.false_eq_true, if_false]
      refine ⟨fun _ _ => trivial, ?_⟩
      exact ih (i + 1) _ _ g _ w (by omega) hr R (put_rel hl .skip _) (by rw [put_defers]; exact hm) E
    · simp at hr

theorem forget_rel {t ts : List Value} (hl : LR g t ts) (keep : Nat) : LR g (forget keep t) ts := by
  unfold forget
  refine ⟨by simpa using hl.1, fun i x y hx hy => ?_⟩
  rw [List.getElem?_mapIdx] at hx
  cases e : t[i]? with
  | none => simp [e] at hx
  | some v =>
    rw [e] at hx
    simp only [Option.map_some, Option.some.injEq] at hx
    split at hx
    · subst hx; exact hl.2 i v y e hy
    · subst hx; exact .top _

/-! loops over a function: their records -/

theorem run_getLoop {r : Nat} {L : Loop} (hL : w.heap[r]? = some (.loop L)) : (Instr.getLoop r).run P w = .ok L w := by
  unfold Instr.getLoop
  rw [run_bindE (a := .loop L) (w' := w) (by simp [getObj, Sem.run, hL])]
  rfl

theorem run_setLoop {r : Nat} {L L' : Loop} (hL : w.heap[r]? = some (.loop L)) : (setObj r (.loop L')).run P w = .ok () { w with heap := w.heap.setIfInBounds r (.loop L') } := by
  simp [setObj, Sem.run, hL]

theorem setObj_other {r i : Nat} {o : Obj} (hi : i ≠ r) : (w.heap.setIfInBounds r o)[i]? = w.heap[i]? := by
  rw [Array.getElem?_setIfInBounds, if_neg (Ne.symm hi)]

/-- A loop's record is written. -/
theorem Rel.setLp (R : Rel P B g h w) {l r : Nat} {p' : Lp} {L' : Loop} (hl : g.lp l = some r)
    (hp : LpRel P g { w with heap := w.heap.setIfInBounds r (.loop L') } p' r L') :
    Rel P B g { h with lps := h.lps.set l p' } { w with heap := w.heap.setIfInBounds r (.loop L') } ∧ Ext g w g { w with heap := w.heap.setIfInBounds r (.loop L') } := by
  obtain ⟨hll, hrB, hrs, L, hL⟩ := R.lpdom _ _ hl
  have oth : ∀ i, i ≠ r → ({ w with heap := w.heap.setIfInBounds r (.loop L') } : World).heap[i]? = w.heap[i]? := fun i hi => setObj_other hi
  refine ⟨⟨by simpa using R.base, ?_, ?_, R.inj, ?_, ?_, ?_, R.lpinj⟩, ⟨Gle.refl g, fun q hq => .inl hq, by simp, fun q hq hn => oth q (fun e => hn (e ▸ .inr ⟨l, hl⟩)), rfl, rfl, rfl⟩⟩
  · intro b k hk
    have K := R.blk b k hk
    refine ⟨K.ne, K.last, K.le, K.es, K.all, fun v s hd hs => ?_⟩
    obtain ⟨r2, c, e, f, hm, hh, rest⟩ := K.at_ v s hd hs
    refine ⟨r2, c, e, f, hm, ?_, rest⟩
    rw [oth r2 (fun e => by subst e; rw [hL] at hh; simp at hh), hh]
  · intro b v q hm
    obtain ⟨h1, h2, h3⟩ := R.dom b v q hm
    exact ⟨h1, h2, by simpa using h3⟩
  · intro b o x hx
    obtain ⟨h1, y, hy, hv⟩ := R.ro b o x hx
    refine ⟨h1, y, ?_, hv⟩
    rw [← hy]
    exact World.cell?_of_block (w := w) (oth _ (by show (roA g b).block ≠ r; omega))
  · intro l2 p2 hp2
    simp only at hp2
    by_cases e : l = l2
    · subst e
      rw [List.getElem?_set_self hll] at hp2
      simp only [Option.some.injEq] at hp2; subst hp2
      exact ⟨r, L', hl, hp⟩
    · rw [List.getElem?_set_ne e] at hp2
      obtain ⟨r2, L2, hl2, hL2⟩ := R.lps l2 p2 hp2
      exact ⟨r2, L2, hl2, by rw [oth r2 (fun e2 => by subst e2; exact e (R.lpinj _ _ _ hl hl2))]; exact hL2.at_, hL2.state, hL2.pend, hL2.tmps, hL2.params, hL2.assign, hL2.body⟩
  · intro l2 r2 hl2
    obtain ⟨h1, h2, h3, L2, hL2⟩ := R.lpdom l2 r2 hl2
    refine ⟨by simpa using h1, h2, by simpa using h3, ?_⟩
    by_cases e : r2 = r
    · subst e
      exact ⟨L', by simp [hrs]⟩
    · exact ⟨L2, by rw [oth r2 e]; exact hL2⟩

/-- A new loop's record. -/
theorem Rel.newLp (R : Rel P B g h w) {r : Nat} {p : Lp} {L : Loop} (hr : w.heap[r]? = some (.loop L)) (hn : ¬ InR g r) (hB : B ≤ r) (hlt : r < w.heap.size) (hs : stateRel p.state L.state) (hpd : pendRel p.pending L.pending) (ht : LR g p.tmps L.tmps.toList)
    (hps : p.params = L.params.toList) (ha : ∃ all res x y, p.assign = comp P all res L.assign x y) (hb : ∃ all res x y, p.body = comp P all res L.body x y) :
    ∃ g', Rel P B g' { h with lps := h.lps ++ [p] } w ∧ Gle g g' ∧ (∀ q, InR g' q → InR g q ∨ q = r) ∧ g'.lp h.lps.length = some r := by
  let g' : Ghost := { g with lp := fun l => if l = h.lps.length then some r else g.lp l }
  have hold : ∀ l q, g.lp l = some q → l ≠ h.lps.length := by
    intro l q hq e; subst e
    have := (R.lpdom _ _ hq).1; omega
  have hnew : ∀ l q, g'.lp l = some q → g.lp l = some q ∨ (l = h.lps.length ∧ q = r) := by
    intro l q hq
    have hq' : (if l = h.lps.length then some r else g.lp l) = some q := hq
    split at hq'
    · rename_i e; simp only [Option.some.injEq] at hq'; exact .inr ⟨e, hq'.symm⟩
    · exact .inl hq'
  have gl : ∀ l q, g.lp l = some q → g'.lp l = some q := by
    intro l q hq; show (if _ then _ else _) = _
    rw [if_neg (hold l q hq)]; exact hq
  have G : Gle g g' := ⟨fun _ _ _ h => h, fun _ _ _ _ => rfl, fun _ _ _ _ => rfl, rfl, gl⟩
  refine ⟨g', ⟨R.base, ?_, R.dom, R.inj, ?_, ?_, ?_, ?_⟩, G, ?_, by show (if _ then _ else _) = _; rw [if_pos rfl]⟩
  · intro b k hk
    have K := R.blk b k hk
    refine ⟨K.ne, K.last, K.le, K.es, K.all, fun v s hd hs => ?_⟩
    obtain ⟨r2, c, e, f, hm, hh, h1, h2, h3, h4⟩ := K.at_ v s hd hs
    exact ⟨r2, c, e, f, hm, hh, h1, h2, h3, fun j x hj hx => by
      obtain ⟨y, hy, hv⟩ := h4 j x hj hx
      exact ⟨y, hy, hv.mono G⟩⟩
  · intro b o x hx
    obtain ⟨h1, y, hy, hv⟩ := R.ro b o x hx
    exact ⟨h1, y, hy, hv.mono G⟩
  · intro l2 p2 hp2
    simp only at hp2
    by_cases e : l2 < h.lps.length
    · rw [List.getElem?_append_left e] at hp2
      obtain ⟨r2, L2, hl2, hL2⟩ := R.lps l2 p2 hp2
      exact ⟨r2, L2, gl _ _ hl2, hL2.at_, hL2.state, hL2.pend, hL2.tmps.mono G, hL2.params, hL2.assign, hL2.body⟩
    · rw [List.getElem?_append_right (by omega)] at hp2
      have e2 : l2 = h.lps.length := by
        rcases Nat.lt_or_ge (l2 - h.lps.length) 1 with h1 | h1
        · omega
        · rw [List.getElem?_eq_none (by simpa using h1)] at hp2; simp at hp2
      subst e2
      simp at hp2; subst hp2
      exact ⟨r, L, by show (if _ then _ else _) = _; rw [if_pos rfl], hr, hs, hpd, ht.mono G, hps, ha, hb⟩
  · intro l2 r2 hl2
    rcases hnew l2 r2 hl2 with h1 | ⟨rfl, rfl⟩
    · obtain ⟨a1, a2, a3, a4⟩ := R.lpdom l2 r2 h1
      exact ⟨by simp; omega, a2, a3, a4⟩
    · exact ⟨by simp, hB, hlt, L, hr⟩
  · intro l1 l2 q h1 h2
    rcases hnew l1 q h1 with k1 | ⟨d1, e1⟩ <;> rcases hnew l2 q h2 with k2 | ⟨d2, e2⟩
    · exact R.lpinj _ _ _ k1 k2
    · exact (hn (e2 ▸ .inr ⟨_, k1⟩)).elim
    · exact (hn (e1 ▸ .inr ⟨_, k2⟩)).elim
    · rw [d1, d2]
  · intro q hq
    rcases hq with ⟨b, v, hm⟩ | ⟨l, hl⟩
    · exact .inl (.inl ⟨_, _, hm⟩)
    · rcases hnew l q hl with h1 | ⟨_, h1⟩
      · exact .inl (.inr ⟨l, h1⟩)
      · exact .inr h1

end

end Go.Ax
