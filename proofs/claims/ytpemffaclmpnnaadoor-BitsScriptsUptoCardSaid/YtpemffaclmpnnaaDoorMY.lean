/- An abstract machine for Go programs: loops over functions. -/
import Derived.Test.YtpemffaclmpnnaaDoorMR
namespace Go.Ax
set_option linter.unusedVariables false
set_option linter.unusedSimpArgs false

/-- The heap with its loops as given. -/
def hlps (h : Heap) (l : List Lp) : Heap := { h with lps := l }

@[simp] theorem hlps_lps (h : Heap) (l : List Lp) : (hlps h l).lps = l := rfl
@[simp] theorem hlps_dyn (h : Heap) (l : List Lp) : (hlps h l).dyn = h.dyn := rfl
@[simp] theorem hlps_ro (h : Heap) (l : List Lp) : (hlps h l).ro = h.ro := rfl
@[simp] theorem hlps_hlps (h : Heap) (l m : List Lp) : hlps (hlps h l) m = hlps h m := rfl
theorem hlps_self (h : Heap) : hlps h h.lps = h := rfl
theorem hload_lps (h : Heap) (l : List Lp) (a : Addr) : hload (hlps h l) a = hload h a := rfl
theorem RowAt.lps {h : Heap} {q v es : Nat} {l : List Value} (r : RowAt h q v es l) (m : List Lp) : RowAt (hlps h m) q v es l := ⟨r.ex⟩
theorem RowAt.unlps {h : Heap} {q v es : Nat} {l : List Value} {m : List Lp} (r : RowAt (hlps h m) q v es l) : RowAt h q v es l := ⟨r.ex⟩
theorem RowAt.same {h h' : Heap} {q v es : Nat} {l : List Value} (r : RowAt h q v es l) (e : h'.dyn[q]? = h.dyn[q]?) : RowAt h' q v es l := by
  obtain ⟨k, hk, r⟩ := r.ex
  exact ⟨k, by rw [e]; exact hk, r⟩

/-- The loops that were there stay as they were. -/
def LP (h h' : Heap) : Prop := h.lps.length ≤ h'.lps.length ∧ ∀ i, i < h.lps.length → h'.lps[i]? = h.lps[i]?
theorem LP.refl (h : Heap) : LP h h := ⟨Nat.le_refl _, fun _ _ => rfl⟩
theorem LP.trans {h h1 h2 : Heap} (a : LP h h1) (b : LP h1 h2) : LP h h2 := ⟨Nat.le_trans a.1 b.1, fun i hi => (b.2 i (Nat.lt_of_lt_of_le hi a.1)).trans (a.2 i hi)⟩
theorem LP.of {S : Nat → Prop} {h h' : Heap} (g : Chg S h h') : LP h h' := by unfold LP; rw [g.lps]; exact ⟨Nat.le_refl _, fun _ _ => rfl⟩
theorem LP.eq {h h' : Heap} (e : h'.lps = h.lps) : LP h h' := by unfold LP; rw [e]; exact ⟨Nat.le_refl _, fun _ _ => rfl⟩
theorem LP.set {h h' : Heap} (a : LP h h') {y : Nat} (hy : h.lps.length ≤ y) (x : Lp) : LP h (hlps h' (h'.lps.set y x)) :=
  ⟨by simpa using a.1, fun i hi => by rw [hlps_lps, List.getElem?_set_ne (by omega)]; exact a.2 i hi⟩
theorem LP.app (h : Heap) (l : List Lp) : LP h (hlps h (h.lps ++ l)) := ⟨by simp, fun i hi => by rw [hlps_lps, List.getElem?_append_left hi]⟩

/-- Changes of memory, whatever the loops. -/
abbrev ChgL (S : Nat → Prop) (h h' : Heap) : Prop := Chg S (hlps h []) (hlps h' [])
abbrev GrowL (h h' : Heap) : Prop := Grow (hlps h []) (hlps h' [])
theorem Chg.l {S : Nat → Prop} {h h' : Heap} (g : Chg S h h') : ChgL S h h' := ⟨g.ro, rfl, g.len, g.same⟩
theorem ChgL.lps {S : Nat → Prop} {h h' : Heap} {l m : List Lp} (g : ChgL S h h') : ChgL S (hlps h l) (hlps h' m) := ⟨g.ro, rfl, g.len, g.same⟩
theorem RowAt.chgL {S : Nat → Prop} {h h' : Heap} {q v es : Nat} {l : List Value} (r : RowAt h q v es l) (g : ChgL S h h') (hs : ¬ S q) : RowAt h' q v es l := ((r.lps []).chg g hs).unlps
theorem Own.lps {h : Heap} {v : Value} {q : Nat} {l : List Value} (o : Own h v q l) (m : List Lp) : Own (hlps h m) v q l := by
  rcases o with o | ⟨u, h1, h2⟩ | ⟨u, rest, h1, h3, h2⟩
  · exact .inl o
  · exact .inr (.inl ⟨u, h1, h2.lps m⟩)
  · exact .inr (.inr ⟨u, rest, h1, h3, h2.lps m⟩)
theorem Own.unlps {h : Heap} {v : Value} {q : Nat} {l : List Value} {m : List Lp} (o : Own (hlps h m) v q l) : Own h v q l := by
  have := o.lps h.lps
  rwa [hlps_hlps, hlps_self] at this
theorem Own.chgL {S : Nat → Prop} {h h' : Heap} {v : Value} {q : Nat} {l : List Value} (o : Own h v q l) (g : ChgL S h h') (hs : ¬ S q) : Own h' v q l := ((o.lps []).chg g hs).unlps
theorem Reads.lps {h : Heap} {v : Value} {l : List Value} (r : Reads h v l) (m : List Lp) : Reads (hlps h m) v l := r
theorem Reads.unlps {h : Heap} {v : Value} {l : List Value} {m : List Lp} (r : Reads (hlps h m) v l) : Reads h v l := r
theorem Reads.growL {h h' : Heap} {v : Value} {l : List Value} (r : Reads h v l) (g : GrowL h h') : Reads h' v l := ((r.lps []).grow g).unlps
theorem hload_growL {h h' : Heap} (g : GrowL h h') {a : Addr} {x : Value} (e : hload h a = some x) : hload h' a = some x := hload_grow g (a := a) e

section
variable {P : Program} {T : Table} {t : List Value} {h : Heap} {k : Cont}

theorem go_range {f : Operand} {ps : List Nat} {as bd : AC} {f' : FuncId} {args : List Value} (hc : acallee (evalT t f) [.func (.yield h.lps.length) #[] #[]] = some (.call (.fn f') args)) (hb : (P.funcs[f']?).any (·.body.isSome) = true)
    (g : Gives P T (.fn f') args (hlps h (h.lps ++ [⟨.ready, none, t, ps, as, bd⟩])) fun _ h2 => ∃ lp, h2.lps[h.lps.length]? = some lp ∧ lp.state ≠ .busy ∧ k.meets P T (lp.pending.getD .normal) t (hlps h2 (h2.lps.set h.lps.length { lp with state := .exhausted }))) :
    Go P T (.rangeF f ps as bd) t h k := by
  obtain ⟨v, h2, e, lp, hlp, hs, q⟩ := g
  refine ⟨0, lp.pending.getD .normal, t, hlps h2 (h2.lps.set h.lps.length { lp with state := .exhausted }), ?_, q⟩
  simp only [aexec, hc]
  rw [if_neg (by rw [hb]; simp)]
  rw [show ({ h with lps := h.lps ++ [{ state := .ready, pending := none, tmps := t, params := ps, assign := as, body := bd }] } : Heap) = hlps h (h.lps ++ [⟨.ready, none, t, ps, as, bd⟩]) from rfl, e]
  simp only [hlp]
  rw [if_neg hs]
  rfl

/-- A round of a loop over a function; d: the slot that takes what is told. -/
theorem gives_yield {y N d : Nat} {l : List (Nat × Value)} {as bd : AC} {x : Value} {Q : Value → Heap → Prop} (hp : h.lps[y]? = some ⟨.ready, none, envT N l, [d], as, bd⟩)
    (g : Go P T as (envT N ((d, x) :: l)) h (.of fun e t1 h1 => e = .normal ∧ h1 = h ∧ Go P T bd t1 (hlps h (h.lps.set y ⟨.busy, none, envT N l, [d], as, bd⟩))
      (.of fun e t3 h3 => ∃ p3, h3.lps[y]? = some p3 ∧ if e = .normal then Q (.bool true) (hlps h3 (h3.lps.set y { p3 with state := .ready, pending := none })) else Q (.bool false) (hlps h3 (h3.lps.set y { p3 with state := .done, pending := some e })))) ) :
    Gives P T (.yield y) [x] h Q := by
  obtain ⟨n1, e1, t1, h1, r1, q1⟩ := g
  rw [meets_of] at q1
  obtain ⟨rfl, rfl, n2, e2, t3, h3, r2, q2⟩ := q1
  rw [meets_of] at q2
  obtain ⟨p3, hp3, hq⟩ := q2
  have hput : (([d].zip [x]).foldl (fun t (i, v) => t.set i v) (envT N l)) = envT N ((d, x) :: l) := by
    rw [← envT_put]; rfl
  have hrun : runYield P (acallW P T) (max n1 n2) y [x] h1 = some (if e2 = .normal then (.bool true, hlps h3 (h3.lps.set y { p3 with state := .ready, pending := none })) else (.bool false, hlps h3 (h3.lps.set y { p3 with state := .done, pending := some e2 }))) := by
    unfold runYield
    simp only [hp]
    rw [if_neg (by simp), hput]
    rw [exec_mono (Nat.le_max_left n1 n2) r1]
    simp only [hp]
    rw [if_neg (by simp)]
    rw [show ({ h1 with lps := h1.lps.set y { state := .busy, pending := none, tmps := envT N l, params := [d], assign := as, body := bd } } : Heap) = hlps h1 (h1.lps.set y ⟨.busy, none, envT N l, [d], as, bd⟩) from rfl]
    rw [exec_mono (Nat.le_max_right n1 n2) r2]
    simp only [hp3]
    split <;> rfl
  obtain ⟨m, hm⟩ := lim_fin (fin_yield hrun)
  by_cases he : e2 = .normal
  · subst he
    rw [if_pos rfl] at hq
    exact ⟨_, _, acallW_of (n := m + 1) (by simp only [acallN]; rw [hm]; rfl), hq⟩
  · rw [if_neg he] at hq
    exact ⟨_, _, acallW_of (n := m + 1) (by simp only [acallN]; rw [hm, if_neg he]), hq⟩

end
end Go.Ax
