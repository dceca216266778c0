/- An abstract machine for Go programs: what the run of a region that draws its order says. -/
import Derived.Test.YtpemffaclmpnnaaDoorXE
namespace Go.Ax
set_option linter.unusedVariables false
set_option linter.unusedSimpArgs false

section
variable {P : Program}

theorem toVal_eq {h : Heap} {o : Option Value} {res : ARes} (he : toVal h o = some res) : ∃ v, o = some v ∧ res = .val v h := by
  cases o with
  | none => simp [toVal] at he
  | some v => simp [toVal] at he; exact ⟨v, rfl, he.symm⟩

/-- What does not act leaves memory as it was. -/
theorem noneff_val {op : AOp} (hn : isEff op = false) {h : Heap} {ρ : Operand → Value} {res : ARes} (he : aop P h ρ op = some res) : ∃ v, res = .val v h := by
  cases op <;> simp only [isEff] at hn <;> try (simp at hn; done)
  all_goals simp only [aop] at he
  all_goals first
    | (obtain ⟨v, _, rfl⟩ := toVal_eq he; exact ⟨v, rfl⟩)
    | (simp only [Option.some.injEq] at he; exact ⟨_, he.symm⟩)
    | (repeat' split at he
       all_goals first
         | (simp at he; done)
         | (simp only [Option.some.injEq] at he; exact ⟨_, he.symm⟩)
         | (obtain ⟨v, _, rfl⟩ := toVal_eq he; exact ⟨v, rfl⟩))

theorem heapfree_val {op : AOp} (hn : useHeap op = false) {h : Heap} {ρ : Operand → Value} {v : Value} (he : aop P h ρ op = some (.val v h)) (h' : Heap) : aop P h' ρ op = some (.val v h') := by
  have key : ∀ {o : Option Value}, toVal h o = some (.val v h) → toVal h' o = some (.val v h') := by
    intro o ho
    obtain ⟨v', rfl, hv⟩ := toVal_eq ho
    simp only [ARes.val.injEq, and_true] at hv
    subst hv; rfl
  cases op <;> simp only [useHeap, isEff] at hn <;> try (simp at hn; done)
  all_goals simp only [aop] at he ⊢
  all_goals first
    | exact key he
    | (simp only [Option.some.injEq, ARes.val.injEq, and_true] at he ⊢; exact he)
    | skip
  all_goals try
    ((repeat' split at he)
     all_goals first
       | (simp at he; done)
       | (simp_all; done)
       | (simp only [Option.some.injEq, ARes.val.injEq, and_true] at he; subst he; simp_all; done)
       | (have := key he; simp_all; done))
  case bin op t q x y =>
    have : abinop P h op t q x y (ρ x) (ρ y) = abinop P h' op t q x y (ρ x) (ρ y) := by
      have hq : ∀ a b, aeq h q a b = aeq h' q a b := by
        intro a b
        unfold aeq
        split <;> first | rfl | (simp at hn; done) | (simp_all; done)
      unfold abinop
      simp only [hq]
    rw [← this]; exact key he
  case mm mx args =>
    split at he
    · simp only [Option.some.injEq, ARes.val.injEq, and_true] at he ⊢; exact he
    · split at he
      · rename_i hp
        rw [if_pos hp]; exact key he
      · simp at he

theorem veqN_eq : ∀ (n : Nat) {a b : Value}, veqN n a b = true → a = b := by
  have lists : ∀ (n : Nat), (∀ {a b : Value}, veqN n a b = true → a = b) → ∀ {x y : Array Value}, x.size = y.size → (x.toList.zip y.toList).all (fun (a, b) => veqN n a b) = true → x = y := by
    intro n ih x y hs hall
    refine Array.ext hs fun i h1 h2 => ih ?_
    rw [List.all_eq_true] at hall
    have hm : (x[i], y[i]) ∈ x.toList.zip y.toList := by
      rw [List.mem_iff_getElem?]
      exact ⟨i, by rw [List.getElem?_zip_eq_some]; simp [h1, h2]⟩
    exact hall _ hm
  have strs : ∀ {x y : ByteArray}, (x.data.toList == y.data.toList) = true → x = y := by
    intro x y h
    cases x; cases y
    congr 1
    exact Array.toList_inj.1 (by simpa using h)
  intro n
  induction n with
  | zero =>
    intro a b h
    unfold veqN at h
    split at h
    · rw [eq_of_beq h]
    · rw [Bool.and_eq_true] at h; rw [eq_of_beq h.1, eq_of_beq h.2]
    · rw [Bool.and_eq_true] at h; rw [eq_of_beq h.1, eq_of_beq h.2]
    · rw [strs h]
    · rw [eq_of_beq h]
    · rw [Bool.and_eq_true, Bool.and_eq_true] at h; rw [eq_of_beq h.1.1, eq_of_beq h.1.2, eq_of_beq h.2]
    · rfl
    · rfl
    all_goals (try (rename_i hz; simp at hz; done))
    all_goals (try (simp at h; done))
    all_goals (rename_i hz _ _; simp at hz)
  | succ n ih =>
    intro a b h
    unfold veqN at h
    split at h
    · rw [eq_of_beq h]
    · rw [Bool.and_eq_true] at h; rw [eq_of_beq h.1, eq_of_beq h.2]
    · rw [Bool.and_eq_true] at h; rw [eq_of_beq h.1, eq_of_beq h.2]
    · rw [strs h]
    · rw [eq_of_beq h]
    · rw [Bool.and_eq_true, Bool.and_eq_true] at h; rw [eq_of_beq h.1.1, eq_of_beq h.1.2, eq_of_beq h.2]
    · rfl
    · rfl
    · rename_i n' t a u b hz
      obtain rfl : n = n' := by omega
      rw [Bool.and_eq_true] at h; rw [eq_of_beq h.1, ih h.2]
    · rename_i n' a b hz
      obtain rfl : n = n' := by omega
      rw [Bool.and_eq_true] at h; rw [lists n ih (eq_of_beq h.1) h.2]
    · rename_i n' a b hz
      obtain rfl : n = n' := by omega
      rw [Bool.and_eq_true] at h; rw [lists n ih (eq_of_beq h.1) h.2]
    · rename_i n' f a b f' a' b' hz
      obtain rfl : n = n' := by omega
      simp only [Bool.and_eq_true] at h
      obtain ⟨⟨⟨⟨h1, h2⟩, h3⟩, h4⟩, h5⟩ := h
      rw [eq_of_beq h1, lists n ih (eq_of_beq h2) h4, lists n ih (eq_of_beq h3) h5]
    · simp at h

/-- It answers so at that memory. -/
def Fact (P : Program) (op : AOp) (t : List Value) (v : Value) (h : Heap) : Prop := aop P h (evalT t) op = some (.val v h)

theorem Fact.run {cf : CF} {op : AOp} {t : List Value} {v : Value} {h : Heap} (hf : Fact P op t v h) : runOp P cf op t h = some (v, h) := by
  unfold runOp; rw [hf]

theorem Fact.of_run {cf : CF} {op : AOp} (hn : isEff op = false) {t : List Value} {v : Value} {h h' : Heap} (hr : runOp P cf op t h = some (v, h')) : Fact P op t v h ∧ h' = h := by
  unfold runOp at hr
  cases ha : aop P h (evalT t) op with
  | none => simp [ha] at hr
  | some res =>
    obtain ⟨v', rfl⟩ := noneff_val hn ha
    rw [ha] at hr
    simp only [Option.some.injEq, Prod.mk.injEq] at hr
    obtain ⟨rfl, rfl⟩ := hr
    exact ⟨ha, rfl⟩

theorem Fact.of_same {op : AOp} (hn : isEff op = false) {t : List Value} {v : Value} {h0 h : Heap} (hf : Fact P op t v h0) (hs : same P op t v h = true) : Fact P op t v h := by
  unfold same at hs
  cases hu : useHeap op with
  | false => exact heapfree_val hu hf h
  | true =>
    rw [hu] at hs
    simp only [Bool.not_true, Bool.false_or] at hs
    split at hs
    · rename_i v' h1 ha
      have := veqN_eq 6 hs
      subst this
      obtain ⟨v2, hv2⟩ := noneff_val hn ha
      simp only [ARes.val.injEq] at hv2
      rw [hv2.2] at ha
      exact ha
    · simp at hs

def cntE (L : List AOper) : Nat := (L.filter (·.eff)).length

theorem cntE_cons (o : AOper) (L : List AOper) : cntE (o :: L) = (if o.eff then 1 else 0) + cntE L := by
  unfold cntE
  cases h : o.eff <;> simp [h]; omega

/-- One operation of the run. -/
def StepF (P : Program) (cf : CF) (o : AOper) (t : List Value) (v : Value) (m k : Nat) (hs : Nat → Heap) : Prop :=
  (wantedA t o.guard = some true ∧ ((o.eff = true ∧ runOp P cf o.op t (hs m) = some (v, hs (m + 1))) ∨ (o.eff = false ∧ ∀ j, o.lo ≤ j → j ≤ o.hi → j ≤ k → Fact P o.op t v (hs j)))) ∨
  (wantedA t o.guard = some false ∧ v = skipV ∧ (o.eff = true → hs (m + 1) = hs m))

theorem drun_spec {cf : CF} : ∀ (L : List AOper) (hE : ∀ o ∈ L, o.eff = isEff o.op) (past : List Heap) (pend : List (AOper × List Value × Value)) (m : Nat) (t : List Value) (h : Heap) (t' : List Value) (h' : Heap),
    drun P cf L past pend m t h = some (t', h') → past.length = m → (∀ p ∈ pend, isEff p.1.op = false ∧ (∃ h0, Fact P p.1.op p.2.1 p.2.2 h0) ∧ (m ≤ p.1.hi → Fact P p.1.op p.2.1 p.2.2 h)) →
    ∃ (T : Nat → List Value) (V : Nat → Value) (hs : Nat → Heap), T 0 = t ∧ (∀ j, j < m → past[m - 1 - j]? = some (hs j)) ∧ hs m = h ∧ T L.length = t' ∧ hs (m + cntE L) = h' ∧
      (∀ i o, L[i]? = some o → StepF P cf o (T i) (V i) (m + cntE (L.take i)) (m + cntE L) hs ∧ T (i + 1) = putT (T i) o.dst (V i)) ∧
      (∀ p ∈ pend, ∀ j, m ≤ j → j ≤ p.1.hi → j ≤ m + cntE L → Fact P p.1.op p.2.1 p.2.2 (hs j)) := by
  intro L
  induction L with
  | nil =>
    intro hE past pend m t h t' h' hr hp hpd
    simp only [drun, Option.some.injEq, Prod.mk.injEq] at hr
    obtain ⟨rfl, rfl⟩ := hr
    refine ⟨fun _ => t, fun _ => undef, fun j => if j < m then past.getD (m - 1 - j) h else h, rfl, fun j hj => ?_, by simp, rfl, by simp [cntE], fun i o ho => by simp at ho, fun p hpm j h1 h2 h3 => ?_⟩
    · simp only [hj, if_true]
      rw [List.getD_eq_getElem?_getD]
      have : m - 1 - j < past.length := by omega
      rw [List.getElem?_eq_getElem this]; rfl
    · have : j = m := by simp [cntE] at h3; omega
      subst this
      simp only [Nat.lt_irrefl, if_false]
      exact (hpd p hpm).2.2 h2
  | cons o L ih =>
    intro hE past pend m t h t' h' hr hp hpd
    have hEo : o.eff = isEff o.op := hE o (by simp)
    have hEL : ∀ o ∈ L, o.eff = isEff o.op := fun x hx => hE x (by simp [hx])
    simp only [drun] at hr
    -- how the parts are put together
    have build : ∀ (v : Value) (past2 : List Heap) (pend2 : List (AOper × List Value × Value)) (m2 : Nat) (h2 : Heap), m2 = m + (if o.eff then 1 else 0) → drun P cf L past2 pend2 m2 (putT t o.dst v) h2 = some (t', h') → past2.length = m2 →
        (∀ p ∈ pend2, isEff p.1.op = false ∧ (∃ h0, Fact P p.1.op p.2.1 p.2.2 h0) ∧ (m2 ≤ p.1.hi → Fact P p.1.op p.2.1 p.2.2 h2)) → (∀ p ∈ pend, p ∈ pend2) →
        (o.eff = true → past2 = h :: past) → (o.eff = false → past2 = past ∧ h2 = h) →
        (∀ hs : Nat → Heap, (∀ j, j < m → past[m - 1 - j]? = some (hs j)) → hs m = h → hs m2 = h2 → (∀ p ∈ pend2, ∀ j, m2 ≤ j → j ≤ p.1.hi → j ≤ m2 + cntE L → Fact P p.1.op p.2.1 p.2.2 (hs j)) → StepF P cf o t v m (m + cntE (o :: L)) hs) →
        ∃ (T : Nat → List Value) (V : Nat → Value) (hs : Nat → Heap), T 0 = t ∧ (∀ j, j < m → past[m - 1 - j]? = some (hs j)) ∧ hs m = h ∧ T (o :: L).length = t' ∧ hs (m + cntE (o :: L)) = h' ∧
          (∀ i o', (o :: L)[i]? = some o' → StepF P cf o' (T i) (V i) (m + cntE ((o :: L).take i)) (m + cntE (o :: L)) hs ∧ T (i + 1) = putT (T i) o'.dst (V i)) ∧
          (∀ p ∈ pend, ∀ j, m ≤ j → j ≤ p.1.hi → j ≤ m + cntE (o :: L) → Fact P p.1.op p.2.1 p.2.2 (hs j)) := by
      intro v past2 pend2 m2 h2 hm2 hr2 hp2 hpd2 hsub heff hneff hstep
      obtain ⟨T, V, hs, e1, e2, e3, e4, e5, e6, e7⟩ := ih hEL past2 pend2 m2 _ h2 t' h' hr2 hp2 hpd2
      have hcn : m2 + cntE L = m + cntE (o :: L) := by rw [cntE_cons, hm2]; omega
      have hpast : (∀ j, j < m → past[m - 1 - j]? = some (hs j)) ∧ hs m = h := by
        cases he : o.eff with
        | true =>
          have h1 := heff he
          rw [he] at hm2; simp only [if_true] at hm2
          constructor
          · intro j hj
            have := e2 j (by omega)
            rw [h1, show m2 - 1 - j = (m - 1 - j) + 1 by omega] at this
            simpa using this
          · have := e2 m (by omega)
            rw [h1, show m2 - 1 - m = 0 by omega] at this
            simpa using this.symm
        | false =>
          obtain ⟨h1, h3⟩ := hneff he
          rw [he] at hm2; simp only [Bool.false_eq_true, if_false, Nat.add_zero] at hm2
          subst hm2; subst h1; subst h3
          exact ⟨e2, e3⟩
      have hst := hstep hs hpast.1 hpast.2 e3 e7
      refine ⟨fun i => match i with | 0 => t | i + 1 => T i, fun i => match i with | 0 => v | i + 1 => V i, hs, rfl, hpast.1, hpast.2, by simpa using e4, by rw [← hcn]; exact e5, ?_, ?_⟩
      · intro i o' ho'
        cases i with
        | zero =>
          simp at ho'; subst ho'
          refine ⟨by simpa [cntE] using hst, ?_⟩
          show T 0 = _
          exact e1
        | succ i =>
          simp only [List.getElem?_cons_succ] at ho'
          have := e6 i o' ho'
          refine ⟨?_, this.2⟩
          rw [List.take_succ_cons, cntE_cons]
          have h1 := this.1
          rw [hcn] at h1
          rw [hm2] at h1
          rw [← Nat.add_assoc]; exact h1
      · intro p hpm j h1 h3 h4
        by_cases hj : m2 ≤ j
        · exact e7 p (hsub p hpm) j hj h3 (by omega)
        · have : j = m := by split at hm2 <;> omega
          subst this
          rw [hpast.2]
          exact (hpd p hpm).2.2 h3
    split at hr
    · rename_i hw
      split at hr
      case h_2 => simp at hr
      rename_i v h1 hop
      split at hr
      · rename_i heff
        split at hr
        case isFalse => simp at hr
        rename_i hall
        rw [List.all_eq_true] at hall
        refine build v (h :: past) pend (m + 1) h1 (by rw [heff]; rfl) hr (by simp [hp]) (fun p hpm => ?_) (fun p hp => hp) (fun _ => rfl) (fun e => by rw [heff] at e; simp at e) ?_
        · obtain ⟨a1, ⟨h0, a2⟩, a3⟩ := hpd p hpm
          refine ⟨a1, ⟨h0, a2⟩, fun hle => ?_⟩
          have := hall p hpm
          simp only [Bool.or_eq_true, decide_eq_true_eq] at this
          rcases this with h2 | h2
          · omega
          · exact Fact.of_same a1 a2 h2
        · intro hs h2 h3 h4 h5
          exact .inl ⟨hw, .inl ⟨heff, by rw [h3, h4]; exact hop⟩⟩
      · rename_i hneff
        have hneff : o.eff = false := by simpa using hneff
        have hne : isEff o.op = false := by rw [← hEo]; exact hneff
        obtain ⟨hfact, rfl⟩ := Fact.of_run hne hop
        split at hr
        case isFalse => simp at hr
        rename_i hall
        rw [List.all_eq_true] at hall
        refine build v past ((o, t, v) :: pend) m h1 (by rw [hneff]; rfl) hr hp (fun p hpm => ?_) (fun p hp => by simp [hp]) (fun e => by rw [hneff] at e; simp at e) (fun _ => ⟨rfl, rfl⟩) ?_
        · rcases List.mem_cons.1 hpm with rfl | hpm
          · exact ⟨hne, ⟨h1, hfact⟩, fun _ => hfact⟩
          · exact hpd p hpm
        · intro hs h2 h3 h4 h5
          refine .inl ⟨hw, .inr ⟨hneff, fun j hlo hhi hk => ?_⟩⟩
          by_cases hj : m ≤ j
          · refine h5 (o, t, v) (by simp) j hj hhi ?_
            rw [cntE_cons, hneff] at hk; simpa using hk
          · have h6 := h2 j (by omega)
            have hmem : hs j ∈ past.take (m - o.lo) := by
              rw [List.mem_iff_getElem?]
              exact ⟨m - 1 - j, by rw [List.getElem?_take_of_lt (by omega)]; exact h6⟩
            exact Fact.of_same hne hfact (hall _ hmem)
    · rename_i hw
      split at hr
      · rename_i heff
        refine build skipV (h :: past) pend (m + 1) h (by rw [heff]; rfl) hr (by simp [hp]) (fun p hpm => ?_) (fun p hp => hp) (fun _ => rfl) (fun e => by rw [heff] at e; simp at e) ?_
        · obtain ⟨a1, a2, a3⟩ := hpd p hpm
          exact ⟨a1, a2, fun hle => a3 (by omega)⟩
        · intro hs h2 h3 h4 h5
          exact .inr ⟨hw, rfl, fun _ => by rw [h4, h3]⟩
      · rename_i hneff
        have hneff : o.eff = false := by simpa using hneff
        refine build skipV past pend m h (by rw [hneff]; rfl) hr hp hpd (fun p hp => hp) (fun e => by rw [hneff] at e; simp at e) (fun _ => ⟨rfl, rfl⟩) ?_
        intro hs h2 h3 h4 h5
        exact .inr ⟨hw, rfl, fun e => by rw [hneff] at e; simp at e⟩
    · simp at hr

end

end Go.Ax
