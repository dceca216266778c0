/- An abstract machine for Go programs: what the run of a region that draws its order says. -/
import Derived.Test.YtpemffaclmpnnaaDoorMA
import Derived.Test.YtpemffaclmpnnaaDoorMD
import Derived.RangeFuncLeaves
import Derived.OrdersIn
namespace Go.Ax
set_option linter.unusedVariables false
set_option linter.unusedSimpArgs false

section
variable {P : Program}

theorem toVal_eq {h : Heap} {o : Option Value} {res : ARes} (he : toVal h o = some res) : ∃ v, o = some v ∧ res = .val v h := by
  cases o with
  | none => simp [toVal] at he
  | some v => simp [toVal] at he; exact ⟨v, rfl, he.symm⟩

/-- What does not act leaves memory as it was. -/
theorem noneff_val {op : AOp} (hn : isEff op = false) {h : Heap} {ρ : Operand → Value} {res : ARes} (he : aop P h ρ op = some res) : ∃ v, res = .val v h := by
  cases op <;> simp only [isEff] at hn <;> try (simp at hn; done)
  all_goals simp only [aop] at he
  all_goals first
    | (obtain ⟨v, _, rfl⟩ := toVal_eq he; exact ⟨v, rfl⟩)
    | (simp only [Option.some.injEq] at he; exact ⟨_, he.symm⟩)
    | (repeat' split at he
       all_goals first
         | (simp at he; done)
         | (simp only [Option.some.injEq] at he; exact ⟨_, he.symm⟩)
         | (obtain ⟨v, _, rfl⟩ := toVal_eq he; exact ⟨v, rfl⟩))

theorem heapfree_val {op : AOp} (hn : useHeap op = false) {h : Heap} {ρ : Operand → Value} {v : Value} (he : aop P h ρ op = some (.val v h)) (h' : Heap) : aop P h' ρ op = some (.val v h') := by
  have key : ∀ {o : Option Value}, toVal h o = some (.val v h) → toVal h' o = some (.val v h') := by
    intro o ho
    obtain ⟨v', rfl, hv⟩ := toVal_eq ho
    simp only [ARes.val.injEq, and_true] at hv
    subst hv; rfl
  cases op <;> simp only [useHeap, isEff] at hn <;> try (simp at hn; done)
  all_goals simp only [aop] at he ⊢
  all_goals first
    | exact key he
    | (simp only [Option.some.injEq, ARes.val.injEq, and_true] at he ⊢; exact he)
    | skip
  all_goals try
    ((repeat' split at he)
     all_goals first
       | (simp at he; done)
       | (simp_all; done)
       | (simp only [Option.some.injEq, ARes.val.injEq, and_true] at he; subst he; simp_all; done)
       | (have := key he; simp_all; done))
  case bin op t q x y =>
    have : abinop P h op t q x y (ρ x) (ρ y) = abinop P h' op t q x y (ρ x) (ρ y) := by
      have hq : ∀ a b, aeq h q a b = aeq h' q a b := by
        intro a b
        unfold aeq
        split <;> first | rfl | (simp at hn; done) | (simp_all; done)
      unfold abinop
      simp only [hq]
    rw [← this]; exact key he
  case mm mx args =>
    split at he
    · simp only [Option.some.injEq, ARes.val.injEq, and_true] at he ⊢; exact he
    · split at he
      · rename_i hp
        rw [if_pos hp]; exact key he
      · simp at he

theorem veqN_eq : ∀ (n : Nat) {a b : Value}, veqN n a b = true → a = b := by
  have lists : ∀ (n : Nat), (∀ {a b : Value}, veqN n a b = true → a = b) → ∀ {x y : Array Value}, x.size = y.size → (x.toList.zip y.toList).all (fun (a, b) => veqN n a b) = true → x = y := by
    intro n ih x y hs hall
    refine Array.ext hs fun i h1 h2 => ih ?_
    rw [List.all_eq_true] at hall
    have hm : (x[i], y[i]) ∈ x.toList.zip y.toList := by
      rw [List.mem_iff_getElem?]
      exact ⟨i, by rw [List.getElem?_zip_eq_some]; simp [h1, h2]⟩
    exact hall _ hm
  have strs : ∀ {x y : ByteArray}, (x.data.toList == y.data.toList) = true → x = y := by
    intro x y h
    cases x; cases y
    congr 1
    exact Array.toList_inj.1 (by simpa using h)
  intro n
  induction n with
  | zero =>
    intro a b h
    unfold veqN at h
    split at h
    · rw [eq_of_beq h]
    · rw [Bool.and_eq_true] at h; rw [eq_of_beq h.1, eq_of_beq h.2]
    · rw [Bool.and_eq_true] at h; rw [eq_of_beq h.1, eq_of_beq h.2]
    · rw [strs h]
    · rw [eq_of_beq h]
    · rw [Bool.and_eq_true, Bool.and_eq_true] at h; rw [eq_of_beq h.1.1, eq_of_beq h.1.2, eq_of_beq h.2]
    · rfl
    · rfl
    · rw [eq_of_beq h]
    all_goals (try (rename_i hz; simp at hz; done))
    all_goals (try (simp at h; done))
    all_goals (rename_i hz _ _; simp at hz)
  | succ n ih =>
    intro a b h
    unfold veqN at h
    split at h
    · rw [eq_of_beq h]
    · rw [Bool.and_eq_true] at h; rw [eq_of_beq h.1, eq_of_beq h.2]
    · rw [Bool.and_eq_true] at h; rw [eq_of_beq h.1, eq_of_beq h.2]
    · rw [strs h]
    · rw [eq_of_beq h]
    · rw [Bool.and_eq_true, Bool.and_eq_true] at h; rw [eq_of_beq h.1.1, eq_of_beq h.1.2, eq_of_beq h.2]
    · rfl
    · rfl
    · rw [eq_of_beq h]
    · rename_i n' t a u b hz
      obtain rfl : n = n' := by omega
      rw [Bool.and_eq_true] at h; rw [eq_of_beq h.1, ih h.2]
    · rename_i n' a b hz
      obtain rfl : n = n' := by omega
      rw [Bool.and_eq_true] at h; rw [lists n ih (eq_of_beq h.1) h.2]
    · rename_i n' a b hz
      obtain rfl : n = n' := by omega
      rw [Bool.and_eq_true] at h; rw [lists n ih (eq_of_beq h.1) h.2]
    · rename_i n' f a b f' a' b' hz
      obtain rfl : n = n' := by omega
      simp only [Bool.and_eq_true] at h
      obtain ⟨⟨⟨⟨h1, h2⟩, h3⟩, h4⟩, h5⟩ := h
      rw [eq_of_beq h1, lists n ih (eq_of_beq h2) h4, lists n ih (eq_of_beq h3) h5]
    · simp at h

/-- It answers so at that memory. -/
def Fact (P : Program) (op : AOp) (t : List Value) (v : Value) (h : Heap) : Prop := aop P h (evalT t) op = some (.val v h)

theorem Fact.run {cf : CF} {op : AOp} {t : List Value} {v : Value} {h : Heap} (hf : Fact P op t v h) : runOp P cf op t h = some (v, h) := by
  unfold runOp; rw [hf]

theorem Fact.of_run {cf : CF} {op : AOp} (hn : isEff op = false) {t : List Value} {v : Value} {h h' : Heap} (hr : runOp P cf op t h = some (v, h')) : Fact P op t v h ∧ h' = h := by
  unfold runOp at hr
  cases ha : aop P h (evalT t) op with
  | none => simp [ha] at hr
  | some res =>
    obtain ⟨v', rfl⟩ := noneff_val hn ha
    rw [ha] at hr
    simp only [Option.some.injEq, Prod.mk.injEq] at hr
    obtain ⟨rfl, rfl⟩ := hr
    exact ⟨ha, rfl⟩

theorem Fact.of_same {op : AOp} (hn : isEff op = false) {t : List Value} {v : Value} {h0 h : Heap} (hf : Fact P op t v h0) (hs : same P op t v h = true) : Fact P op t v h := by
  unfold same at hs
  cases hu : useHeap op with
  | false => exact heapfree_val hu hf h
  | true =>
    rw [hu] at hs
    simp only [Bool.not_true, Bool.false_or] at hs
    split at hs
    · rename_i v' h1 ha
      have := veqN_eq 6 hs
      subst this
      obtain ⟨v2, hv2⟩ := noneff_val hn ha
      simp only [ARes.val.injEq] at hv2
      rw [hv2.2] at ha
      exact ha
    · simp at hs

def cntE (L : List AOper) : Nat := (L.filter (·.eff)).length

theorem cntE_cons (o : AOper) (L : List AOper) : cntE (o :: L) = (if o.eff then 1 else 0) + cntE L := by
  unfold cntE
  cases h : o.eff <;> simp [h]; omega

/-- One operation of the run. -/
def StepF (P : Program) (cf : CF) (o : AOper) (t : List Value) (v : Value) (m k : Nat) (hs : Nat → Heap) : Prop :=
  (wantedA t o.guard = some true ∧ ((o.eff = true ∧ runOp P cf o.op t (hs m) = some (v, hs (m + 1))) ∨ (o.eff = false ∧ ∀ j, o.lo ≤ j → j ≤ o.hi → j ≤ k → Fact P o.op t v (hs j)))) ∨
  (wantedA t o.guard = some false ∧ v = skipV ∧ (o.eff = true → hs (m + 1) = hs m))

theorem drun_spec {cf : CF} : ∀ (L : List AOper) (hE : ∀ o ∈ L, o.eff = isEff o.op) (past : List Heap) (pend : List (AOper × List Value × Value)) (m : Nat) (t : List Value) (h : Heap) (t' : List Value) (h' : Heap),
    drun P cf L past pend m t h = some (t', h') → past.length = m → (∀ p ∈ pend, isEff p.1.op = false ∧ (∃ h0, Fact P p.1.op p.2.1 p.2.2 h0) ∧ (m ≤ p.1.hi → Fact P p.1.op p.2.1 p.2.2 h)) →
    ∃ (T : Nat → List Value) (V : Nat → Value) (hs : Nat → Heap), T 0 = t ∧ (∀ j, j < m → past[m - 1 - j]? = some (hs j)) ∧ hs m = h ∧ T L.length = t' ∧ hs (m + cntE L) = h' ∧
      (∀ i o, L[i]? = some o → StepF P cf o (T i) (V i) (m + cntE (L.take i)) (m + cntE L) hs ∧ T (i + 1) = putT (T i) o.dst (V i)) ∧
      (∀ p ∈ pend, ∀ j, m ≤ j → j ≤ p.1.hi → j ≤ m + cntE L → Fact P p.1.op p.2.1 p.2.2 (hs j)) := by
  intro L
  induction L with
  | nil =>
    intro hE past pend m t h t' h' hr hp hpd
    simp only [drun, Option.some.injEq, Prod.mk.injEq] at hr
    obtain ⟨rfl, rfl⟩ := hr
    refine ⟨fun _ => t, fun _ => undef, fun j => if j < m then past.getD (m - 1 - j) h else h, rfl, fun j hj => ?_, by simp, rfl, by simp [cntE], fun i o ho => by simp at ho, fun p hpm j h1 h2 h3 => ?_⟩
    · simp only [hj, if_true]
      rw [List.getD_eq_getElem?_getD]
      have : m - 1 - j < past.length := by omega
      rw [List.getElem?_eq_getElem this]; rfl
    · have : j = m := by simp [cntE] at h3; omega
      subst this
      simp only [Nat.lt_irrefl, if_false]
      exact (hpd p hpm).2.2 h2
  | cons o L ih =>
    intro hE past pend m t h t' h' hr hp hpd
    have hEo : o.eff = isEff o.op := hE o (by simp)
    have hEL : ∀ o ∈ L, o.eff = isEff o.op := fun x hx => hE x (by simp [hx])
    simp only [drun] at hr
    -- how the parts are put together
    have build : ∀ (v : Value) (past2 : List Heap) (pend2 : List (AOper × List Value × Value)) (m2 : Nat) (h2 : Heap), m2 = m + (if o.eff then 1 else 0) → drun P cf L past2 pend2 m2 (putT t o.dst v) h2 = some (t', h') → past2.length = m2 →
        (∀ p ∈ pend2, isEff p.1.op = false ∧ (∃ h0, Fact P p.1.op p.2.1 p.2.2 h0) ∧ (m2 ≤ p.1.hi → Fact P p.1.op p.2.1 p.2.2 h2)) → (∀ p ∈ pend, p ∈ pend2) →
        (o.eff = true → past2 = h :: past) → (o.eff = false → past2 = past ∧ h2 = h) →
        (∀ hs : Nat → Heap, (∀ j, j < m → past[m - 1 - j]? = some (hs j)) → hs m = h → hs m2 = h2 → (∀ p ∈ pend2, ∀ j, m2 ≤ j → j ≤ p.1.hi → j ≤ m2 + cntE L → Fact P p.1.op p.2.1 p.2.2 (hs j)) → StepF P cf o t v m (m + cntE (o :: L)) hs) →
        ∃ (T : Nat → List Value) (V : Nat → Value) (hs : Nat → Heap), T 0 = t ∧ (∀ j, j < m → past[m - 1 - j]? = some (hs j)) ∧ hs m = h ∧ T (o :: L).length = t' ∧ hs (m + cntE (o :: L)) = h' ∧
          (∀ i o', (o :: L)[i]? = some o' → StepF P cf o' (T i) (V i) (m + cntE ((o :: L).take i)) (m + cntE (o :: L)) hs ∧ T (i + 1) = putT (T i) o'.dst (V i)) ∧
          (∀ p ∈ pend, ∀ j, m ≤ j → j ≤ p.1.hi → j ≤ m + cntE (o :: L) → Fact P p.1.op p.2.1 p.2.2 (hs j)) := by
      intro v past2 pend2 m2 h2 hm2 hr2 hp2 hpd2 hsub heff hneff hstep
      obtain ⟨T, V, hs, e1, e2, e3, e4, e5, e6, e7⟩ := ih hEL past2 pend2 m2 _ h2 t' h' hr2 hp2 hpd2
      have hcn : m2 + cntE L = m + cntE (o :: L) := by rw [cntE_cons, hm2]; omega
      have hpast : (∀ j, j < m → past[m - 1 - j]? = some (hs j)) ∧ hs m = h := by
        cases he : o.eff with
        | true =>
          have h1 := heff he
          rw [he] at hm2; simp only [if_true] at hm2
          constructor
          · intro j hj
            have := e2 j (by omega)
            rw [h1, show m2 - 1 - j = (m - 1 - j) + 1 by omega] at this
            simpa using this
          · have := e2 m (by omega)
            rw [h1, show m2 - 1 - m = 0 by omega] at this
            simpa using this.symm
        | false =>
          obtain ⟨h1, h3⟩ := hneff he
          rw [he] at hm2; simp only [Bool.false_eq_true, if_false, Nat.add_zero] at hm2
          subst hm2; subst h1; subst h3
          exact ⟨e2, e3⟩
      have hst := hstep hs hpast.1 hpast.2 e3 e7
      refine ⟨fun i => match i with | 0 => t | i + 1 => T i, fun i => match i with | 0 => v | i + 1 => V i, hs, rfl, hpast.1, hpast.2, by simpa using e4, by rw [← hcn]; exact e5, ?_, ?_⟩
      · intro i o' ho'
        cases i with
        | zero =>
          simp at ho'; subst ho'
          refine ⟨by simpa [cntE] using hst, ?_⟩
          show T 0 = _
          exact e1
        | succ i =>
          simp only [List.getElem?_cons_succ] at ho'
          have := e6 i o' ho'
          refine ⟨?_, this.2⟩
          rw [List.take_succ_cons, cntE_cons]
          have h1 := this.1
          rw [hcn] at h1
          rw [hm2] at h1
          rw [← Nat.add_assoc]; exact h1
      · intro p hpm j h1 h3 h4
        by_cases hj : m2 ≤ j
        · exact e7 p (hsub p hpm) j hj h3 (by omega)
        · have : j = m := by split at hm2 <;> omega
          subst this
          rw [hpast.2]
          exact (hpd p hpm).2.2 h3
    split at hr
    · rename_i hw
      split at hr
      case h_2 => simp at hr
      rename_i v h1 hop
      split at hr
      · rename_i heff
        split at hr
        case isFalse => simp at hr
        rename_i hall
        rw [List.all_eq_true] at hall
        refine build v (h :: past) pend (m + 1) h1 (by rw [heff]; rfl) hr (by simp [hp]) (fun p hpm => ?_) (fun p hp => hp) (fun _ => rfl) (fun e => by rw [heff] at e; simp at e) ?_
        · obtain ⟨a1, ⟨h0, a2⟩, a3⟩ := hpd p hpm
          refine ⟨a1, ⟨h0, a2⟩, fun hle => ?_⟩
          have := hall p hpm
          simp only [Bool.or_eq_true, decide_eq_true_eq] at this
          rcases this with h2 | h2
          · omega
          · exact Fact.of_same a1 a2 h2
        · intro hs h2 h3 h4 h5
          exact .inl ⟨hw, .inl ⟨heff, by rw [h3, h4]; exact hop⟩⟩
      · rename_i hneff
        have hneff : o.eff = false := by simpa using hneff
        have hne : isEff o.op = false := by rw [← hEo]; exact hneff
        obtain ⟨hfact, rfl⟩ := Fact.of_run hne hop
        split at hr
        case isFalse => simp at hr
        rename_i hall
        rw [List.all_eq_true] at hall
        refine build v past ((o, t, v) :: pend) m h1 (by rw [hneff]; rfl) hr hp (fun p hpm => ?_) (fun p hp => by simp [hp]) (fun e => by rw [hneff] at e; simp at e) (fun _ => ⟨rfl, rfl⟩) ?_
        · rcases List.mem_cons.1 hpm with rfl | hpm
          · exact ⟨hne, ⟨h1, hfact⟩, fun _ => hfact⟩
          · exact hpd p hpm
        · intro hs h2 h3 h4 h5
          refine .inl ⟨hw, .inr ⟨hneff, fun j hlo hhi hk => ?_⟩⟩
          by_cases hj : m ≤ j
          · refine h5 (o, t, v) (by simp) j hj hhi ?_
            rw [cntE_cons, hneff] at hk; simpa using hk
          · have h6 := h2 j (by omega)
            have hmem : hs j ∈ past.take (m - o.lo) := by
              rw [List.mem_iff_getElem?]
              exact ⟨m - 1 - j, by rw [List.getElem?_take_of_lt (by omega)]; exact h6⟩
            exact Fact.of_same hne hfact (hall _ hmem)
    · rename_i hw
      split at hr
      · rename_i heff
        refine build skipV (h :: past) pend (m + 1) h (by rw [heff]; rfl) hr (by simp [hp]) (fun p hpm => ?_) (fun p hp => hp) (fun _ => rfl) (fun e => by rw [heff] at e; simp at e) ?_
        · obtain ⟨a1, a2, a3⟩ := hpd p hpm
          exact ⟨a1, a2, fun hle => a3 (by omega)⟩
        · intro hs h2 h3 h4 h5
          exact .inr ⟨hw, rfl, fun _ => by rw [h4, h3]⟩
      · rename_i hneff
        have hneff : o.eff = false := by simpa using hneff
        refine build skipV past pend m h (by rw [hneff]; rfl) hr hp hpd (fun p hp => hp) (fun e => by rw [hneff] at e; simp at e) (fun _ => ⟨rfl, rfl⟩) ?_
        intro hs h2 h3 h4 h5
        exact .inr ⟨hw, rfl, fun e => by rw [hneff] at e; simp at e⟩
    · simp at hr

end

end Go.Ax

/- An abstract machine for Go programs: orders of a region's operations, counted. -/
namespace Go.Ax
set_option linter.unusedVariables false
set_option linter.unusedSimpArgs false

/-! what must be done before -/

def befStep (acc : List Nat) (o : Oper) : Nat := o.after.toList.foldl (fun s e => if Region.binds .any e then s ||| 2 ^ e.on ||| acc.getD e.on 0 else s) 0

theorem befores_eq (ops : List Oper) : befores ops = ops.foldl (fun acc o => acc ++ [befStep acc o]) [] := rfl

theorem bef_ext : ∀ (l : List Oper) (acc : List Nat), ∃ x, l.foldl (fun acc o => acc ++ [befStep acc o]) acc = acc ++ x ∧ x.length = l.length := by
  intro l
  induction l with
  | nil => intro acc; exact ⟨[], by simp, rfl⟩
  | cons o l ih =>
    intro acc
    obtain ⟨x, h1, h2⟩ := ih (acc ++ [befStep acc o])
    exact ⟨befStep acc o :: x, by rw [List.foldl_cons, h1]; simp, by simp [h2]⟩

theorem bef_at {ops : List Oper} {i : Nat} {o : Oper} (ho : ops[i]? = some o) : ∃ acc, acc.length = i ∧ (∀ j, j < i → acc.getD j 0 = (befores ops).getD j 0) ∧ (befores ops).getD i 0 = befStep acc o := by
  have hlt : i < ops.length := by
    rcases Nat.lt_or_ge i ops.length with h | h
    · exact h
    · rw [List.getElem?_eq_none h] at ho; simp at ho
  have hsplit : ops = ops.take i ++ o :: ops.drop (i + 1) := by
    have h1 : ops[i] = o := by rw [List.getElem?_eq_getElem hlt] at ho; exact Option.some.inj ho
    conv => lhs; rw [← List.take_append_drop i ops, List.drop_eq_getElem_cons hlt, h1]
  obtain ⟨x1, a1, a2⟩ := bef_ext (ops.take i) []
  simp only [List.nil_append] at a1
  have hl1 : x1.length = i := by rw [a2, List.length_take]; omega
  obtain ⟨x2, b1, b2⟩ := bef_ext (ops.drop (i + 1)) (x1 ++ [befStep x1 o])
  have hb : befores ops = (x1 ++ [befStep x1 o]) ++ x2 := by
    rw [befores_eq]
    conv => lhs; rw [hsplit]
    rw [List.foldl_append, a1, List.foldl_cons, b1]
  refine ⟨x1, hl1, fun j hj => ?_, ?_⟩
  · rw [hb, List.getD_eq_getElem?_getD, List.getD_eq_getElem?_getD, List.append_assoc, List.getElem?_append_left (by omega)]
  · rw [hb, List.getD_eq_getElem?_getD, List.append_assoc, List.getElem?_append_right (by omega)]
    simp [hl1]

theorem befStep_bit (acc : List Nat) (o : Oper) (j : Nat) (h : (befStep acc o).testBit j = true) : ∃ e ∈ o.after.toList, Region.binds .any e = true ∧ (j = e.on ∨ (acc.getD e.on 0).testBit j = true) := by
  unfold befStep at h
  have key : ∀ (l : List Edge) (s : Nat), (l.foldl (fun s e => if Region.binds .any e then s ||| 2 ^ e.on ||| acc.getD e.on 0 else s) s).testBit j = true → s.testBit j = true ∨ ∃ e ∈ l, Region.binds .any e = true ∧ (j = e.on ∨ (acc.getD e.on 0).testBit j = true) := by
    intro l
    induction l with
    | nil => intro s h; exact .inl h
    | cons e l ih =>
      intro s h
      rw [List.foldl_cons] at h
      rcases ih _ h with h1 | ⟨e', he', h1⟩
      · split at h1
        · rename_i hb
          rw [Nat.testBit_or, Nat.testBit_or, Bool.or_eq_true, Bool.or_eq_true] at h1
          rcases h1 with (h1 | h1) | h1
          · exact .inl h1
          · rw [Nat.testBit_two_pow] at h1
            exact .inr ⟨e, by simp, hb, .inl (by simpa using (of_decide_eq_true h1).symm)⟩
          · exact .inr ⟨e, by simp, hb, .inr h1⟩
        · exact .inl h1
      · exact .inr ⟨e', by simp [he'], h1⟩
  rcases key _ _ h with h1 | h1
  · simp at h1
  · exact h1

/-! effects counted -/

def cE (f : Nat → Bool) (i : Nat) : Nat := ((List.range i).filter f).length

theorem cE_succ (f : Nat → Bool) (i : Nat) : cE f (i + 1) = cE f i + if f i then 1 else 0 := by
  unfold cE
  rw [List.range_succ, List.filter_append]
  cases h : f i <;> simp [h]

theorem cE_mono (f : Nat → Bool) {i j : Nat} (h : i ≤ j) : cE f i ≤ cE f j := by
  induction j with
  | zero => have : i = 0 := by omega
            subst this; exact Nat.le_refl _
  | succ j ih =>
    rcases Nat.lt_or_ge i (j + 1) with h1 | h1
    · rw [cE_succ]; have := ih (by omega); omega
    · have : i = j + 1 := by omega
      subst this; exact Nat.le_refl _

theorem cE_lt (f : Nat → Bool) {i j : Nat} (hi : f i = true) (h : i < j) : cE f i < cE f j := by
  have := cE_mono f (i := i + 1) (j := j) (by omega)
  rw [cE_succ, hi] at this
  simp at this; omega

/-- Two effects of one number are one. -/
theorem cE_inj (f : Nat → Bool) {i j : Nat} (hi : f i = true) (hj : f j = true) (h : cE f i = cE f j) : i = j := by
  rcases Nat.lt_trichotomy i j with h1 | h1 | h1
  · have := cE_lt f hi h1; omega
  · exact h1
  · have := cE_lt f hj h1; omega

theorem filter_get (f : Nat → Bool) : ∀ (n j e : Nat), ((List.range n).filter f)[j]? = some e → f e = true ∧ e < n ∧ cE f e = j := by
  intro n
  induction n with
  | zero => intro j e h; simp at h
  | succ n ih =>
    intro j e h
    rw [List.range_succ, List.filter_append] at h
    by_cases hj : j < ((List.range n).filter f).length
    · rw [List.getElem?_append_left hj] at h
      obtain ⟨h1, h2, h3⟩ := ih j e h
      exact ⟨h1, by omega, h3⟩
    · rw [List.getElem?_append_right (by omega)] at h
      cases hf : f n with
      | false => simp [hf] at h
      | true =>
        simp only [hf, List.filter_cons, if_true, List.filter_nil] at h
        have hz : j - ((List.range n).filter f).length = 0 := by
          rcases Nat.eq_zero_or_pos (j - ((List.range n).filter f).length) with h0 | h0
          · exact h0
          · rw [List.getElem?_eq_none (by simp only [List.length_cons, List.length_nil]; omega)] at h; simp at h
        rw [hz] at h; simp at h; subst h
        refine ⟨hf, by omega, ?_⟩
        show ((List.range n).filter f).length = j
        omega

theorem cE_exists (f : Nat → Bool) {n m : Nat} (h : m < cE f n) : ∃ e, e < n ∧ f e = true ∧ cE f e = m := by
  have hl : m < ((List.range n).filter f).length := h
  obtain ⟨h1, h2, h3⟩ := filter_get f n m _ (List.getElem?_eq_getElem hl)
  exact ⟨_, h2, h1, h3⟩

/-! the last one that writes a slot -/

def lastW (D : Nat → Bool) (dst : Nat → Option Nat) (x : Nat) : Nat → Option Nat
  | 0 => none
  | k + 1 => if D k = true ∧ dst k = some x then some k else lastW D dst x k

theorem lastW_some {D : Nat → Bool} {dst : Nat → Option Nat} {x : Nat} : ∀ {n k : Nat}, lastW D dst x n = some k → k < n ∧ D k = true ∧ dst k = some x := by
  intro n
  induction n with
  | zero => intro k h; simp [lastW] at h
  | succ n ih =>
    intro k h
    simp only [lastW] at h
    split at h
    · rename_i hc
      simp only [Option.some.injEq] at h; subst h
      exact ⟨by omega, hc.1, hc.2⟩
    · obtain ⟨a, b, c⟩ := ih h
      exact ⟨by omega, b, c⟩

theorem lastW_cut {D D' : Nat → Bool} {dst : Nat → Option Nat} {x i : Nat} : ∀ (n : Nat), i ≤ n → (∀ k, k < i → dst k = some x → D k = D' k) → (∀ k, i ≤ k → k < n → dst k = some x → D k = false) → lastW D dst x n = lastW D' dst x i := by
  intro n
  induction n with
  | zero => intro h _ _; have : i = 0 := by omega
            subst this; rfl
  | succ n ih =>
    intro h h1 h2
    rcases Nat.lt_or_ge n i with hn | hn
    · have : i = n + 1 := by omega
      subst this
      clear ih h h2
      -- all below: the same
      have : ∀ m, m ≤ n + 1 → lastW D dst x m = lastW D' dst x m := by
        intro m
        induction m with
        | zero => intro _; rfl
        | succ m ihm =>
          intro hm
          simp only [lastW]
          by_cases hd : dst m = some x
          · rw [h1 m (by omega) hd, ihm (by omega)]
          · rw [if_neg (fun h => hd h.2), if_neg (fun h => hd h.2), ihm (by omega)]
      exact this _ (Nat.le_refl _)
    · simp only [lastW]
      rw [if_neg (fun ⟨a, b⟩ => by rw [h2 n hn (by omega) b] at a; simp at a)]
      exact ih hn h1 fun k a b c => h2 k a (by omega) c

theorem lastW_set {D : Nat → Bool} {dst : Nat → Option Nat} {x i : Nat} (hx : dst i ≠ some x) : ∀ (n : Nat), lastW (fun k => if k = i then true else D k) dst x n = lastW D dst x n := by
  intro n
  induction n with
  | zero => rfl
  | succ n ih =>
    simp only [lastW, ih]
    by_cases h : n = i
    · subst h
      rw [if_neg (fun h => hx h.2), if_neg (fun h => hx h.2)]
    · simp only [h, if_false]

theorem lastW_top {D : Nat → Bool} {dst : Nat → Option Nat} {x i : Nat} (hi : D i = true) (hx : dst i = some x) : ∀ (n : Nat), i < n → (∀ k, i < k → k < n → dst k = some x → D k = false) → lastW D dst x n = some i := by
  intro n
  induction n with
  | zero => intro h; omega
  | succ n ih =>
    intro h h1
    simp only [lastW]
    by_cases hn : n = i
    · subst hn; rw [if_pos ⟨hi, hx⟩]
    · rw [if_neg (fun ⟨a, b⟩ => by rw [h1 n (by omega) (by omega) b] at a; simp at a)]
      exact ih (by omega) fun k a b c => h1 k a (by omega) c

end Go.Ax

/- An abstract machine for Go programs: its runs against the model's: operations in a row, calls. -/
namespace Go.Ax
set_option linter.unusedVariables false
set_option linter.unusedSimpArgs false

def F0 (r : Option Nat) : Fence := { Fence.wide with round := r }

theorem F0_room (r : Option Nat) (n : Nat) : (F0 r).room n := fun _ h => by simp [F0, Fence.wide] at h

def mark (D : Nat) : Deferred := { target := .collected D, args := #[] }

def Marks (g : Ghost) (w : World) (N : Nat) (ds : List Deferred) : Prop :=
  ∃ Ds : List Nat, Ds.Nodup ∧ ds = Ds.map mark ∧ ∀ D ∈ Ds, N ≤ D ∧ D < w.heap.size ∧ w.heap[D]? = some (.deferred (some [])) ∧ ¬ InR g D

theorem Marks.ext {g g' : Ghost} {w w' : World} {N : Nat} {ds : List Deferred} (h : Marks g w N ds) (e : Ext g w g' w') : Marks g' w' N ds := by
  obtain ⟨Ds, h1, h2, h3⟩ := h
  refine ⟨Ds, h1, h2, fun D hD => ?_⟩
  obtain ⟨a, b, c, d⟩ := h3 D hD
  refine ⟨a, Nat.lt_of_lt_of_le b e.size, by rw [e.same D b d, c], fun hi => ?_⟩
  rcases e.new D hi with h | h
  · exact d h
  · omega

def exRel : Ex → Exit → Prop
  | .normal, .normal => True
  | .exit i, .exit j => i = j
  | .ret, .ret => True
  | _, _ => False

def QX (P : Program) (B N : Nat) (g : Ghost) (w : World) (e : Ex) (t' : List Value) (h' : Heap) : Exit → Act → World → Prop := fun ex a' w' =>
  exRel e ex ∧ ∃ g', Ext g w g' w' ∧ Rel P B g' h' w' ∧ LR g' t' a'.tmps.toList ∧ Marks g' w' N a'.defers

def PostC (P : Program) (B : Nat) (g : Ghost) (w : World) (v : Value) (h' : Heap) : Ending → World → Prop := fun e w' =>
  ∃ y g', e = .returned y ∧ VRel g' v y ∧ Rel P B g' h' w' ∧ Ext g w g' w'

def CallOK (P : Program) (B : Nat) (cf : CF) : Prop := ∀ (tg : Tgt) (args : List Value) (h : Heap) (v : Value) (h' : Heap), cf tg args h = some (v, h') →
  ∀ (g : Ghost) (w : World) (args' : Array Value), Rel P B g h w → LR g args args'.toList →
    match tg with
    | .fn f => ((callFunc f args').run P w = .ok (.enter f args') w ∧ CallsIn Fence.wide 0 P f args' w (PostC P B g w v h')) ∨
        (∃ y, (callFunc f args').run P w = .ok (.value y) w ∧ VRel g v y ∧ h' = h)
    | .yield l => ∀ r, g.lp l = some r → ∃ fid t' as bd, (Instr.yield r args').run P w = .ok (.round r fid t' as bd) w ∧ RoundIn Fence.wide 0 P r fid t' as bd w (PostC P B g w v h')

section
variable {P : Program} {B : Nat} {g : Ghost} {h : Heap} {w : World}

theorem compOp_defer {c : Call} : compOp P (.defer c) = .bad := rfl

theorem opIn_sound {cf : CF} (hcf : CallOK P B cf) (R : Rel P B g h w) {o : Oper} {t : List Value} {a : Act} (hρ : ∀ x ∈ o.op.operands, VRel g (evalT t x) (a.eval x)) {v : Value} {h' : Heap} (hr : runOp P cf (compOp P o.op) t h = some (v, h'))
    {r : Option Nat} {next : Act → World → Prop} {Q : Exit → Act → World → Prop} (hn : ∀ y w' g', VRel g' v y → Rel P B g' h' w' → Ext g w g' w' → next (a.put o.dst y) w') : o.wpIn (F0 r) 0 P a w next Q := by
  refine ⟨fun _ _ => trivial, ?_⟩
  have hnd : ∀ c, o.op ≠ .defer c := by
    intro c e
    unfold runOp at hr
    rw [e, compOp_defer] at hr
    simp [aop] at hr
  rw [Oper.semAt_eq (F0 r).round a.eval o hnd]
  unfold runOp at hr
  split at hr
  · rename_i v' h'' he
    simp only [Option.some.injEq, Prod.mk.injEq] at hr
    obtain ⟨rfl, rfl⟩ := hr
    obtain ⟨y, w', g', hv, hy, R', E'⟩ := op_sound R hρ he
    rcases hv with hv | ⟨hv, rfl⟩
    · rw [hv]; exact hn y w' g' hy R' E'
    · rw [hv]; exact hn undef w' g' hy R' E'
  · rename_i tg args he
    obtain ⟨args', hl, hrun⟩ := op_sound R hρ he
    have hc := hcf tg args h v h' hr g w args' R hl
    cases tg with
    | fn f =>
      simp only at hrun hc
      rw [hrun]
      rcases hc with ⟨h1, h2⟩ | ⟨y, h1, h2, rfl⟩
      · rw [h1]
        refine ⟨fun hd => by simp [F0, Fence.wide] at hd, trivial, fun cs hroom => ?_⟩
        obtain ⟨e, w', fr, hR, hrest⟩ := h2.2 cs (room_wide _)
        refine ⟨e, w', fr, ?_, hrest⟩
        obtain ⟨y, g', rfl, hy, R', E'⟩ := hR
        exact hn y w' g' hy R' E'
      · rw [h1]; exact hn y w g h2 R (Ext.refl g w)
    | yield l =>
      simp only at hrun hc
      obtain ⟨r', hl', hrun⟩ := hrun
      obtain ⟨fid, t', as, bd, h1, h2⟩ := hc r' hl'
      rw [hrun, h1]
      refine ⟨fun hd => by simp [F0, Fence.wide] at hd, trivial, fun c cs hroom => ?_⟩
      obtain ⟨e, w', hR, hrest⟩ := h2.2 c cs (room_wide _)
      refine ⟨e, w', ?_, hrest⟩
      obtain ⟨y, g', rfl, hy, R', E'⟩ := hR
      exact hn y w' g' hy R' E'
  · simp at hr

theorem eval_rel {t : List Value} {a : Act} (hl : LR g t a.tmps.toList) (x : Operand) : VRel g (evalT t x) (a.eval x) := by
  cases x with
  | tmp i =>
    simp only [evalT, Act.eval]
    rw [List.getD_eq_getElem?_getD, Array.getD_eq_getD_getElem?]
    cases e : t[i]? with
    | none => exact .top _
    | some v =>
      obtain ⟨y, hy, hv⟩ := hl.get e
      have : a.tmps[i]? = some y := by simpa using hy
      rw [this]; exact hv
  | const v =>
    simp only [evalT, Act.eval]
    split
    · rename_i hp; exact plain_refl hp
    · exact .top _
  | global n =>
    simp only [evalT, Act.eval]
    split
    · rename_i hn; exact .ptr ⟨rfl, by simp [roA, hn]⟩
    · exact .top _
  | func f => exact .func _ (fun l => by simp) rfl rfl (fun i x y h => by simp at h) (fun i x y h => by simp at h)

theorem put_rel {t : List Value} {a : Act} (hl : LR g t a.tmps.toList) {v y : Value} (hv : VRel g v y) (d : Option Nat) : LR g (putT t d v) (a.put d y).tmps.toList := by
  cases d with
  | none => exact hl
  | some d =>
    simp only [putT, Act.put]
    have := hl.set hv d
    simpa using this

theorem put_defers (a : Act) (d : Option Nat) (y : Value) : (a.put d y).defers = a.defers := by cases d <;> rfl

theorem wanted_rel {ops : Array Oper} {t : List Value} {a : Act} (hl : LR g t a.tmps.toList) {o : Oper} {b : Bool} (hw : wantedA t (compGuard ops o.guard) = some b) : Region.wanted o (yielded ops a.tmps) = b := by
  unfold wantedA compGuard at hw
  unfold Region.wanted
  cases hg : o.guard with
  | none => rw [hg] at hw; simp at hw; simp [← hw]
  | some p =>
    obtain ⟨j, want⟩ := p
    rw [hg] at hw
    simp only [Option.map_some] at hw
    simp only
    unfold yielded
    cases hd : (ops[j]?).bind (·.dst) with
    | none => rw [hd] at hw; simp at hw
    | some d =>
      rw [hd] at hw
      simp only [Option.bind_some] at hw ⊢
      cases ht : t[d]? with
      | none => rw [ht] at hw; simp at hw
      | some v =>
        rw [ht] at hw
        obtain ⟨y, hy, hv⟩ := hl.get ht
        have hy' : a.tmps[d]? = some y := by simpa using hy
        rw [hy']
        split at hw
        · rename_i c e
          simp only [Option.some.injEq] at e; subst e
          rw [rel_bool hv]
          simp only [Option.some.injEq] at hw; subst hw
          cases c <;> cases want <;> rfl
        · rename_i e
          simp only [Option.some.injEq] at e; subst e
          cases hv
          simp only [Option.some.injEq] at hw; subst hw
          rfl
        · simp at hw

end

end Go.Ax

/- An abstract machine for Go programs: its runs against the model's: whole texts. -/
namespace Go.Ax
set_option linter.unusedVariables false
set_option linter.unusedSimpArgs false

section
variable {P : Program} {B : Nat} {g : Ghost} {h : Heap} {w : World}

theorem compOps_get {ops : Array Oper} {i : Nat} {o : Oper} (ho : ops[i]? = some o) : (compOps P ops)[i]? = some (compOper P ops (befores ops.toList) (effOf P ops) i o) := by
  unfold compOps
  simp only [List.getElem?_mapIdx]
  have : ops.toList[i]? = some o := by simpa using ho
  rw [this]; rfl

theorem compOps_len {ops : Array Oper} : (compOps P ops).length = ops.size := by
  unfold compOps; simp

theorem QX.mono {N : Nat} {g0 g1 : Ghost} {w0 w1 : World} {e : Ex} {t' : List Value} {h' : Heap} (E : Ext g0 w0 g1 w1) {ex : Exit} {a' : Act} {w' : World} (hq : QX P B N g1 w1 e t' h' ex a' w') : QX P B N g0 w0 e t' h' ex a' w' := by
  obtain ⟨h1, g', h2, h3⟩ := hq
  exact ⟨h1, g', E.trans h2, h3⟩

theorem ops_sound {cf : CF} (hcf : CallOK P B cf) {ops : Array Oper} {r : Option Nat} {N : Nat} {g0 : Ghost} {w0 : World} {t' : List Value} {h' : Heap} : ∀ (k i : Nat) (t : List Value) (h : Heap) (g : Ghost) (a : Act) (w : World), i + k = ops.size → runOps P cf ((compOps P ops).drop i) t h = some (t', h') →
    Rel P B g h w → LR g t a.tmps.toList → Marks g w N a.defers → Ext g0 w0 g w → wpOpsIn (F0 r) 0 P ops (QX P B N g0 w0 .normal t' h') ((List.range ops.size).drop i) a w := by
  intro k
  induction k with
  | zero =>
    intro i t h g a w hi hr R hl hm E
    have : (compOps P ops).drop i = [] := by rw [List.drop_eq_nil_iff, compOps_len]; omega
    rw [this] at hr
    simp only [runOps, Option.some.injEq, Prod.mk.injEq] at hr
    obtain ⟨rfl, rfl⟩ := hr
    have : (List.range ops.size).drop i = [] := by rw [List.drop_eq_nil_iff, List.length_range]; omega
    rw [this]
    exact ⟨trivial, g, E, R, hl, hm⟩
  | succ k ih =>
    intro i t h g a w hi hr R hl hm E
    have hlt : i < ops.size := by omega
    have ho : ops[i]? = some ops[i] := Array.getElem?_eq_getElem hlt
    have hlc : i < (compOps P ops).length := by rw [compOps_len]; exact hlt
    have hge : (compOps P ops)[i] = compOper P ops (befores ops.toList) (effOf P ops) i ops[i] := by
      have := compOps_get (P := P) ho
      rw [List.getElem?_eq_getElem hlc] at this
      exact Option.some.inj this
    rw [List.drop_eq_getElem_cons hlc, hge] at hr
    have hrl : i < (List.range ops.size).length := by simpa using hlt
    rw [List.drop_eq_getElem_cons hrl, List.getElem_range]
    simp only [wpOpsIn, ho]
    simp only [runOps] at hr
    split at hr
    · rename_i hw
      have hw' := wanted_rel hl (o := ops[i]) hw
      rw [hw']
      simp only [if_true]
      split at hr
      · rename_i v h1 hop
        refine opIn_sound hcf R (fun x _ => eval_rel hl x) hop fun y w' g' hy R' E' => ?_
        exact ih (i + 1) _ _ g' _ w' (by omega) hr R' (put_rel (hl.mono E'.le) hy _) (by rw [put_defers]; exact hm.ext E') (E.trans E')
      · simp at hr
    · rename_i hw
      have hw' := wanted_rel hl (o := ops[i]) hw
      rw [hw']
      simp only [Bool.false_eq_true, if_false]
      refine ⟨fun _ _ => trivial, ?_⟩
      exact ih (i + 1) _ _ g _ w (by omega) hr R (put_rel hl .skip _) (by rw [put_defers]; exact hm) E
    · simp at hr

theorem forget_rel {t ts : List Value} (hl : LR g t ts) (keep : Nat) : LR g (forget keep t) ts := by
  unfold forget
  refine ⟨by simpa using hl.1, fun i x y hx hy => ?_⟩
  rw [List.getElem?_mapIdx] at hx
  cases e : t[i]? with
  | none => simp [e] at hx
  | some v =>
    rw [e] at hx
    simp only [Option.map_some, Option.some.injEq] at hx
    split at hx
    · subst hx; exact hl.2 i v y e hy
    · subst hx; exact .top _

/-! loops over a function: their records -/

theorem run_getLoop {r : Nat} {L : Loop} (hL : w.heap[r]? = some (.loop L)) : (Instr.getLoop r).run P w = .ok L w := by
  unfold Instr.getLoop
  rw [run_bindE (a := .loop L) (w' := w) (by simp [getObj, Sem.run, hL])]
  rfl

theorem run_setLoop {r : Nat} {L L' : Loop} (hL : w.heap[r]? = some (.loop L)) : (setObj r (.loop L')).run P w = .ok () { w with heap := w.heap.setIfInBounds r (.loop L') } := by
  simp [setObj, Sem.run, hL]

theorem setObj_other {r i : Nat} {o : Obj} (hi : i ≠ r) : (w.heap.setIfInBounds r o)[i]? = w.heap[i]? := by
  rw [Array.getElem?_setIfInBounds, if_neg (Ne.symm hi)]

/-- A loop's record is written. -/
theorem Rel.setLp (R : Rel P B g h w) {l r : Nat} {p' : Lp} {L' : Loop} (hl : g.lp l = some r)
    (hp : LpRel P g { w with heap := w.heap.setIfInBounds r (.loop L') } p' r L') :
    Rel P B g { h with lps := h.lps.set l p' } { w with heap := w.heap.setIfInBounds r (.loop L') } ∧ Ext g w g { w with heap := w.heap.setIfInBounds r (.loop L') } := by
  obtain ⟨hll, hrB, hrs, L, hL⟩ := R.lpdom _ _ hl
  have oth : ∀ i, i ≠ r → ({ w with heap := w.heap.setIfInBounds r (.loop L') } : World).heap[i]? = w.heap[i]? := fun i hi => setObj_other hi
  refine ⟨⟨by simpa using R.base, ?_, ?_, R.inj, ?_, ?_, ?_, R.lpinj⟩, ⟨Gle.refl g, fun q hq => .inl hq, by simp, fun q hq hn => oth q (fun e => hn (e ▸ .inr ⟨l, hl⟩)), rfl, rfl, rfl⟩⟩
  · intro b k hk
    have K := R.blk b k hk
    refine ⟨K.ne, K.last, K.le, K.es, K.all, fun v s hd hs => ?_⟩
    obtain ⟨r2, c, e, f, hm, hh, rest⟩ := K.at_ v s hd hs
    refine ⟨r2, c, e, f, hm, ?_, rest⟩
    rw [oth r2 (fun e => by subst e; rw [hL] at hh; simp at hh), hh]
  · intro b v q hm
    obtain ⟨h1, h2, h3⟩ := R.dom b v q hm
    exact ⟨h1, h2, by simpa using h3⟩
  · intro b o x hx
    obtain ⟨h1, y, hy, hv⟩ := R.ro b o x hx
    refine ⟨h1, y, ?_, hv⟩
    rw [← hy]
    exact World.cell?_of_block (w := w) (oth _ (by show (roA g b).block ≠ r; omega))
  · intro l2 p2 hp2
    simp only at hp2
    by_cases e : l = l2
    · subst e
      rw [List.getElem?_set_self hll] at hp2
      simp only [Option.some.injEq] at hp2; subst hp2
      exact ⟨r, L', hl, hp⟩
    · rw [List.getElem?_set_ne e] at hp2
      obtain ⟨r2, L2, hl2, hL2⟩ := R.lps l2 p2 hp2
      exact ⟨r2, L2, hl2, by rw [oth r2 (fun e2 => by subst e2; exact e (R.lpinj _ _ _ hl hl2))]; exact hL2.at_, hL2.state, hL2.pend, hL2.tmps, hL2.params, hL2.assign, hL2.body⟩
  · intro l2 r2 hl2
    obtain ⟨h1, h2, h3, L2, hL2⟩ := R.lpdom l2 r2 hl2
    refine ⟨by simpa using h1, h2, by simpa using h3, ?_⟩
    by_cases e : r2 = r
    · subst e
      exact ⟨L', by simp [hrs]⟩
    · exact ⟨L2, by rw [oth r2 e]; exact hL2⟩

/-- A new loop's record. -/
theorem Rel.newLp (R : Rel P B g h w) {r : Nat} {p : Lp} {L : Loop} (hr : w.heap[r]? = some (.loop L)) (hn : ¬ InR g r) (hB : B ≤ r) (hlt : r < w.heap.size) (hs : stateRel p.state L.state) (hpd : pendRel p.pending L.pending) (ht : LR g p.tmps L.tmps.toList)
    (hps : p.params = L.params.toList) (ha : ∃ all res x y, p.assign = comp P all res L.assign x y) (hb : ∃ all res x y, p.body = comp P all res L.body x y) :
    ∃ g', Rel P B g' { h with lps := h.lps ++ [p] } w ∧ Gle g g' ∧ (∀ q, InR g' q → InR g q ∨ q = r) ∧ g'.lp h.lps.length = some r := by
  let g' : Ghost := { g with lp := fun l => if l = h.lps.length then some r else g.lp l }
  have hold : ∀ l q, g.lp l = some q → l ≠ h.lps.length := by
    intro l q hq e; subst e
    have := (R.lpdom _ _ hq).1; omega
  have hnew : ∀ l q, g'.lp l = some q → g.lp l = some q ∨ (l = h.lps.length ∧ q = r) := by
    intro l q hq
    have hq' : (if l = h.lps.length then some r else g.lp l) = some q := hq
    split at hq'
    · rename_i e; simp only [Option.some.injEq] at hq'; exact .inr ⟨e, hq'.symm⟩
    · exact .inl hq'
  have gl : ∀ l q, g.lp l = some q → g'.lp l = some q := by
    intro l q hq; show (if _ then _ else _) = _
    rw [if_neg (hold l q hq)]; exact hq
  have G : Gle g g' := ⟨fun _ _ _ h => h, fun _ _ _ _ => rfl, fun _ _ _ _ => rfl, rfl, gl⟩
  refine ⟨g', ⟨R.base, ?_, R.dom, R.inj, ?_, ?_, ?_, ?_⟩, G, ?_, by show (if _ then _ else _) = _; rw [if_pos rfl]⟩
  · intro b k hk
    have K := R.blk b k hk
    refine ⟨K.ne, K.last, K.le, K.es, K.all, fun v s hd hs => ?_⟩
    obtain ⟨r2, c, e, f, hm, hh, h1, h2, h3, h4⟩ := K.at_ v s hd hs
    exact ⟨r2, c, e, f, hm, hh, h1, h2, h3, fun j x hj hx => by
      obtain ⟨y, hy, hv⟩ := h4 j x hj hx
      exact ⟨y, hy, hv.mono G⟩⟩
  · intro b o x hx
    obtain ⟨h1, y, hy, hv⟩ := R.ro b o x hx
    exact ⟨h1, y, hy, hv.mono G⟩
  · intro l2 p2 hp2
    simp only at hp2
    by_cases e : l2 < h.lps.length
    · rw [List.getElem?_append_left e] at hp2
      obtain ⟨r2, L2, hl2, hL2⟩ := R.lps l2 p2 hp2
      exact ⟨r2, L2, gl _ _ hl2, hL2.at_, hL2.state, hL2.pend, hL2.tmps.mono G, hL2.params, hL2.assign, hL2.body⟩
    · rw [List.getElem?_append_right (by omega)] at hp2
      have e2 : l2 = h.lps.length := by
        rcases Nat.lt_or_ge (l2 - h.lps.length) 1 with h1 | h1
        · omega
        · rw [List.getElem?_eq_none (by simpa using h1)] at hp2; simp at hp2
      subst e2
      simp at hp2; subst hp2
      exact ⟨r, L, by show (if _ then _ else _) = _; rw [if_pos rfl], hr, hs, hpd, ht.mono G, hps, ha, hb⟩
  · intro l2 r2 hl2
    rcases hnew l2 r2 hl2 with h1 | ⟨rfl, rfl⟩
    · obtain ⟨a1, a2, a3, a4⟩ := R.lpdom l2 r2 h1
      exact ⟨by simp; omega, a2, a3, a4⟩
    · exact ⟨by simp, hB, hlt, L, hr⟩
  · intro l1 l2 q h1 h2
    rcases hnew l1 q h1 with k1 | ⟨d1, e1⟩ <;> rcases hnew l2 q h2 with k2 | ⟨d2, e2⟩
    · exact R.lpinj _ _ _ k1 k2
    · exact (hn (e2 ▸ .inr ⟨_, k1⟩)).elim
    · exact (hn (e1 ▸ .inr ⟨_, k2⟩)).elim
    · rw [d1, d2]
  · intro q hq
    rcases hq with ⟨b, v, hm⟩ | ⟨l, hl⟩
    · exact .inl (.inl ⟨_, _, hm⟩)
    · rcases hnew l q hl with h1 | ⟨_, h1⟩
      · exact .inl (.inr ⟨l, h1⟩)
      · exact .inr h1

end

end Go.Ax
