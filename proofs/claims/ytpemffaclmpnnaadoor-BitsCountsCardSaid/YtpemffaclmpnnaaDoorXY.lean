/- An abstract machine for Go programs: its operations against the model's: all of them. -/
import Derived.Test.YtpemffaclmpnnaaDoorXX
namespace Go.Ax
set_option linter.unusedVariables false
set_option linter.unusedSimpArgs false

section
variable {P : Program} {B : Nat} {g : Ghost} {h : Heap} {w : World} {ρ ρ' : Operand → Value}

theorem rel_nilIface {y : Value} (h : VRel g .nilIface y) : y = .nilIface := by cases h; rfl

theorem tup2 {v y : Value} {b : Bool} (hv : VRel g v y) : VRel g (.tuple #[v, .bool b]) (.tuple #[y, .bool b]) := by
  refine .tuple rfl fun i p q hp hq => ?_
  match i with
  | 0 => simp at hp hq; subst hp; subst hq; exact hv
  | 1 => simp at hp hq; subst hp; subst hq; exact .bool b
  | i + 2 => simp at hp

theorem hold2 {v y : Value} {ok : Bool} (hv : VRel g v y) : VRel g (if ok then .tuple #[v, .bool true] else v) (if ok then .tuple #[y, .bool true] else y) := by
  cases ok
  · exact hv
  · exact tup2 hv

theorem ta_in {s a xt : TypeId} {u : Value} {ok : Bool} {ms : Array (String × TypeId)} {j : TypeInfo} (hu : P.underlying a = some (.interface ms)) (hj : P.info? s = some j) (hm : Instr.missingMethod ms j.methods = none) :
    (Instr.typeAssert (.iface s u) xt a ok).run P w = .ok (if ok then .tuple #[.iface s u, .bool true] else .iface s u) w := by
  unfold Instr.typeAssert
  rw [run_bindE (run_und hu)]
  simp only
  rw [run_bindE (run_info hj)]
  simp only [hm]
  rfl

theorem ta_out {s a xt : TypeId} {u z : Value} {ms : Array (String × TypeId)} {i j : TypeInfo} (hu : P.underlying a = some (.interface ms)) (hj : P.info? s = some j) (hm : ¬ (Instr.missingMethod ms j.methods).isNone = true) (hi : P.info? a = some i) (hz : i.zero = some z) :
    (Instr.typeAssert (.iface s u) xt a true).run P w = .ok (.tuple #[z, .bool false]) w := by
  unfold Instr.typeAssert
  rw [run_bindE (run_und hu)]
  simp only
  rw [run_bindE (run_info hj)]
  cases hq : Instr.missingMethod ms j.methods with
  | none => simp [hq] at hm
  | some m =>
    simp only [if_true]
    rw [run_bindE (run_zero hi hz)]; rfl

theorem ta_nil {a xt : TypeId} {z : Value} {d : TypeDesc} {i : TypeInfo} (hu : P.underlying a = some d) (hi : P.info? a = some i) (hz : i.zero = some z) :
    (Instr.typeAssert .nilIface xt a true).run P w = .ok (.tuple #[z, .bool false]) w := by
  unfold Instr.typeAssert
  rw [run_bindE (run_und hu)]
  cases d <;> (simp only [if_true]; rw [run_bindE (run_zero hi hz)]; rfl)

theorem ta_same {s a xt : TypeId} {u : Value} {ok : Bool} {d : TypeDesc} (hu : P.underlying a = some d) (hd : ∀ ms, d ≠ .interface ms) (hs : s = a) :
    (Instr.typeAssert (.iface s u) xt a ok).run P w = .ok (if ok then .tuple #[u, .bool true] else u) w := by
  unfold Instr.typeAssert
  rw [run_bindE (run_und hu)]
  cases d <;> first | (exact (hd _ rfl).elim) | (simp only [hs, if_true]; rfl)

theorem ta_other {s a xt : TypeId} {u z : Value} {d : TypeDesc} {i : TypeInfo} (hu : P.underlying a = some d) (hd : ∀ ms, d ≠ .interface ms) (hs : ¬ s = a) (hi : P.info? a = some i) (hz : i.zero = some z) :
    (Instr.typeAssert (.iface s u) xt a true).run P w = .ok (.tuple #[z, .bool false]) w := by
  unfold Instr.typeAssert
  rw [run_bindE (run_und hu)]
  cases d <;> first | (exact (hd _ rfl).elim) | (simp only [if_neg hs, if_true]; rw [run_bindE (run_zero hi hz)]; rfl)

theorem os_asrt (R : Rel P B g h w) {x : Operand} {xt a : TypeId} {ok : Bool} (hx : VRel g (ρ x) (ρ' x)) {res : ARes} (he : aop P h ρ (compOp P (.typeAssert x xt a ok)) = some res) :
    OpS P B g w (do pure (.value (← Instr.typeAssert (ρ' x) xt a ok))) res := by
  simp only [compOp] at he
  split at he
  · rename_i ms i hu hi
    split at he
    · rename_i z hz
      split at he
      · rename_i hp
        simp only [aop] at he
        split at he
        · rename_i e
          rw [e] at hx; rw [rel_nilIface hx]
          split at he
          · rename_i hok
            simp only [Option.some.injEq] at he; subst he; subst hok
            exact OpS.sameV R (ta_nil hu hi hz) (tup2 (plain_refl hp))
          · simp at he
        · rename_i e1 e2; simp at e2
        · rename_i s v ms' e1 e2
          simp only [Option.some.injEq] at e2; subst e2
          rw [e1] at hx; obtain ⟨u, hur, hv⟩ := rel_iface hx
          rw [hur]
          split at he
          · rename_i j hj
            split at he
            · rename_i hm
              simp only [Option.some.injEq] at he; subst he
              exact OpS.sameV R (ta_in hu hj (by simpa using hm)) (hold2 (.iface s hv))
            · rename_i hm
              split at he
              · rename_i hok
                simp only [Option.some.injEq] at he; subst he; subst hok
                exact OpS.sameV R (ta_out hu hj hm hi hz) (tup2 (plain_refl hp))
              · simp at he
          · simp at he
        · simp at he
      · simp [aop] at he
    · simp [aop] at he
  · rename_i d i hnd hu hi
    have hd : ∀ ms, d ≠ .interface ms := fun ms e => by subst e; exact hnd _ rfl
    split at he
    · rename_i z hz
      split at he
      · rename_i hp
        simp only [aop] at he
        split at he
        · rename_i e
          rw [e] at hx; rw [rel_nilIface hx]
          split at he
          · rename_i hok
            simp only [Option.some.injEq] at he; subst he; subst hok
            exact OpS.sameV R (ta_nil hu hi hz) (tup2 (plain_refl hp))
          · simp at he
        · rename_i s v e1 e2
          rw [e1] at hx; obtain ⟨u, hur, hv⟩ := rel_iface hx
          rw [hur]
          split at he
          · rename_i hs
            simp only [Option.some.injEq] at he; subst he
            exact OpS.sameV R (ta_same hu hd hs) (hold2 hv)
          · rename_i hs
            split at he
            · rename_i hok
              simp only [Option.some.injEq] at he; subst he; subst hok
              exact OpS.sameV R (ta_other hu hd hs hi hz) (tup2 (plain_refl hp))
            · simp at he
        · rename_i e1 e2; simp at e2
        · simp at he
      · simp [aop] at he
    · simp [aop] at he
  · simp [aop] at he

/-! methods -/

inductive PlRel (g : Ghost) : APl → Place → Prop
  | val {v y : Value} (h : VRel g v y) : PlRel g (.val v) (.val y)
  | var {a r : Addr} (h : ARel g a r) : PlRel g (.var a) (.var r)

theorem get_sound (R : Rel P B g h w) {t : TypeId} {x : APl} {y : Place} (hp : PlRel g x y) {v : Value} (hv : x.get P h t = some v) : ∃ u, (y.get t).run P w = .ok u w ∧ VRel g v u := by
  cases hp with
  | val h1 => simp only [APl.get, Option.some.injEq] at hv; subst hv; exact ⟨_, rfl, h1⟩
  | var h1 =>
    simp only [APl.get] at hv
    split at hv
    · rename_i q hq
      exact loadVar_sound R hq h1 hv
    · simp at hv

theorem run_fieldPlace {f : Field} {r : Addr} (h0 : ¬ (asize P f.type).getD 0 = 0) : (fieldPlace r f).run P w = .ok (r.add f.offset) w := by
  cases hs : asize P f.type with
  | none => simp [hs] at h0
  | some n =>
    simp [hs] at h0
    unfold fieldPlace
    rw [run_bindE (run_size hs)]
    simp [h0]

theorem follow_sound (R : Rel P B g h w) : ∀ {path : List FieldStep} {t : TypeId} {x : APl} {y : Place} (hp : PlRel g x y) {t' : TypeId} {x' : APl} (hf : afollow P h path t x = some (t', x')),
    ∃ y', (follow path t y).run P w = .ok (t', y') w ∧ PlRel g x' y' := by
  intro path
  induction path with
  | nil => intro t x y hp t' x' hf; simp [afollow] at hf; obtain ⟨rfl, rfl⟩ := hf; exact ⟨y, rfl, hp⟩
  | cons s path ih =>
    intro t x y hp t' x' hf
    unfold afollow at hf
    split at hf
    · rename_i fields hu
      split at hf
      · rename_i f hfl
        split at hf
        · rename_i hd
          split at hf
          · rename_i a ha
            obtain ⟨u, hu', hv⟩ := get_sound R hp ha
            obtain ⟨r, rfl, har⟩ := rel_ptr hv
            split at hf
            · simp at hf
            · rename_i h0
              obtain ⟨y', hy', hp'⟩ := ih (.var (har.add f.offset)) hf
              refine ⟨y', ?_, hp'⟩
              unfold follow
              rw [run_bindE (run_und hu)]
              simp only [hfl, hd, if_true]
              rw [run_bindE hu', run_bindE (a := r) (w' := w) rfl, run_bindE (run_fieldPlace h0)]
              exact hy'
          · simp at hf
        · rename_i hd
          cases hp with
          | var har =>
            simp only at hf
            split at hf
            · simp at hf
            · rename_i h0
              obtain ⟨y', hy', hp'⟩ := ih (.var (har.add f.offset)) hf
              refine ⟨y', ?_, hp'⟩
              unfold follow
              rw [run_bindE (run_und hu)]
              simp only [hfl, hd]
              simp only [Bool.false_eq_true, if_false]
              rw [run_bindE (run_fieldPlace h0)]
              exact hy'
          | val hv =>
            split at hf
            · rename_i a e; simp at e
            · rename_i cs e
              simp only [APl.val.injEq] at e; subst e
              obtain ⟨b, rfl, hs, hr⟩ := rel_agg hv
              split at hf
              · rename_i q hq
                split at hf
                · rename_i v hv'
                  obtain ⟨u, hu', hvu⟩ := part_sound (w := w) hq hs hr hv'
                  obtain ⟨y', hy', hp'⟩ := ih (.val hvu) hf
                  refine ⟨y', ?_, hp'⟩
                  unfold follow
                  rw [run_bindE (run_und hu)]
                  simp only [hfl, hd]
                  simp only [Bool.false_eq_true, if_false]
                  rw [run_bindE hu']
                  exact hy'
                · simp at hf
              · simp at hf
            · simp at hf
      · simp at hf
    · simp at hf

theorem recv_sound (R : Rel P B g h w) {xt : TypeId} {x : APl} {y : Place} (hp : PlRel g x y) {ptr : Bool} {v : Value} (hv : arecv P h xt x ptr = some v) (wr : Option String) : ∃ u, (receiverAt xt y ptr wr).run P w = .ok u w ∧ VRel g v u := by
  unfold arecv at hv
  split at hv
  · simp at hv
  · rename_i elem hu
    split at hv
    · rename_i hptr
      subst hptr
      obtain ⟨u, hu', hvu⟩ := get_sound R hp hv
      refine ⟨u, ?_, hvu⟩
      unfold receiverAt
      rw [run_bindE (run_und hu)]
      exact hu'
    · rename_i hptr
      have hptr : ptr = false := by simpa using hptr
      subst hptr
      split at hv
      · rename_i a ha
        obtain ⟨u, hu', hvu⟩ := get_sound R hp ha
        obtain ⟨r, rfl, har⟩ := rel_ptr hvu
        split at hv
        · rename_i q hq
          obtain ⟨u2, hu2, hvu2⟩ := loadVar_sound R hq har hv
          refine ⟨u2, ?_, hvu2⟩
          unfold receiverAt
          rw [run_bindE (run_und hu)]
          simp only
          rw [run_bindE hu']
          cases wr with
          | none =>
            simp only
            rw [run_bindE (a := .pointer (some r)) (w' := w) rfl, run_bindE (a := r) (w' := w) rfl]; exact hu2
          | some name =>
            simp only
            rw [run_bindE (a := .pointer (some r)) (w' := w) rfl, run_bindE (a := r) (w' := w) rfl]; exact hu2
        · simp at hv
      · simp at hv
  · rename_i d hnp hu
    split at hv
    · rename_i hptr
      subst hptr
      cases hp with
      | val h1 => simp at hv
      | var h1 =>
        simp only [Option.some.injEq] at hv; subst hv
        refine ⟨_, ?_, .ptr h1⟩
        unfold receiverAt
        rw [run_bindE (run_und hu)]
        cases d <;> first | rfl | exact (hnp _ rfl).elim
    · rename_i hptr
      have hptr : ptr = false := by simpa using hptr
      subst hptr
      obtain ⟨u, hu', hvu⟩ := get_sound R hp hv
      refine ⟨u, ?_, hvu⟩
      unfold receiverAt
      rw [run_bindE (run_und hu)]
      cases d <;> first | exact hu' | exact (hnp _ rfl).elim

theorem method_sound (R : Rel P B g h w) {t : TypeId} {v y : Value} (hv : VRel g v y) {name : String} {f : FuncId} {r : Value} (hm : amethod P h t v name = some (f, r)) (n : Nat) :
    ∃ u, (method (n + 1) t y name).run P w = .ok (f, u) w ∧ VRel g r u := by
  unfold amethod at hm
  split at hm
  · simp at hm
  · rename_i i hi
    split at hm
    · simp at hm
    · rename_i m hmm
      split at hm
      · simp at hm
      · rename_i xt x hx
        obtain ⟨y', hy', hp'⟩ := follow_sound R (.val hv) hx
        split at hm
        · simp at hm
        · rename_i f' ptr hfu
          cases hr : arecv P h xt x ptr with
          | none => simp [hr] at hm
          | some r' =>
            simp [hr] at hm
            obtain ⟨rfl, rfl⟩ := hm
            obtain ⟨u, hu, hvu⟩ := recv_sound R hp' hr (if m.path.isEmpty then some ((name.splitOn ".").getLastD name) else none)
            refine ⟨u, ?_, hvu⟩
            unfold method
            rw [run_bindE (run_info hi)]
            simp only [hmm]
            rw [run_bindE hy']
            simp only [hfu]
            rw [run_bindE hu]; rfl

/-! calls -/

theorem LR_plain {l l' : List Value} (hl : LR g l l') (hp : l.all plain = true) : l' = l := by
  rw [List.all_eq_true] at hp
  apply List.ext_getElem? 
  intro i
  cases e : l[i]? with
  | none => rw [List.getElem?_eq_none_iff] at e; rw [List.getElem?_eq_none_iff, ← hl.1]; exact e
  | some x =>
    obtain ⟨y, hy, hv⟩ := hl.get e
    rw [hy, plain_eq (hp x (List.mem_of_getElem? e)) hv]

theorem mm_sound (R : Rel P B g h w) {mx : Bool} {c : Call} {ts : Array TypeId} {ty : TypeId} {l' : Array Value} (hl : LR g (c.args.toList.map ρ) l'.toList) {res : ARes} (he : aop P h ρ (.mm mx c.args.toList) = some res) :
    OpS P B g w (do pure (.value (← (if mx then Builtin.max_ ts ty l' else Builtin.min_ ts ty l' : Sem Value)))) res := by
  simp only [aop] at he
  split at he
  · rename_i k a k' b e
    rw [e] at hl
    obtain ⟨y1, l1, h1, hv1, hl1⟩ := hl.cons_inv
    obtain ⟨y2, l2, h2, hv2, hl2⟩ := hl1.cons_inv
    have h3 := hl2.nil_inv
    subst h3; subst h2
    rw [rel_int hv1, rel_int hv2] at h1
    have h1' : l' = #[.int k a, .int k' b] := Array.toList_inj.1 h1
    subst h1'
    simp only [Option.some.injEq] at he; subst he
    cases mx
    · exact OpS.sameV R rfl (.int _ _)
    · exact OpS.sameV R rfl (.int _ _)
  · split at he
    · rename_i hp
      obtain ⟨v, hv, rfl⟩ := toVal_some he
      have h1 := LR_plain hl hp
      have h1' : l' = (c.args.toList.map ρ).toArray := Array.toList_inj.1 (by simpa using h1)
      subst h1'
      obtain ⟨hr, hpl⟩ := pures_run (w := w) hv
      refine OpS.sameV R ?_ (plain_refl hpl)
      cases mx <;> exact hr
    · simp at he

theorem call_sound (R : Rel P B g h w) {c : Call} {ty : TypeId} (hρ : ∀ x ∈ c.operands, VRel g (ρ x) (ρ' x)) {res : ARes} (he : aop P h ρ (compCall P c) = some res) :
    OpS P B g w (do let d ← resolve ρ' c ty; invoke d.target d.args) res := by
  have hargs : ∀ x ∈ c.args, VRel g (ρ x) (ρ' x) := by
    intro x hx
    refine hρ x ?_
    unfold Call.operands
    exact Array.mem_append.2 (.inr hx)
  have hmap : LR g (c.args.toList.map ρ) (c.args.map ρ').toList := by
    have := LR.map (g := g) c.args.toList ρ ρ' fun x hx => hargs x (by simpa using hx)
    simpa using this
  unfold compCall at he
  split at he
  · -- a function's value
    rename_i f hcal
    have hf : VRel g (ρ f) (ρ' f) := hρ f (by unfold Call.operands; rw [hcal]; simp)
    simp only [aop] at he
    unfold acallee at he
    split at he
    · rename_i id first captured e
      simp only [Option.some.injEq] at he; subst he
      rw [e] at hf
      generalize hy : ρ' f = y at hf
      cases hf with
      | @func fn a b cc d hfn h1 h2 ha hc =>
        refine ⟨b ++ c.args.map ρ' ++ d, ?_, ?_⟩
        · have l1 : LR g first.toList b.toList := ⟨by simpa using h1, fun i x y hx hy => ha i x y (by simpa using hx) (by simpa using hy)⟩
          have l2 : LR g captured.toList d.toList := ⟨by simpa using h2, fun i x y hx hy => hc i x y (by simpa using hx) (by simpa using hy)⟩
          simpa using (l1.append hmap).append l2
        · simp only
          unfold resolve
          simp only [hcal, hy]
          rfl
    · rename_i l first captured e
      split at he
      · rename_i h0
        simp only [Option.some.injEq] at he; subst he
        rw [e] at hf
        generalize hy : ρ' f = y at hf
        cases hf with
        | func fn hfn => exact (hfn _ rfl).elim
        | @yield l' r hl =>
          refine ⟨c.args.map ρ', by simpa using hmap, r, hl, ?_⟩
          unfold resolve
          simp only [hcal, hy]
          simp [Deferred.ofValue, invoke]
      · simp at he
    · simp at he
  · -- a method
    rename_i r name hcal
    have hr : VRel g (ρ r) (ρ' r) := hρ r (by unfold Call.operands; rw [hcal]; simp)
    simp only [aop] at he
    split at he
    · rename_i t v e
      split at he
      · rename_i f rv hm
        simp only [Option.some.injEq] at he; subst he
        rw [e] at hr
        obtain ⟨u, hu, hv⟩ := rel_iface hr
        obtain ⟨y, hy, hvy⟩ := method_sound R hv hm (P.types.size + 99)
        refine ⟨#[y] ++ c.args.map ρ', by simpa using LR.cons hvy (by simpa using hmap), ?_⟩
        simp only
        unfold resolve
        simp only [hcal, hu]
        rw [run_bindE (a := { target := .fn (.method name) #[], args := #[.iface t u] ++ c.args.map ρ' }) (w' := w) rfl]
        simp only [invoke]
        have h0 : (#[Value.iface t u] ++ c.args.map ρ')[0]? = some (.iface t u) := by rw [Array.getElem?_append_left (by simp)]; rfl
        have h1 : (#[Value.iface t u] ++ c.args.map ρ').extract 1 (#[Value.iface t u] ++ c.args.map ρ').size = c.args.map ρ' := by
          apply Array.toList_inj.1; simp; exact List.take_of_length_le (by simp)
        rw [h0]
        simp only [h1, callMethod]
        rw [run_bindE (run_program P w)]
        have hy' : (method (P.types.size + Made.depth) t u name).run P w = .ok (f, y) w := hy
        rw [run_bindE hy']
      · simp at he
    · simp at he
  · -- a builtin
    rename_i b hcal
    have hrun : ∀ {r : Result Next}, (builtin b c.argTypes ty (c.args.map fun | .const _ => true | _ => false) (c.args.map ρ')).run P w = r → (do let d ← resolve ρ' c ty; invoke d.target d.args : Sem Next).run P w = r := by
      intro r hr
      unfold resolve
      simp only [hcal]
      exact hr
    have lift : ∀ {s : Sem Next}, (do let d ← resolve ρ' c ty; invoke d.target d.args : Sem Next).run P w = s.run P w → OpS P B g w s res → OpS P B g w (do let d ← resolve ρ' c ty; invoke d.target d.args) res := by
      intro s hs ho
      cases res with
      | val v h' =>
        obtain ⟨y, w', g', h1, h2⟩ := ho
        exact ⟨y, w', g', by rw [hs]; exact h1, h2⟩
      | call tg args =>
        obtain ⟨a', h1, h2⟩ := ho
        refine ⟨a', h1, ?_⟩
        cases tg with
        | fn f => simp only at h2 ⊢; rw [hs]; exact h2
        | yield l => simp only at h2 ⊢; obtain ⟨r, h3, h4⟩ := h2; exact ⟨r, h3, by rw [hs]; exact h4⟩
    split at he
    · -- len
      rename_i x xs t ts ha ht
      have hx : VRel g (ρ x) (ρ' x) := hargs x (by rw [← Array.mem_toList_iff, ha]; simp)
      have e1 : c.args.map ρ' = (ρ' x :: xs.map ρ').toArray := by apply Array.toList_inj.1; simp [ha]
      have e2 : c.argTypes = (t :: ts).toArray := by apply Array.toList_inj.1; simp [ht]
      refine lift (s := do pure (.value (← Builtin.len_ (t :: ts).toArray ty (ρ' x :: xs.map ρ').toArray))) (hrun (by rw [e1, e2]; rfl)) ?_
      split at he
      · rename_i hu
        simp only [aop] at he
        split at he
        · rename_i s e
          rw [e] at hx
          simp only [Option.some.injEq] at he; subst he
          exact OpS.sameV R (by unfold Builtin.len_; simp only [List.getElem?_toArray, List.getElem?_cons_zero]; rw [run_bindE (run_und hu), rel_string hx]; rfl) (.int _ _)
        · simp at he
      · rename_i el hu
        simp only [aop] at he
        split at he
        · rename_i a n cc e
          rw [e] at hx
          simp only [Option.some.injEq] at he; subst he
          cases a with
          | none => exact OpS.sameV R (by unfold Builtin.len_; simp only [List.getElem?_toArray, List.getElem?_cons_zero]; rw [run_bindE (run_und hu), rel_none_slice hx]; rfl) (.int _ _)
          | some a =>
            obtain ⟨r, rc, hr, _⟩ := rel_slice hx
            exact OpS.sameV R (by unfold Builtin.len_; simp only [List.getElem?_toArray, List.getElem?_cons_zero]; rw [run_bindE (run_und hu), hr]; rfl) (.int _ _)
        · simp at he
      · rename_i n el hu
        simp only [aop, Option.some.injEq] at he; subst he
        refine OpS.sameV R (y := .int .i64 n) ?_ (.int _ _)
        unfold Builtin.len_; simp only [List.getElem?_toArray, List.getElem?_cons_zero]; rw [run_bindE (run_und hu)]
        cases ρ' x <;> rfl
      · rename_i arr hu
        split at he
        · rename_i n el hu2
          simp only [aop, Option.some.injEq] at he; subst he
          refine OpS.sameV R (y := .int .i64 n) ?_ (.int _ _)
          unfold Builtin.len_; simp only [List.getElem?_toArray, List.getElem?_cons_zero]; rw [run_bindE (run_und hu)]
          cases ρ' x <;> (simp only; rw [run_bindE (run_und hu2)]; rfl)
        · simp [aop] at he
      · simp [aop] at he
    · -- cap
      rename_i x xs t ts ha ht
      have hx : VRel g (ρ x) (ρ' x) := hargs x (by rw [← Array.mem_toList_iff, ha]; simp)
      have e1 : c.args.map ρ' = (ρ' x :: xs.map ρ').toArray := by apply Array.toList_inj.1; simp [ha]
      have e2 : c.argTypes = (t :: ts).toArray := by apply Array.toList_inj.1; simp [ht]
      refine lift (s := do pure (.value (← Builtin.cap_ (t :: ts).toArray ty (ρ' x :: xs.map ρ').toArray))) (hrun (by rw [e1, e2]; rfl)) ?_
      split at he
      · rename_i el hu
        simp only [aop] at he
        split at he
        · rename_i a n cc e
          rw [e] at hx
          split at he
          · rename_i hc
            simp only [Option.some.injEq] at he; subst he
            have key : ∀ {a' : Option Addr}, ρ' x = .slice a' n cc → (Builtin.cap_ (t :: ts).toArray ty (ρ' x :: xs.map ρ').toArray).run P w = .ok (.int .i64 cc) w := by
              intro a' hr
              unfold Builtin.cap_
              simp only [List.getElem?_toArray, List.getElem?_cons_zero]
              rw [run_bindE (run_und hu), hr]
              rfl
            cases a with
            | none => exact OpS.sameV R (key (rel_none_slice hx)) (.int _ _)
            | some a =>
              obtain ⟨r, rc, hr, _, h2, _⟩ := rel_slice hx
              have := h2 hc; subst this
              exact OpS.sameV R (key hr) (.int _ _)
          · simp at he
        · simp at he
      · simp [aop] at he
    · -- append
      rename_i s x st xt ha ht
      have hs : VRel g (ρ s) (ρ' s) := hargs s (by rw [← Array.mem_toList_iff, ha]; simp)
      have hx : VRel g (ρ x) (ρ' x) := hargs x (by rw [← Array.mem_toList_iff, ha]; simp)
      have e1 : c.args.map ρ' = #[ρ' s, ρ' x] := by apply Array.toList_inj.1; simp [ha]
      have e2 : c.argTypes = #[st, xt] := by apply Array.toList_inj.1; simp [ht]
      refine lift (s := do pure (.value (← Builtin.append_ #[st, xt] ty #[ρ' s, ρ' x]))) (hrun (by rw [e1, e2]; rfl)) ?_
      split at he
      · rename_i el xd hst hxt
        split at he
        · simp [aop] at he
        · rename_i hxd
          split at he
          · rename_i i zl hi hz
            exact os_app R hst hxt (by simpa using hxd) hi hz hs hx he
          · simp [aop] at he
      · simp [aop] at he
    · -- copy
      rename_i d s t ts ha ht
      have hd : VRel g (ρ d) (ρ' d) := hargs d (by rw [← Array.mem_toList_iff, ha]; simp)
      have hs : VRel g (ρ s) (ρ' s) := hargs s (by rw [← Array.mem_toList_iff, ha]; simp)
      have e1 : c.args.map ρ' = #[ρ' d, ρ' s] := by apply Array.toList_inj.1; simp [ha]
      have e2 : c.argTypes = (t :: ts).toArray := by apply Array.toList_inj.1; simp [ht]
      refine lift (s := do pure (.value (← Builtin.copy_ (t :: ts).toArray ty #[ρ' d, ρ' s]))) (hrun (by rw [e1, e2]; rfl)) ?_
      split at he
      · rename_i el hu
        split at he
        · rename_i n hn
          exact os_copy R hu hn hd hs he
        · simp [aop] at he
      · simp [aop] at he
    · -- max
      have := mm_sound R (mx := true) (c := c) (ts := c.argTypes) (ty := ty) hmap he
      exact lift (s := do pure (.value (← Builtin.max_ c.argTypes ty (c.args.map ρ')))) (hrun rfl) this
    · -- min
      have := mm_sound R (mx := false) (c := c) (ts := c.argTypes) (ty := ty) hmap he
      exact lift (s := do pure (.value (← Builtin.min_ c.argTypes ty (c.args.map ρ')))) (hrun rfl) this
    · simp [aop] at he

theorem ORel.of {o : Option Operand} {l : Array Operand} (hρ : ∀ x ∈ l, VRel g (ρ x) (ρ' x)) (ho : ∀ x, o = some x → x ∈ l) : ORel g (o.map ρ) (o.map ρ') :=
  ORel.map fun x hx => hρ x (ho x hx)

theorem op_sound (R : Rel P B g h w) {o : Oper} (hρ : ∀ x ∈ o.op.operands, VRel g (ρ x) (ρ' x)) {res : ARes} (he : aop P h ρ (compOp P o.op) = some res) : OpS P B g w (execOp ρ' o) res := by
  obtain ⟨dst, op, ty, pos, after, guard⟩ := o
  simp only at hρ he
  unfold execOp
  simp only
  cases op with
  | move x => exact os_move R (hρ x (by simp [Op.operands])) he
  | assign x => exact os_move R (hρ x (by simp [Op.operands])) he
  | pick c a b => exact os_pick R (hρ c (by simp [Op.operands])) (hρ a (by simp [Op.operands])) (hρ b (by simp [Op.operands])) he
  | alloc t => exact os_new R he
  | box t x => exact os_box R (hρ x (by simp [Op.operands])) he
  | build t parts =>
    refine os_build R (fun p hp => hρ p.2 ?_) he
    simp only [Op.operands, List.mem_toArray, List.mem_map]
    exact ⟨p, by simpa using hp, rfl⟩
  | buildSlice t len parts =>
    refine os_lit R (fun p hp => hρ p.2 ?_) he
    simp only [Op.operands, List.mem_toArray, List.mem_map]
    exact ⟨p, by simpa using hp, rfl⟩
  | load t x => exact os_load R (hρ x (by simp [Op.operands])) he
  | store t a x => exact os_store R (hρ a (by simp [Op.operands])) (hρ x (by simp [Op.operands])) he
  | nilCheck x => exact os_chk R (hρ x (by simp [Op.operands])) (o := ⟨dst, .nilCheck x, ty, pos, after, guard⟩) rfl he
  | binOp op t x y yt => exact os_bin R (hρ x (by simp [Op.operands])) (hρ y (by simp [Op.operands])) he
  | unOp op t x => exact os_un R (hρ x (by simp [Op.operands])) he
  | convert s d x => exact os_convert R (hρ x (by simp [Op.operands])) he
  | makeInterface t x => exact os_mkI R (hρ x (by simp [Op.operands])) he
  | makeFunc fn a b =>
    have ha : ∀ x ∈ a, VRel g (ρ x) (ρ' x) := fun x hx => hρ x (Array.mem_append.2 (.inl hx))
    have hb : ∀ x ∈ b, VRel g (ρ x) (ρ' x) := fun x hx => hρ x (Array.mem_append.2 (.inr hx))
    simp only [compOp] at he
    split at he
    · simp [aop] at he
    · rename_i hn
      exact os_mkF R (fun l e => hn l e) ha hb he
  | makeSlice t l c => exact os_mkS R (hρ l (by simp [Op.operands])) (hρ c (by simp [Op.operands])) he
  | slice t x lo hi mx =>
    have hx := hρ x (by simp [Op.operands])
    have hlo : ORel g (lo.map ρ) (lo.map ρ') := ORel.of hρ fun z hz => by subst hz; simp [Op.operands]
    have hhi : ORel g (hi.map ρ) (hi.map ρ') := ORel.of hρ fun z hz => by subst hz; simp [Op.operands]
    have hmx : ORel g (mx.map ρ) (mx.map ρ') := ORel.of hρ fun z hz => by subst hz; simp [Op.operands]
    simp only [compOp] at he
    split at he
    · rename_i e hu
      split at he
      · rename_i s hs; exact os_slc R hu hs hx hlo hhi hmx he
      · simp [aop] at he
    · rename_i hu
      split at he
      · simp [aop] at he
      · rename_i hm
        have : mx = none := by cases mx <;> simp_all
        subst this
        exact os_slcStr R hu hx hlo hhi he
    · rename_i n e hu
      split at he
      · rename_i s hs
        split at he
        · rename_i hn; exact os_slcArr R hu hs hx hlo hhi hmx hn he
        · simp [aop] at he
      · simp [aop] at he
    · simp [aop] at he
  | fieldAddr t x i => exact os_fad R (hρ x (by simp [Op.operands])) he
  | field t x i => exact os_fld R (hρ x (by simp [Op.operands])) he
  | indexAddr t x i => exact os_iad R (hρ x (by simp [Op.operands])) (hρ i (by simp [Op.operands])) he
  | index t x i => exact os_ix R (hρ x (by simp [Op.operands])) (hρ i (by simp [Op.operands])) he
  | typeAssert x xt a ok => exact os_asrt R (hρ x (by simp [Op.operands])) he
  | extract x i => exact os_extr R (hρ x (by simp [Op.operands])) he
  | call c => exact call_sound R hρ he
  | _ => simp [compOp, aop] at he

end

end Go.Ax
