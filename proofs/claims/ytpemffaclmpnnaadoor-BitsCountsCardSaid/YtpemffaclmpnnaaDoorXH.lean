/- An abstract machine for Go programs: what it answers, the model answers. -/
import Derived.Test.YtpemffaclmpnnaaDoorXG
namespace Go.Ax
set_option linter.unusedVariables false
set_option linter.unusedSimpArgs false

section
variable {P : Program} {B : Nat}

theorem resVals_sound {g : Ghost} {h : Heap} {w : World} (R : Rel P B g h w) {t : List Value} {tm : Array Value} (hl : LR g t tm.toList) : ∀ {rs : List ResultVar} {as : List ARs}, resOf P rs = some as → ∀ {l : List Value}, resVals t h as = some l →
    ∃ ys : List Value, (rs.mapM fun x => match x with
      | ResultVar.tmp t => pure (tm.getD t undef)
      | ResultVar.cell a t => do loadVar t (← asAddr (tm.getD a undef)) : Sem (List Value)).run P w = .ok ys w ∧ LR g l ys := by
  have hget : ∀ i, VRel g (t.getD i undef) (tm.getD i undef) := by
    intro i
    rw [List.getD_eq_getElem?_getD, Array.getD_eq_getD_getElem?]
    cases e : t[i]? with
    | none => exact .top _
    | some v =>
      obtain ⟨y, hy, hv⟩ := hl.get e
      have : tm[i]? = some y := by simpa using hy
      rw [this]; exact hv
  intro rs
  induction rs with
  | nil =>
    intro as ha l hr
    simp [resOf] at ha; subst ha
    simp [resVals] at hr; subst hr
    exact ⟨[], by simp, LR.nil g⟩
  | cons x rs ih =>
    intro as ha l hr
    cases x with
    | tmp i =>
      simp only [resOf] at ha
      cases hq : resOf P rs with
      | none => simp [hq] at ha
      | some as' =>
        simp [hq] at ha; subst ha
        simp only [resVals] at hr
        split at hr
        · rename_i l' hl'
          simp only [Option.some.injEq] at hr; subst hr
          obtain ⟨ys, h1, h2⟩ := ih hq hl'
          refine ⟨tm.getD i undef :: ys, ?_, LR.cons (hget i) h2⟩
          rw [List.mapM_cons, run_bindE (a := tm.getD i undef) (w' := w) rfl, run_bindE h1]
          rfl
        · simp at hr
    | cell i ty =>
      simp only [resOf] at ha
      split at ha
      · rename_i q as' hq1 hq2
        simp only [Option.some.injEq] at ha; subst ha
        simp only [resVals] at hr
        split at hr
        · rename_i a l' he hl'
          split at hr
          · rename_i v hv
            simp only [Option.some.injEq] at hr; subst hr
            have hg := hget i
            rw [he] at hg
            obtain ⟨r, hr', har⟩ := rel_ptr hg
            obtain ⟨y, hy, hvy⟩ := loadVar_sound R hq1 har hv
            obtain ⟨ys, h1, h2⟩ := ih hq2 hl'
            refine ⟨y :: ys, ?_, LR.cons hvy h2⟩
            rw [List.mapM_cons]
            rw [run_bindE (a := y) (w' := w) (by simp only [hr']; rw [run_bindE (a := r) (w' := w) rfl]; exact hy), run_bindE h1]
            rfl
          · simp at hr
        · simp at hr
      · simp at ha

theorem oneOf_rel {g : Ghost} {l ys : List Value} (hl : LR g l ys) : VRel g (oneOf l) (if h : ys.toArray.size = 1 then ys.toArray[0] else .tuple ys.toArray) := by
  match l, ys, hl with
  | [], ys, hl => have := hl.nil_inv; subst this; exact .top _
  | [x], ys, hl =>
    obtain ⟨y, ys', rfl, hv, hl'⟩ := hl.cons_inv
    have := hl'.nil_inv; subst this
    simpa [oneOf] using hv
  | x :: x2 :: l, ys, hl =>
    obtain ⟨y, ys', rfl, hv, hl'⟩ := hl.cons_inv
    obtain ⟨y2, ys2, rfl, hv2, hl2⟩ := hl'.cons_inv
    have : ¬ (y :: y2 :: ys2).toArray.size = 1 := by simp
    rw [dif_neg this]
    exact .tuple (by simpa using hl.1) fun i a b ha hb => hl.2 i a b (by simpa [oneOf] using ha) (by simpa using hb)

theorem run_take {w : World} {D : Nat} (hD : w.heap[D]? = some (.deferred (some []))) : (Instr.takeDeferred D).run P w = .ok [] { w with heap := w.heap.setIfInBounds D (.deferred none) } := by
  unfold Instr.takeDeferred
  rw [run_bindE (a := .deferred (some [])) (w' := w) (by simp [getObj, Sem.run, hD])]
  simp only
  rw [run_bindE (a := ()) (w' := { w with heap := w.heap.setIfInBounds D (.deferred none) }) (by simp [setObj, Sem.run, hD])]
  rfl

/-- The marks are taken on the way out. -/
theorem leaves_sound {fn : Func} {tm : Array Value} {g0 : Ghost} {w0 : World} {v y : Value} {h' : Heap} {g : Ghost} (hN : True) : ∀ (Ds : List Nat) (w : World), Ds.Nodup → (∀ D ∈ Ds, w0.heap.size ≤ D ∧ D < w.heap.size ∧ w.heap[D]? = some (.deferred (some [])) ∧ ¬ InR g D) →
    Rel P B g h' w → Ext g0 w0 g w → (∀ w', Rel P B g h' w' → (∀ r, InR g r → w'.heap[r]? = w.heap[r]?) → (∀ r, r < B → w'.heap[r]? = w.heap[r]?) → ∃ y, (results fn tm).run P w' = .ok y w' ∧ VRel g v y) → B ≤ w0.heap.size →
    LeavesInM Fence.wide 0 P fn tm (PostC P B g0 w0 v h') (Ds.map mark) .returning w := by
  intro Ds
  induction Ds with
  | nil =>
    intro w _ _ R E hres _
    obtain ⟨y, hy, hv⟩ := hres w R (fun _ _ => rfl) (fun _ _ => rfl)
    exact ⟨y, hy, y, g, rfl, hv, R, E⟩
  | cons D Ds ih =>
    intro w hnd hDs R E hres hB
    obtain ⟨h1, h2, h3, h4⟩ := hDs D (by simp)
    rw [List.nodup_cons] at hnd
    let w' : World := { w with heap := w.heap.setIfInBounds D (.deferred none) }
    have oth : ∀ i, i ≠ D → w'.heap[i]? = w.heap[i]? := fun i hi => setObj_other hi
    have hsz : w'.heap.size = w.heap.size := by simp [w']
    have R' : Rel P B g h' w' := R.of_same (by omega) fun r hr => oth r (fun e => by
      subst e
      rcases hr with hr | hr
      · exact h4 hr
      · omega)
    have E' : Ext g0 w0 g w' := ⟨E.le, E.new, by rw [hsz]; exact E.size, fun r hr hn => by rw [oth r (by omega)]; exact E.same r hr hn, E.os, E.tape, E.output⟩
    refine ⟨by simp, .inl ⟨D, w', rfl, run_take h3, ?_⟩⟩
    refine ih w' hnd.2 (fun D' hD' => ?_) R' E' (fun w2 R2 hs1 hs2 => ?_) hB
    · obtain ⟨a1, a2, a3, a4⟩ := hDs D' (by simp [hD'])
      have hne : D' ≠ D := fun e => hnd.1 (e ▸ hD')
      exact ⟨a1, by rw [hsz]; exact a2, by rw [oth D' hne]; exact a3, a4⟩
    · refine hres w2 R2 (fun r hr => ?_) (fun r hr => ?_)
      · rw [hs1 r hr]; exact oth r (fun e => h4 (e ▸ hr))
      · rw [hs2 r hr]; exact oth r (by omega)

theorem fn_sound {cf : CF} (hcf : CallOK P B cf) (hmix : P.follows .mixedOrders = true) {n : Nat} {f : FuncId} {fn : Func} {a : AFn} (hf : P.funcs[f]? = some fn) (ha : compF P fn = some a) {args : List Value} {h : Heap} {v : Value} {h' : Heap} (hr : runFn P cf n a args h = some (v, h'))
    {g : Ghost} {w : World} {args' : Array Value} (R : Rel P B g h w) (hl : LR g args args'.toList) : CallsIn Fence.wide 0 P f args' w (PostC P B g w v h') := by
  unfold compF at ha
  split at ha
  case h_2 => simp at ha
  rename_i c rs hb hrs
  simp only [Option.some.injEq] at ha; subst ha
  refine callsIn_of_wp_marks hf hb trivial ?_
  unfold runFn at hr
  have hl0 : LR g (args ++ List.replicate (fn.ntmps - args.length) undef) (args' ++ Array.replicate (fn.ntmps - args'.size) undef).toList := by
    have hsz : args'.size = args.length := by have := hl.1; simp at this; omega
    rw [hsz]
    have := hl.append (LR.replicate (g := g) (VRel.top undef) (fn.ntmps - args.length))
    simpa using this
  have fin : ∀ {e : Ex} {t : List Value} {h1 : Heap} {a' : Act} {w' : World}, (∃ g', Ext g w g' w' ∧ Rel P B g' h1 w' ∧ LR g' t a'.tmps.toList ∧ Marks g' w' w.heap.size a'.defers) → (resVals t h1 rs).map (fun l => (oneOf l, h1)) = some (v, h') → LeavesInM Fence.wide 0 P fn a'.tmps (PostC P B g w v h') a'.defers .returning w' := by
    intro e t h1 a' w' ⟨g', E1, R1, hl1, hm1⟩ hres
    cases hq : resVals t h1 rs with
    | none => simp [hq] at hres
    | some l =>
      simp [hq] at hres
      obtain ⟨rfl, rfl⟩ := hres
      obtain ⟨Ds, d1, d2, d3⟩ := hm1
      rw [d2]
      refine leaves_sound (v := oneOf l) (y := undef) trivial Ds w' d1 (fun D hD => d3 D hD) R1 E1 (fun w2 R2 _ _ => ?_) R.base
      obtain ⟨ys, hy, hly⟩ := resVals_sound R2 hl1 hrs hq
      refine ⟨_, ?_, oneOf_rel hly⟩
      unfold results
      have : (fn.results.mapM fun x => match x with
        | ResultVar.tmp t => pure (a'.tmps.getD t undef)
        | ResultVar.cell a t => do loadVar t (← asAddr (a'.tmps.getD a undef)) : Sem (Array Value)).run P w2 = .ok ys.toArray w2 := by
        rw [Array.mapM_eq_mapM_toList, Sem.run_map, hy]; rfl
      refine (run_bindE (a := ys.toArray) (w' := w2) ?_).trans ?_
      · exact this
      · rfl
  split at hr
  · simp at hr
  · rename_i e t h1 hne hex
    refine wpIn_mono (exec_sound hcf hmix n _ _ c _ _ _ _ _ _ _ hex g w _ none w.heap.size (fun q hq => by simp at hq) R hl0 ⟨[], List.nodup_nil, rfl, fun D hD => by simp at hD⟩ (Nat.le_refl _)) ?_
    intro ex a' w' hq
    obtain ⟨hex', hrest⟩ := hq
    cases e with
    | normal => rw [exRel_normal hex']; exact fin (e := .normal) hrest hr
    | ret => rw [exRel_ret hex']; exact fin (e := .ret) hrest hr
    | exit i => exact (hne _ rfl).elim
  · simp at hr

theorem params_rel {g : Ghost} : ∀ (ps : List Nat) {as bs : List Value} (hab : LR g as bs) {t : List Value} {tm : Array Value} (hl : LR g t tm.toList), LR g ((ps.zip as).foldl (fun t (i, v) => t.set i v) t) ((ps.zip bs).foldl (fun tm (i, v) => tm.setIfInBounds i v) tm).toList := by
  intro ps
  induction ps with
  | nil => intro as bs hab t tm hl; simpa using hl
  | cons p ps ih =>
    intro as bs hab t tm hl
    cases as with
    | nil => rw [hab.nil_inv]; simpa using hl
    | cons x as =>
      obtain ⟨y, bs', rfl, hv, hab'⟩ := hab.cons_inv
      simp only [List.zip_cons_cons, List.foldl_cons]
      refine ih hab' ?_
      have := hl.set hv p
      simpa using this

theorem yield_sound {cf : CF} (hcf : CallOK P B cf) (hmix : P.follows .mixedOrders = true) {n l : Nat} {args : List Value} {h : Heap} {v : Value} {h' : Heap} (hr : runYield P cf n l args h = some (v, h'))
    {g : Ghost} {w : World} {args' : Array Value} (R : Rel P B g h w) (hl : LR g args args'.toList) {r : Nat} (hlp : g.lp l = some r) :
    ∃ fid t' as bd, (Instr.yield r args').run P w = .ok (.round r fid t' as bd) w ∧ RoundIn Fence.wide 0 P r fid t' as bd w (PostC P B g w v h') := by
  unfold runYield at hr
  split at hr
  · simp at hr
  rename_i p hp
  split at hr
  · simp at hr
  rename_i hlen
  obtain ⟨r', L, hl', hL⟩ := R.lps _ _ hp
  rw [hlp] at hl'; simp only [Option.some.injEq] at hl'; subst hl'
  have hsz : args'.size = L.params.size := by
    have h1 := hl.1
    have h2 : args.length = p.params.length := by simpa using hlen
    rw [hL.params] at h2
    simp at h1 h2; omega
  refine ⟨L.fn, (L.params.zip args').foldl (fun tmps (t, a) => tmps.setIfInBounds t a) L.tmps, L.assign, L.body, ?_, ?_⟩
  · unfold Instr.yield
    rw [run_bindE (run_getLoop hL.at_)]
    rw [if_neg (by omega)]
    rfl
  refine roundIn_of_wpIn trivial ?_
  have hrd : RndOk g (some r) := fun q hq => by simp only [Option.some.injEq] at hq; subst hq; exact ⟨l, hlp⟩
  have ht0 : LR g ((p.params.zip args).foldl (fun t (i, v) => t.set i v) p.tmps) ((L.params.zip args').foldl (fun tmps (t, a) => tmps.setIfInBounds t a) L.tmps).toList := by
    have := params_rel p.params hl hL.tmps
    rw [hL.params] at this ⊢
    have e : (L.params.zip args').foldl (fun tmps (t, a) => tmps.setIfInBounds t a) L.tmps = (L.params.toList.zip args'.toList).foldl (fun tm (i, v) => tm.setIfInBounds i v) L.tmps := by
      rw [← Array.foldl_toList, Array.toList_zip]
    rw [e]; exact this
  have hmk : ∀ {g : Ghost} {w : World}, Marks g w w.heap.size ([] : List Deferred) := fun {g w} => ⟨[], List.nodup_nil, rfl, fun D hD => by simp at hD⟩
  obtain ⟨al, res, x0, y0, hassign⟩ := hL.assign
  obtain ⟨al2, res2, x2, y2, hbody⟩ := hL.body
  split at hr
  case h_2 => simp at hr
  rename_i t1 h1 hasg
  split at hr
  · simp at hr
  rename_i p1 hp1
  split at hr
  · simp at hr
  rename_i hready
  rw [hassign] at hasg
  refine wpIn_mono (exec_sound hcf hmix n _ _ L.assign _ _ _ _ _ _ _ hasg g w { tmps := _, defers := [] } (some r) w.heap.size hrd R ht0 hmk (Nat.le_refl _)) ?_
  intro ex a1 w1 hq
  obtain ⟨hex, g1, E1, R1, hl1, hm1⟩ := hq
  rw [exRel_normal hex]
  have hlp1 := E1.le.lp _ _ hlp
  obtain ⟨r', L1, hl', hL1⟩ := R1.lps _ _ hp1
  rw [hlp1] at hl'; simp only [Option.some.injEq] at hl'; subst hl'
  have hst1 : L1.state = .ready := by
    have h1 := hL1.state
    have h2 : p1.state = .ready := by simpa using hready
    rw [h2] at h1; exact h1
  have hlt1 := (R1.lpdom _ _ hlp1).2.2.1
  obtain ⟨R2, E2⟩ := R1.setLp (p' := { p1 with state := .busy }) (L' := { L1 with state := .busy }) hlp1 ⟨by simp [hlt1], rfl, hL1.pend, hL1.tmps, hL1.params, hL1.assign, hL1.body⟩
  refine ⟨{ w1 with heap := w1.heap.setIfInBounds r (.loop { L1 with state := .busy }) }, ?_, ?_⟩
  · unfold Instr.beginRound
    rw [run_bindE (run_getLoop hL1.at_), run_bindE (run_setLoop hL1.at_), hst1]
    rfl
  split at hr
  · simp at hr
  rename_i e t3 h3 hbd
  split at hr
  · simp at hr
  rename_i p3 hp3
  rw [hbody] at hbd
  refine wpIn_mono (exec_sound hcf hmix n _ _ L.body _ _ _ _ _ _ _ hbd g1 _ a1 (some r) w.heap.size (rnd_ext hrd E1) R2 hl1 (hm1.ext E2) (E1.trans E2).size) ?_
  intro ex3 a3 w3 hq3
  obtain ⟨hex3, g3, E3, R3, hl3, _⟩ := hq3
  have hlp3 := E3.le.lp _ _ hlp1
  obtain ⟨r', L3, hl', hL3⟩ := R3.lps _ _ hp3
  rw [hlp3] at hl'; simp only [Option.some.injEq] at hl'; subst hl'
  have hlt3 := (R3.lpdom _ _ hlp3).2.2.1
  have E13 : Ext g w g3 w3 := (E1.trans E2).trans E3
  have endr : ∀ (j : Option Code), (Instr.endRound r j).run P w3 = .ok (.bool j.isNone) { w3 with heap := w3.heap.setIfInBounds r (.loop { L3 with state := if j.isNone then .ready else .done, pending := j }) } := by
    intro j
    unfold Instr.endRound
    rw [run_bindE (run_getLoop hL3.at_), run_bindE (run_setLoop hL3.at_)]
    rfl
  cases e with
  | normal =>
    rw [exRel_normal hex3]
    rw [if_pos rfl] at hr
    simp only [Option.some.injEq, Prod.mk.injEq] at hr
    obtain ⟨rfl, rfl⟩ := hr
    obtain ⟨R4, E4⟩ := R3.setLp (p' := { p3 with state := .ready, pending := none }) (L' := { L3 with state := .ready, pending := none }) hlp3 ⟨by simp [hlt3], rfl, rfl, hL3.tmps, hL3.params, hL3.assign, hL3.body⟩
    exact ⟨.bool true, _, endr none, .bool true, g3, rfl, .bool true, R4, E13.trans E4⟩
  | ret =>
    rw [exRel_ret hex3]
    rw [if_neg (by simp)] at hr
    simp only [Option.some.injEq, Prod.mk.injEq] at hr
    obtain ⟨rfl, rfl⟩ := hr
    obtain ⟨R4, E4⟩ := R3.setLp (p' := { p3 with state := .done, pending := some .ret }) (L' := { L3 with state := .done, pending := some .ret }) hlp3 ⟨by simp [hlt3], rfl, rfl, hL3.tmps, hL3.params, hL3.assign, hL3.body⟩
    exact ⟨.bool false, _, endr (some .ret), .bool false, g3, rfl, .bool false, R4, E13.trans E4⟩
  | exit i =>
    rw [exRel_exit hex3]
    rw [if_neg (by simp)] at hr
    simp only [Option.some.injEq, Prod.mk.injEq] at hr
    obtain ⟨rfl, rfl⟩ := hr
    obtain ⟨R4, E4⟩ := R3.setLp (p' := { p3 with state := .done, pending := some (.exit i) }) (L' := { L3 with state := .done, pending := some (.exit i) }) hlp3 ⟨by simp [hlt3], rfl, rfl, hL3.tmps, hL3.params, hL3.assign, hL3.body⟩
    exact ⟨.bool false, _, endr (some (.exit i)), .bool false, g3, rfl, .bool false, R4, E13.trans E4⟩

theorem ext_sound {f : FuncId} {args : List Value} {h : Heap} {v : Value} {h' : Heap} (hr : runExt P f args h = some (v, h')) {g : Ghost} {w : World} {args' : Array Value} (hl : LR g args args'.toList) :
    ∃ y, (callFunc f args').run P w = .ok (.value y) w ∧ VRel g v y ∧ h' = h := by
  unfold runExt at hr
  split at hr
  case h_2 => simp at hr
  rename_i fn hf
  split at hr
  case isFalse => simp at hr
  rename_i hc
  simp only [Bool.and_eq_true] at hc
  obtain ⟨⟨⟨hb, hn⟩, hfn⟩, hp⟩ := hc
  split at hr
  case h_2 => simp at hr
  rename_i e he
  cases hq : pures P (e args.toArray) with
  | none => simp [hq] at hr
  | some v' =>
    simp [hq] at hr
    obtain ⟨rfl, rfl⟩ := hr
    have h1 := LR_plain hl hp
    have h2 : args' = args.toArray := Array.toList_inj.1 (by simpa using h1)
    subst h2
    obtain ⟨hrun, hpl⟩ := pures_run (w := w) hq
    refine ⟨v', ?_, plain_refl hpl, rfl⟩
    unfold callFunc
    rw [run_bindE (run_program P w), hf]
    simp only
    have hn' : ¬ (fn.name == "runtime.NumGoroutine") = true := by
      intro e1; rw [show (fn.name == "runtime.NumGoroutine") = (fn.name == numG) from rfl] at e1; rw [e1] at hn; simp at hn
    rw [if_neg hn', if_pos hb, run_bindE (run_mark P w _)]
    cases hx : Extern.findNext fn with
    | some z => rw [hx] at hfn; simp at hfn
    | none =>
      simp only [he]
      rw [run_bindE hrun]; rfl

theorem acallN_ok {T : Table} (hT : TableOk P T) (hmix : P.follows .mixedOrders = true) : ∀ n, CallOK P B (acallN P T n) := by
  intro n
  induction n with
  | zero => intro tg args h v h' hr; simp [acallN] at hr
  | succ n ih =>
    intro tg args h v h' hr g w args' R hl
    cases tg with
    | fn f =>
      simp only [acallN] at hr
      cases hq : T f with
      | none =>
        rw [hq] at hr
        exact .inr (ext_sound hr hl)
      | some a =>
        rw [hq] at hr
        obtain ⟨fn, hf, ha, hb, hn⟩ := hT f a hq
        exact .inl ⟨callFunc_enter hf hb hn, fn_sound ih hmix hf ha hr R hl⟩
    | yield l =>
      simp only [acallN] at hr
      intro r hlp
      exact yield_sound ih hmix hr R hl hlp

/-- What the abstract machine answers, the model answers. -/
theorem acall_sound {T : Table} (hT : TableOk P T) (hmix : P.follows .mixedOrders = true) {n f : Nat} {args : List Value} {h : Heap} {v : Value} {h' : Heap} (hr : acallN P T n (.fn f) args h = some (v, h')) (htab : (T f).isSome = true)
    {g : Ghost} {w : World} {args' : Array Value} (R : Rel P B g h w) (hl : LR g args args'.toList) : Calls P f args' w (PostC P B g w v h') := by
  have := acallN_ok (B := B) hT hmix n (.fn f) args h v h' hr g w args' R hl
  simp only at this
  rcases this with ⟨_, h2⟩ | ⟨y, h1, _, _⟩
  · exact callsIn_wide.1 h2
  · exfalso
    obtain ⟨a, ha⟩ := Option.isSome_iff_exists.1 htab
    obtain ⟨fn, hf, _, hb, hn⟩ := hT f a ha
    rw [callFunc_enter hf hb hn] at h1
    simp at h1

end

end Go.Ax
