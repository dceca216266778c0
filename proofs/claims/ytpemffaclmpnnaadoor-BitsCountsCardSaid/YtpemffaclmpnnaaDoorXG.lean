/- An abstract machine for Go programs: its runs against the model's: whole functions. -/
import Derived.Test.YtpemffaclmpnnaaDoorXD
namespace Go.Ax
set_option linter.unusedVariables false
set_option linter.unusedSimpArgs false

section
variable {P : Program} {B : Nat}

def CodeOK' (P : Program) (B : Nat) (step : Step) (c : Code) : Prop := ∀ (t : List Value) (h : Heap) (e : Ex) (t' : List Value) (h' : Heap), step t h = some (e, t', h') →
  ∀ (g : Ghost) (w : World) (a : Act) (r : Option Nat) (N : Nat), RndOk g r → Rel P B g h w → LR g t a.tmps.toList → Marks g w N a.defers → N ≤ w.heap.size → c.wpIn (F0 r) 0 P (QX P B N g w e t' h') a w

theorem rnd_ext {g g' : Ghost} {w w' : World} {r : Option Nat} (h : RndOk g r) (e : Ext g w g' w') : RndOk g' r := fun q hq => by
  obtain ⟨l, hl⟩ := h q hq; exact ⟨l, e.le.lp _ _ hl⟩

theorem loop_sound' {c : Code} {body : Step} {keep : Nat} (hb : CodeOK' P B body c) : ∀ n, CodeOK' P B (loopN keep body n) (.loop c) := by
  intro n t h e t' h' hr g w a r N hrd R hl hm hN
  have key : ∀ (n : Nat) (t : List Value) (h : Heap) (g : Ghost) (a : Act) (w : World), loopN keep body n t h = some (e, t', h') → RndOk g r → Rel P B g h w → LR g t a.tmps.toList → Marks g w N a.defers → N ≤ w.heap.size →
      ∀ (b : Frame) (k : List Item) (cs : List Frame), b.roundOf = (F0 r).round → ∃ ex a' w', QX P B N g w e t' h' ex a' w' ∧ ArrivesIn (Machine.fenced P (F0 r)) P (lone (b.atR a (.code c :: .inLoop c :: k)) cs w) b k cs ex a' w' := by
    intro n
    induction n with
    | zero => intro t h g a w hr; simp [loopN] at hr
    | succ n ih =>
      intro t h g a w hr hrd R hl hm hN b k cs hro
      simp only [loopN] at hr
      split at hr
      · rename_i t1 h1 hb1
        obtain ⟨ex, a1, w1, hq, harr⟩ := hb _ _ _ _ _ hb1 g w a r N hrd R (forget_rel hl keep) hm hN b (.inLoop c :: k) cs hro trivial (F0_room _ _)
        obtain ⟨hex, g1, E1, R1, hl1, hm1⟩ := hq
        cases ex <;> simp only [exRel] at hex
        obtain ⟨ex2, a2, w2, hq2, harr2⟩ := ih t1 h1 g1 a1 w1 hr (rnd_ext hrd E1) R1 hl1 hm1 (Nat.le_trans hN E1.size) b k cs hro
        exact ⟨ex2, a2, w2, hq2.mono E1, .of_steps (StepsIn.trans harr (.one (fenced_calm (n := 0) trivial (F0_room _ _) rfl) stepR_inLoop)) harr2⟩
      · rename_i hne
        obtain ⟨ex, a1, w1, hq, harr⟩ := hb _ _ _ _ _ hr g w a r N hrd R (forget_rel hl keep) hm hN b (.inLoop c :: k) cs hro trivial (F0_room _ _)
        refine ⟨ex, a1, w1, hq, .pass (x := .inLoop c) rfl (fun _ _ => .inl ?_) harr⟩
        intro e0
        subst e0
        have := hq.1
        cases e <;> simp only [exRel] at this
        exact hne _ _ hr
  intro b k cs hro hbf hrm
  obtain ⟨ex, a', w', hq, harr⟩ := key n t h g a w hr hrd R hl hm hN b k cs hro
  exact ⟨ex, a', w', hq, .of_steps (.one (fenced_calm hbf hrm rfl) stepR_loop) harr⟩

theorem exRel_normal {ex : Exit} (h : exRel .normal ex) : ex = .normal := by cases ex <;> simp_all [exRel]
theorem exRel_ret {ex : Exit} (h : exRel .ret ex) : ex = .ret := by cases ex <;> simp_all [exRel]
theorem exRel_exit {ex : Exit} {i : Nat} (h : exRel (.exit i) ex) : ex = .exit i := by cases ex <;> simp_all [exRel]

theorem callFunc_enter {f : FuncId} {fn : Func} {args : Array Value} {w : World} (hf : P.funcs[f]? = some fn) (hb : fn.body.isSome = true) (hn : (fn.name == numG) = false) : (callFunc f args).run P w = .ok (.enter f args) w := by
  unfold callFunc
  rw [run_bindE (run_program P w), hf]
  simp only
  have : ¬ (fn.name == "runtime.NumGoroutine") = true := by
    intro e; rw [show (fn.name == "runtime.NumGoroutine") = (fn.name == numG) from rfl] at e; rw [hn] at e; simp at e
  rw [if_neg this]
  cases hbd : fn.body with
  | none => rw [hbd] at hb; simp at hb
  | some c => simp

theorem range_sound {cf : CF} (hcf : CallOK P B cf) {f : Operand} {ps : Array Nat} {as bd : Code} {all res L : Nat} {E : List (Nat × Nat)} {n : Nat} : CodeOK' P B (aexec P cf n (comp P all res (.rangeFunc f ps as bd) L E)) (.rangeFunc f ps as bd) := by
  intro t h e t' h' hr g w a r N hrd R hl hm hN
  simp only [comp, aexec] at hr
  split at hr
  case h_2 => simp at hr
  rename_i f' args hcal
  split at hr
  · simp at hr
  rename_i hbody
  split at hr
  case h_2 => simp at hr
  rename_i v h2 hcall
  split at hr
  case h_2 => simp at hr
  rename_i lp hlp
  split at hr
  · simp at hr
  rename_i hbusy
  simp only [Option.some.injEq, Prod.mk.injEq] at hr
  obtain ⟨he, rfl, hh'⟩ := hr
  refine wpIn_rangeFunc fun fid _ => ?_
  -- the records are laid
  have laid : ∃ (l : Nat) (mk : List Deferred) (w1 : World) (Lo : Loop) (g1 : Ghost), (Instr.enterLoop fid a.tmps ps as bd (F0 r).round).run P w = .ok (l, mk) w1 ∧ Lo.state = .ready ∧
      Rel P B g1 { h with lps := h.lps ++ [{ state := .ready, pending := none, tmps := t, params := ps.toList, assign := comp P all res as all [], body := comp P all res bd 0 [] }] } w1 ∧ Ext g w g1 w1 ∧ g1.lp h.lps.length = some l ∧ Marks g1 w1 N (mk ++ a.defers) := by
    cases r with
    | none =>
      let w0 := w.alloc (.deferred (some []))
      let Lo : Loop := { state := .ready, pending := none, fn := fid, tmps := a.tmps, params := ps, assign := as, body := bd, defers := w.heap.size }
      let w1 := w0.alloc (.loop Lo)
      obtain ⟨R0, E0⟩ := R.push (.deferred (some []))
      obtain ⟨R1, E1⟩ := R0.push (.loop Lo)
      have hw1 : w1.heap[w0.heap.size]? = some (.loop Lo) := alloc_at _ _
      have hn1 : ¬ InR g w0.heap.size := fun hi => by have h9 : w0.heap.size < w0.heap.size := hi.lt R0; omega
      obtain ⟨g1, R2, G, hin, hlp1⟩ := R1.newLp (p := { state := .ready, pending := none, tmps := t, params := ps.toList, assign := comp P all res as all [], body := comp P all res bd 0 [] }) hw1 hn1 R0.base (by show w0.heap.size < w1.heap.size; simp [w1]) rfl rfl hl rfl ⟨_, _, _, _, rfl⟩ ⟨_, _, _, _, rfl⟩
      have hE : Ext g w g1 w1 := by
        have := E0.trans E1
        refine ⟨G, fun q hq => ?_, this.size, this.same, this.os, this.tape, this.output⟩
        rcases hin q hq with h1 | h1
        · exact .inl h1
        · right; rw [h1]; simp [w0]
      refine ⟨w0.heap.size, [mark w.heap.size], w1, Lo, g1, ?_, rfl, R2, hE, hlp1, ?_⟩
      · unfold Instr.enterLoop
        simp only [F0]
        rw [run_bindE (run_newObj P w _), run_bindE (a := (w.heap.size, [mark w.heap.size])) (w' := w0) rfl]
        simp only
        rw [run_bindE (run_newObj P w0 _)]
        rfl
      · have hm1 := hm.ext hE
        obtain ⟨Ds, d1, d2, d3⟩ := hm1
        refine ⟨w.heap.size :: Ds, ?_, by simp [d2], ?_⟩
        · rw [List.nodup_cons]
          refine ⟨fun hmem => ?_, d1⟩
          obtain ⟨Ds0, e1, e2, e3⟩ := hm
          have hD : w.heap.size ∈ Ds0 := by
            have : Ds.map mark = Ds0.map mark := by rw [← d2, ← e2]
            have hinj : Ds = Ds0 := by
              have := congrArg (List.map fun d : Deferred => match d.target with | .collected D => D | _ => 0) this
              simpa [mark, Function.comp_def] using this
            rw [← hinj]; exact hmem
          have := (e3 _ hD).2.1
          omega
        · intro D hD
          rcases List.mem_cons.1 hD with rfl | hD
          · refine ⟨hN, by simp [w1, w0]; omega, ?_, fun hi => ?_⟩
            · show (w0.alloc _).heap[_]? = _
              rw [Go.RowKit.Below.heap_alloc _ _ _ (by simp [w0])]
              exact alloc_at _ _
            · rcases hin _ hi with h1 | h1
              · have := h1.lt R; omega
              · simp [w0] at h1
          · exact d3 D hD
    | some q =>
      obtain ⟨l0, hl0⟩ := hrd q rfl
      obtain ⟨_, _, _, L0, hL0⟩ := R.lpdom _ _ hl0
      let Lo : Loop := { state := .ready, pending := none, fn := fid, tmps := a.tmps, params := ps, assign := as, body := bd, defers := L0.defers }
      let w1 := w.alloc (.loop Lo)
      obtain ⟨R1, E1⟩ := R.push (.loop Lo)
      have hw1 : w1.heap[w.heap.size]? = some (.loop Lo) := alloc_at _ _
      have hn1 : ¬ InR g w.heap.size := fun hi => by have := hi.lt R; omega
      obtain ⟨g1, R2, G, hin, hlp1⟩ := R1.newLp (p := { state := .ready, pending := none, tmps := t, params := ps.toList, assign := comp P all res as all [], body := comp P all res bd 0 [] }) hw1 hn1 R.base (by show w.heap.size < w1.heap.size; simp [w1]) rfl rfl hl rfl ⟨_, _, _, _, rfl⟩ ⟨_, _, _, _, rfl⟩
      have hE : Ext g w g1 w1 := by
        refine ⟨G, fun q hq => ?_, E1.size, E1.same, E1.os, E1.tape, E1.output⟩
        rcases hin q hq with h1 | h1
        · exact .inl h1
        · right; omega
      refine ⟨w.heap.size, [], w1, Lo, g1, ?_, rfl, R2, hE, hlp1, hm.ext hE⟩
      unfold Instr.enterLoop
      simp only [F0]
      rw [run_bindE (run_getLoop hL0), run_bindE (a := (L0.defers, [])) (w' := w) rfl]
      simp only
      rw [run_bindE (run_newObj P w _)]
      rfl
  obtain ⟨l, mk, w1, Lo, g1, hent, hst, R1, E1, hlp1, hm1⟩ := laid
  -- the function that is ranged over
  have hf := eval_rel hl f
  unfold acallee at hcal
  split at hcal
  case h_2 =>
    split at hcal
    · simp at hcal
    · simp at hcal
  case h_3 => simp at hcal
  rename_i id first captured hev
  simp only [Option.some.injEq, ARes.call.injEq, Tgt.fn.injEq] at hcal
  obtain ⟨rfl, rfl⟩ := hcal
  rw [hev] at hf
  generalize hy : a.eval f = y at hf
  cases hf with
  | @func fn _ b _ e hfn s1 s2 ha hc =>
    let args' : Array Value := b ++ #[.func (.yield l) #[] #[]] ++ e
    have hargs : LR g1 (first.toList ++ [.func (.yield h.lps.length) #[] #[]] ++ captured.toList) args'.toList := by
      have l1 : LR g first.toList b.toList := ⟨by simpa using s1, fun i x y hx hy => ha i x y (by simpa using hx) (by simpa using hy)⟩
      have l2 : LR g captured.toList e.toList := ⟨by simpa using s2, fun i x y hx hy => hc i x y (by simpa using hx) (by simpa using hy)⟩
      have := ((l1.mono E1.le).append (LR.cons (VRel.yield hlp1) (LR.nil g1))).append (l2.mono E1.le)
      simpa [args'] using this
    have hcb : ∃ fn, P.funcs[id]? = some fn ∧ fn.body.isSome = true := by
      cases hq : P.funcs[id]? with
      | none => simp [hq] at hbody
      | some fn => simp [hq] at hbody; exact ⟨fn, rfl, by cases hh : fn.body <;> simp_all⟩
    have hcalls : (callFunc id args').run P w1 = .ok (.enter id args') w1 ∧ CallsIn Fence.wide 0 P id args' w1 (PostC P B g1 w1 v h2) := by
      have := hcf (.fn id) _ _ v h2 hcall g1 w1 args' R1 hargs
      simp only at this
      rcases this with h1 | ⟨y', h1, _, _⟩
      · exact h1
      · exfalso
        obtain ⟨fn, hfn', hfb⟩ := hcb
        unfold callFunc at h1
        rw [run_bindE (run_program P w1), hfn'] at h1
        simp only at h1
        cases hbd : fn.body with
        | none => rw [hbd] at hfb; simp at hfb
        | some c => rw [hbd] at h1; split at h1 <;> simp at h1
    refine ⟨l, mk, w1, { target := .fn (.func id) e, args := b ++ #[.func (.yield l) #[] #[]] }, w1, id, args', w1, hent, ?_, fun _ _ => trivial, ?_, fun hd => by simp [F0, Fence.wide] at hd, ?_⟩
    · unfold resolve
      simp only [hy]
      simp [Deferred.ofValue, Act.eval]
    · show (callFunc id args').run P w1 = _
      exact hcalls.1
    · refine ⟨trivial, fun cs hroom => ?_⟩
      obtain ⟨en, w3, fr, hR, hrest⟩ := hcalls.2.2 cs (room_wide _)
      refine ⟨en, w3, fr, ?_, hrest⟩
      obtain ⟨y3, g3, rfl, hy3, R3, E3⟩ := hR
      have hlp3 := E3.le.lp _ _ hlp1
      obtain ⟨r3, L3, hq3, hL3⟩ := R3.lps _ _ hlp
      rw [hlp3] at hq3; simp only [Option.some.injEq] at hq3; subst hq3
      have hnb : (L3.state == .busy) = false := by
        have h1 := hL3.state
        cases hs : lp.state <;> rw [hs] at h1 hbusy <;> simp only [stateRel] at h1
        · rw [h1]; rfl
        · exact (hbusy rfl).elim
        · rw [h1]; rfl
        · rw [h1]; rfl
      let L4 : Loop := { L3 with state := .exhausted }
      let w4 : World := { w3 with heap := w3.heap.setIfInBounds l (.loop L4) }
      have hlt3 := (R3.lpdom _ _ hlp3).2.2.1
      obtain ⟨R4, E4⟩ := R3.setLp (p' := { lp with state := .exhausted }) (L' := L4) hlp3 ⟨by simp [hlt3], rfl, hL3.pend, hL3.tmps, hL3.params, hL3.assign, hL3.body⟩
      have hend : (Instr.endLoop l).run P w3 = .ok L3.pending w4 := by
        unfold Instr.endLoop
        rw [run_bindE (run_getLoop hL3.at_)]
        simp only [hnb, Bool.false_eq_true, if_false]
        rw [run_bindE (run_setLoop hL3.at_)]
        rfl
      refine ⟨L3.pending, w4, hend, ?_⟩
      have E5 : Ext g w g3 w4 := (E1.trans E3).trans E4
      have hm4 : Marks g3 w4 N (mk ++ a.defers) := (hm1.ext E3).ext E4
      have hl4 : LR g3 t a.tmps.toList := hl.mono E5.le
      have hpend := hL3.pend
      subst hh'
      obtain ⟨pd, hpd⟩ : ∃ pd, lp.pending = pd := ⟨_, rfl⟩
      cases pd with
      | none =>
        rw [hpd] at hpend he
        simp only [pendRel] at hpend
        rw [hpend]
        subst he
        exact ⟨trivial, g3, E5, R4, hl4, hm4⟩
      | some x =>
        rw [hpd] at hpend he
        cases x with
        | normal => exact hpend.elim
        | exit i =>
          simp only [pendRel] at hpend
          rw [hpend]
          subst he
          exact wpIn_exit ⟨rfl, g3, E5, R4, hl4, hm4⟩
        | ret =>
          simp only [pendRel] at hpend
          rw [hpend]
          subst he
          exact wpIn_ret ⟨trivial, g3, E5, R4, hl4, hm4⟩

theorem exec_sound {cf : CF} (hcf : CallOK P B cf) (hmix : P.follows .mixedOrders = true) (n : Nat) (all res : Nat) : ∀ (c : Code) (L : Nat) (E : List (Nat × Nat)), CodeOK' P B (aexec P cf n (comp P all res c L E)) c := by
  intro c
  induction c with
  | skip =>
    intro L E t h e t' h' hr g w a r N hrd R hl hm hN
    simp only [comp, aexec, Option.some.injEq, Prod.mk.injEq] at hr
    obtain ⟨rfl, rfl, rfl⟩ := hr
    exact wpIn_skip ⟨trivial, g, Ext.refl g w, R, hl, hm⟩
  | label l =>
    intro L E t h e t' h' hr g w a r N hrd R hl hm hN
    simp only [comp, aexec, Option.some.injEq, Prod.mk.injEq] at hr
    obtain ⟨rfl, rfl, rfl⟩ := hr
    exact wpIn_label ⟨trivial, g, Ext.refl g w, R, hl, hm⟩
  | region id ops draw =>
    intro L E t h e t' h' hr g w a r N hrd R hl hm hN
    cases draw with
    | false =>
      simp only [comp, Bool.false_eq_true, if_false, aexec] at hr
      cases hq : runOps P cf (compOps P ops) t h with
      | none => simp [hq] at hr
      | some p =>
        obtain ⟨t1, h1⟩ := p
        simp [hq] at hr
        obtain ⟨rfl, rfl, rfl⟩ := hr
        refine wpIn_region ?_
        have := ops_sound hcf (ops := ops) (r := r) (N := N) (g0 := g) (w0 := w) ops.size 0 t h g a w (by omega) (by simpa using hq) R hl hm (Ext.refl g w)
        simpa using this
    | true => exact draw_sound hcf hmix hr hrd R hl hm hN
  | seq x y ihx ihy =>
    intro L E t h e t' h' hr g w a r N hrd R hl hm hN
    simp only [comp, aexec] at hr
    refine wpIn_seq ?_
    split at hr
    · rename_i t1 h1 hx
      refine wpIn_mono (ihx _ _ _ _ _ _ _ hx g w a r N hrd R hl hm hN) ?_
      intro ex a1 w1 hq
      obtain ⟨hex, g1, E1, R1, hl1, hm1⟩ := hq
      rw [exRel_normal hex]
      exact wpIn_mono (ihy _ _ _ _ _ _ _ hr g1 w1 a1 r N (rnd_ext hrd E1) R1 hl1 hm1 (Nat.le_trans hN E1.size)) fun ex a w hq => hq.mono E1
    · rename_i hne
      refine wpIn_mono (ihx _ _ _ _ _ _ _ hr g w a r N hrd R hl hm hN) ?_
      intro ex a1 w1 hq
      have hex := hq.1
      cases ex with
      | normal => cases e <;> simp only [exRel] at hex; exact (hne _ _ hr).elim
      | _ => exact hq
  | cond c x y ihx ihy =>
    intro L E t h e t' h' hr g w a r N hrd R hl hm hN
    simp only [comp, aexec] at hr
    have hc := eval_rel hl c
    split at hr
    · rename_i hb
      rw [hb] at hc
      exact wpIn_cond_true (rel_bool hc) (ihx _ _ _ _ _ _ _ hr g w a r N hrd R hl hm hN)
    · rename_i hb
      rw [hb] at hc
      exact wpIn_cond_false (rel_bool hc) (ihy _ _ _ _ _ _ _ hr g w a r N hrd R hl hm hN)
    · simp at hr
  | block id b ih =>
    intro L E t h e t' h' hr g w a r N hrd R hl hm hN
    simp only [comp, aexec] at hr
    refine wpIn_block ?_
    split at hr
    · rename_i i t1 h1 hb
      refine wpIn_mono (ih _ _ _ _ _ _ _ hb g w a r N hrd R hl hm hN) ?_
      intro ex a1 w1 hq
      obtain ⟨hex, hrest⟩ := hq
      rw [exRel_exit hex]
      simp only [Exit.inBlock]
      split at hr
      · rename_i hi
        simp only [Option.some.injEq, Prod.mk.injEq] at hr
        obtain ⟨rfl, rfl, rfl⟩ := hr
        rw [if_pos hi]
        exact ⟨trivial, hrest⟩
      · rename_i hi
        simp only [Option.some.injEq, Prod.mk.injEq] at hr
        obtain ⟨rfl, rfl, rfl⟩ := hr
        rw [if_neg hi]
        exact ⟨rfl, hrest⟩
    · rename_i hne
      refine wpIn_mono (ih _ _ _ _ _ _ _ hr g w a r N hrd R hl hm hN) ?_
      intro ex a1 w1 hq
      have hex := hq.1
      cases ex with
      | exit i => cases e <;> simp only [exRel] at hex; exact (hne _ _ _ hr).elim
      | _ => exact hq
  | loop b ih =>
    intro L E
    exact loop_sound' (ih _ _) n
  | rangeFunc f ps as bd _ _ =>
    intro L E
    exact range_sound hcf
  | exit id =>
    intro L E t h e t' h' hr g w a r N hrd R hl hm hN
    simp only [comp, aexec, Option.some.injEq, Prod.mk.injEq] at hr
    obtain ⟨rfl, rfl, rfl⟩ := hr
    exact wpIn_exit ⟨rfl, g, Ext.refl g w, R, hl, hm⟩
  | ret =>
    intro L E t h e t' h' hr g w a r N hrd R hl hm hN
    simp only [comp, aexec, Option.some.injEq, Prod.mk.injEq] at hr
    obtain ⟨rfl, rfl, rfl⟩ := hr
    exact wpIn_ret ⟨trivial, g, Ext.refl g w, R, hl, hm⟩
  | scope b _ =>
    intro L E t h e t' h' hr
    simp [comp, aexec] at hr
  | goto l =>
    intro L E t h e t' h' hr
    simp [comp, aexec] at hr
  | refuse why =>
    intro L E t h e t' h' hr
    simp [comp, aexec] at hr

end

end Go.Ax
