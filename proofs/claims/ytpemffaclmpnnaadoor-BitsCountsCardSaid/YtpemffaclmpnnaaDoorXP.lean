/- An abstract machine for Go programs: its operations against the model's (numbers, comparisons, conversions, addresses). -/
import Derived.Test.YtpemffaclmpnnaaDoorXO
namespace Go.Ax
set_option linter.unusedVariables false
set_option linter.unusedSimpArgs false

section
variable {P : Program} {B : Nat} {g : Ghost} {h : Heap} {w : World} {ρ ρ' : Operand → Value}

theorem abin_run {op : BinOp} {t : TypeId} {k k' : IntKind} {a b : Int} {v : Value} (hk : op = .shl ∨ op = .shr ∨ k = k') (he : abin op k a b = some v) (xo yo : Operand) :
    (do eqGuard op t xo yo (.int k a) (.int k' b); binOp op t (.int k a) (.int k' b) : Sem Value).run P w = .ok v w := by
  have hg : ∀ op, (eqGuard op t xo yo (.int k a) (.int k' b)).run P w = .ok () w := by
    intro op; cases op <;> simp [eqGuard]
  rw [run_bindE (hg op)]
  cases op <;> simp_all [abin, binOp, Op.intArith, Op.intBits, Op.intCmp, Op.intDiv, Op.shift] <;> (try (subst he)) <;> (try rfl)
  all_goals (try (obtain ⟨h1, h2⟩ := he; first | (subst h2; simp [h1]; done) | (intro h3; omega)))

theorem hload_dyn (R : Rel P B g h w) {a r : Addr} (ha : ARel g a r) {v : Nat} (hs : a.spot = some v) (hl : (hload h a).isSome = true) (hp : plainBlk h a.block = true) :
    ∃ c e, w.heap[r.block]? = some (.cells c e (0, 0)) := by
  obtain ⟨x, hx⟩ := Option.isSome_iff_exists.1 hl
  unfold hload at hx
  rw [hs] at hx
  have h1 := ha.2
  rw [hs] at h1
  simp only at hx h1
  unfold plainBlk at hp
  cases hk : h.dyn[a.block]? with
  | none => simp [hk] at hx
  | some k =>
    simp only [hk] at hx hp
    split at hx
    case isFalse => simp at hx
    rename_i hc
    obtain ⟨s, hsz, hlt⟩ := getD_lt hc.2
    obtain ⟨r', c, e, f, hm, hh, hf, _⟩ := (R.blk _ _ hk).at_ v s hc.1 hsz
    have : r' = r.block := by rw [h1.1] at hm; exact (Option.some.inj hm).symm
    subst this
    have := hf.2 (by simpa using hp)
    subst this
    exact ⟨c, e, hh⟩

theorem run_notStringish {r : Addr} {c : Array Value} {e : TypeId} (hh : w.heap[r.block]? = some (.cells c e (0, 0))) : (stringish r).run P w = .ok false w := by
  simp [stringish, World.frozen?, hh, World.shape?]

theorem run_noView {r : Addr} {c : Array Value} {e : TypeId} {f : Nat × Nat} (hh : w.heap[r.block]? = some (.cells c e f)) : (noView r).run P w = .ok () w := by
  simp [noView, viewAt, World.shape?, hh]

theorem sameA_run (R : Rel P B g h w) {a b r s : Addr} (ha : ARel g a r) (hb : ARel g b s) {z : Bool} (he : sameA h a b = some z) : (sameAddr r s).run P w = .ok z w := by
  unfold sameA at he
  split at he
  · rename_i v u hv hu
    have h1 := ha.2
    have h2 := hb.2
    rw [hv] at h1; rw [hu] at h2
    simp only at h1 h2
    split at he
    · rename_i hbl
      split at he
      · rename_i hvu
        simp only [Option.some.injEq] at he; subst he
        subst hvu
        have hbr : r.block = s.block := by rw [hbl] at h1; rw [h1.1] at h2; exact Option.some.inj h2.1
        have e1 := ha.1; have e2 := hb.1
        have : (r == s) = (a.off == b.off) := by
          rw [← h1.2, ← h2.2, Bool.eq_iff_iff]
          cases r; cases s; simp_all
        simp [sameAddr, hbr, this]
      · simp at he
    · rename_i hbl
      split at he
      · rename_i hc
        simp only [Option.some.injEq] at he; subst he
        simp only [Bool.and_eq_true] at hc
        obtain ⟨c1, e1, hh1⟩ := hload_dyn R ha hv hc.1.1.1 hc.1.2
        obtain ⟨c2, e2, hh2⟩ := hload_dyn R hb hu hc.1.1.2 hc.2
        have hne : (r.block == s.block) = false := by
          rw [beq_eq_false_iff_ne]
          intro e; rw [e] at h1
          exact hbl (R.inj _ _ _ _ _ h1.1 h2.1)
        have f1 : w.frozen? r = false := by simp [World.frozen?, hh1]
        unfold sameAddr
        simp only [hne, Bool.false_eq_true, if_false]
        simp only [Sem.run_bind, run_frozen, f1, Result.andThen_ok]
        simp only [Bool.false_and, Sem.run_bind, run_frozen, Result.andThen_ok, Bool.false_eq_true, if_false, run_noView hh1, run_noView hh2, mayBeOne, run_notStringish hh1, run_notStringish hh2]
        simp
      · simp at he
  · simp at he

/-! comparisons -/

theorem eqk_bool {t : TypeId} {x y : Operand} (h : eqk P t x y = .bool) : P.underlying t = some .bool := by
  unfold eqk at h; split at h <;> simp_all
theorem eqk_ptr {t : TypeId} {x y : Operand} {n : Nat} (h : eqk P t x y = .ptr n) : ∃ e, P.underlying t = some (.pointer e) ∧ (asize P e).getD 0 = n := by
  unfold eqk at h; split at h <;> simp_all
theorem eqk_slice {t : TypeId} {x y : Operand} (h : eqk P t x y = .slice) : ∃ e, P.underlying t = some (.slice e) := by
  unfold eqk at h; split at h <;> simp_all
theorem eqk_func {t : TypeId} {x y : Operand} (h : eqk P t x y = .func) : ∃ a b c, P.underlying t = some (.func a b c) := by
  unfold eqk at h; split at h <;> simp_all
theorem eqk_iface {t : TypeId} {x y : Operand} {l : Bool} (h : eqk P t x y = .iface l) : ∃ ms, P.underlying t = some (.interface ms) ∧ l = (isC x || isC y || ms.isEmpty) := by
  unfold eqk at h; split at h <;> simp_all

def isEq (op : BinOp) : Bool := op == .eql || op == .neq

theorem guard_free {op : BinOp} {t : TypeId} {xo yo : Operand} {x y : Value} (h1 : x ≠ .nilIface ∨ y ≠ .nilIface) (h2 : ∀ a, x ≠ .agg a) : (eqGuard op t xo yo x y).run P w = .ok () w := by
  unfold eqGuard
  cases op <;> simp
  all_goals
    cases x <;> (try simp)
    all_goals (try (cases y <;> simp_all))

theorem equal_run (R : Rel P B g h w) {t : TypeId} {xo yo : Operand} {x y x' y' : Value} (hx : VRel g x x') (hy : VRel g y y') {b : Bool} (he : aeq h (eqk P t xo yo) x y = some b) :
    (Op.equal t x' y').run P w = .ok b w := by
  unfold Op.equal Op.maxDepth
  unfold Op.equalIn
  unfold aeq at he
  split at he
  all_goals try (simp at he; done)
  · rename_i a c hq
    rw [rel_bool hx, rel_bool hy, run_bindE (run_und (eqk_bool hq))]
    simpa using he
  · rename_i hq
    obtain ⟨e, hu, _⟩ := eqk_ptr hq
    cases hx; cases hy
    rw [run_bindE (run_und hu)]; simpa using he
  · rename_i hq
    obtain ⟨e, hu, _⟩ := eqk_ptr hq
    obtain ⟨r, rfl, _⟩ := rel_ptr hx
    cases hy
    rw [run_bindE (run_und hu)]; simpa using he
  · rename_i hq
    obtain ⟨e, hu, _⟩ := eqk_ptr hq
    obtain ⟨r, rfl, _⟩ := rel_ptr hy
    cases hx
    rw [run_bindE (run_und hu)]; simpa using he
  · rename_i es a c hq
    obtain ⟨e, hu, hn⟩ := eqk_ptr hq
    obtain ⟨r, rfl, hr⟩ := rel_ptr hx
    obtain ⟨s, rfl, hs⟩ := rel_ptr hy
    rw [run_bindE (run_und hu)]
    split at he
    · simp at he
    · rename_i h0
      cases hsz : asize P e with
      | none => simp [hsz] at hn; exact (h0 hn.symm).elim
      | some n =>
        simp [hsz] at hn; subst hn
        simp only
        rw [run_bindE (run_size hsz)]
        simp only [ne_eq, h0, not_false_eq_true, if_true]
        exact sameA_run R hr hs he
  · rename_i hq
    obtain ⟨e, hu⟩ := eqk_slice hq
    cases hx; cases hy
    rw [run_bindE (run_und hu)]; simpa using he
  · rename_i hq
    obtain ⟨e, hu⟩ := eqk_slice hq
    cases hy
    rw [run_bindE (run_und hu)]
    cases hx <;> simpa using he
  · rename_i hq
    obtain ⟨e, hu⟩ := eqk_slice hq
    cases hx
    rw [run_bindE (run_und hu)]
    cases hy <;> simpa using he
  · rename_i hq
    obtain ⟨a, b', c, hu⟩ := eqk_func hq
    cases hx; cases hy
    rw [run_bindE (run_und hu)]; simpa using he
  · rename_i hq
    obtain ⟨a, b', c, hu⟩ := eqk_func hq
    cases hx
    rw [run_bindE (run_und hu)]
    cases hy <;> simpa using he
  · rename_i hq
    obtain ⟨a, b', c, hu⟩ := eqk_func hq
    cases hy
    rw [run_bindE (run_und hu)]
    cases hx <;> simpa using he
  · rename_i l hq
    obtain ⟨ms, hu, _⟩ := eqk_iface hq
    cases hx; cases hy
    rw [run_bindE (run_und hu)]
    split at he <;> simp_all
  · rename_i l t' v' hq
    obtain ⟨ms, hu, _⟩ := eqk_iface hq
    cases hx
    obtain ⟨u, rfl, _⟩ := rel_iface hy
    rw [run_bindE (run_und hu)]; simpa using he
  · rename_i l t' v' hq
    obtain ⟨ms, hu, _⟩ := eqk_iface hq
    cases hy
    obtain ⟨u, rfl, _⟩ := rel_iface hx
    rw [run_bindE (run_und hu)]; simpa using he
  · rename_i l s v' u v'' hq
    obtain ⟨ms, hu, _⟩ := eqk_iface hq
    obtain ⟨x1, rfl, _⟩ := rel_iface hx
    obtain ⟨y1, rfl, _⟩ := rel_iface hy
    rw [run_bindE (run_und hu)]
    split at he
    · simp at he
    · rename_i hne; simpa [hne] using he

theorem guard_eq {op : BinOp} {t : TypeId} {xo yo : Operand} {x y x' y' : Value} (hx : VRel g x x') (hy : VRel g y y') {b : Bool} (he : aeq h (eqk P t xo yo) x y = some b) :
    (eqGuard op t xo yo x' y').run P w = .ok () w := by
  by_cases hb : x = .nilIface ∧ y = .nilIface
  · obtain ⟨rfl, rfl⟩ := hb
    cases hx; cases hy
    unfold aeq at he
    split at he <;> try (simp at he; done)
    all_goals try (simp_all; done)
    rename_i l hq _ _
    obtain ⟨ms, hu, hl⟩ := eqk_iface hq
    split at he
    · rename_i hlt
      subst hl
      unfold eqGuard
      cases op <;> simp
      all_goals
        have hxy : ∀ z : Operand, (match z with | .const _ => true | _ => false) = isC z := fun z => by cases z <;> rfl
        rcases Bool.or_eq_true _ _ ▸ hlt with h1 | h1
        · rcases Bool.or_eq_true _ _ ▸ h1 with h2 | h2
          · cases xo <;> simp_all [isC]
          · cases yo <;> simp_all [isC]
        · have hg : (Op.eqGuardIn Op.maxDepth t .nilIface .nilIface).run P w = .ok false w := by
            unfold Op.maxDepth Op.eqGuardIn
            rw [run_bindE (run_und hu)]
            simp [h1]
          clear he hlt
          cases xo <;> cases yo <;> simp [hg]
    · simp at he
  · apply guard_free
    · cases hx <;> cases hy <;> simp_all [undef, skipV] <;> (unfold aeq at he; split at he <;> simp_all [undef])
    · intro a e
      subst e
      cases hx <;> (unfold aeq at he; split at he <;> simp_all [undef])

theorem binop_eq {t : TypeId} {q : EqK} {x y x' y' : Value} (hx : VRel g x x') (hy : VRel g y y') {b : Bool} (he : aeq h q x y = some b) :
    binOp .eql t x' y' = (do pure (.bool (← Op.equal t x' y'))) ∧ binOp .neq t x' y' = (do pure (.bool (!(← Op.equal t x' y')))) := by
  unfold aeq at he
  split at he
  all_goals try (simp at he; done)
  all_goals (cases hx <;> cases hy <;> exact ⟨rfl, rfl⟩)

theorem os_bin (R : Rel P B g h w) {op : BinOp} {t yt : TypeId} {x y : Operand} (hx : VRel g (ρ x) (ρ' x)) (hy : VRel g (ρ y) (ρ' y)) {res : ARes} (he : aop P h ρ (compOp P (.binOp op t x y yt)) = some res) :
    OpS P B g w (do pure (.value (← (do eqGuard op t x y (ρ' x) (ρ' y); binOp op t (ρ' x) (ρ' y))))) res := by
  simp only [compOp, aop] at he
  obtain ⟨v, hv, rfl⟩ := toVal_some he
  have gen : ∀ op', op' = op → abinP P op' t x y (ρ x) (ρ y) = some v → OpS P B g w (do pure (.value (← (do eqGuard op t x y (ρ' x) (ρ' y); binOp op t (ρ' x) (ρ' y))))) (.val v h) := by
    intro op' e hv2
    subst e
    unfold abinP at hv2
    split at hv2
    · rename_i hp
      rw [Bool.and_eq_true] at hp
      rw [plain_eq hp.1 hx, plain_eq hp.2 hy]
      obtain ⟨hr, hpl⟩ := pures_run (w := w) hv2
      exact OpS.sameV R hr (plain_refl hpl)
    · simp at hv2
  unfold abinop at hv
  split at hv
  · rename_i k a k' b e1 e2
    rw [e1] at hx; rw [e2] at hy
    rw [rel_int hx, rel_int hy]
    split at hv
    · rename_i hk
      refine OpS.sameV R (abin_run hk hv _ _) ?_
      cases op <;> simp [abin] at hv <;> first | (subst hv; constructor; done) | (obtain ⟨_, rfl⟩ := hv; constructor)
    · simp at hv
  · split at hv
    · split at hv
      · rename_i b hb
        simp only [Option.some.injEq] at hv; subst hv
        refine OpS.sameV R (y := .bool b) ?_ (.bool b)
        rw [run_bindE (guard_eq hx hy hb), (binop_eq hx hy hb).1, run_bindE (equal_run R hx hy hb)]
        rfl
      · exact gen _ rfl hv
    · split at hv
      · rename_i b hb
        simp only [Option.some.injEq] at hv; subst hv
        refine OpS.sameV R (y := .bool (!b)) ?_ (.bool _)
        rw [run_bindE (guard_eq hx hy hb), (binop_eq hx hy hb).2, run_bindE (equal_run R hx hy hb)]
        rfl
      · exact gen _ rfl hv
    · exact gen _ rfl hv

end

end Go.Ax
