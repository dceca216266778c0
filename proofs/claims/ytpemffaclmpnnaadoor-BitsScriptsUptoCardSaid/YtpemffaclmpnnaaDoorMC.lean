/- An abstract machine for Go programs: its operations against the model's (numbers, comparisons, conversions, addresses). -/
import Derived.Test.YtpemffaclmpnnaaDoorMB
namespace Go.Ax
set_option linter.unusedVariables false
set_option linter.unusedSimpArgs false

section
variable {P : Program} {B : Nat} {g : Ghost} {h : Heap} {w : World} {ρ ρ' : Operand → Value}

theorem abin_run {op : BinOp} {t : TypeId} {k k' : IntKind} {a b : Int} {v : Value} (hk : op = .shl ∨ op = .shr ∨ k = k') (he : abin op k a b = some v) (xo yo : Operand) :
    (do eqGuard op t xo yo (.int k a) (.int k' b); binOp op t (.int k a) (.int k' b) : Sem Value).run P w = .ok v w := by
  have hg : ∀ op, (eqGuard op t xo yo (.int k a) (.int k' b)).run P w = .ok () w := by
    intro op; cases op <;> simp [eqGuard]
  rw [run_bindE (hg op)]
  cases op <;> simp_all [abin, binOp, Op.intArith, Op.intBits, Op.intCmp, Op.intDiv, Op.shift] <;> (try (subst he)) <;> (try rfl)
  all_goals (try (obtain ⟨h1, h2⟩ := he; first | (subst h2; simp [h1]; done) | (intro h3; omega)))

theorem hload_dyn (R : Rel P B g h w) {a r : Addr} (ha : ARel g a r) {v : Nat} (hs : a.spot = some v) (hl : (hload h a).isSome = true) (hp : plainBlk h a.block = true) :
    ∃ c e, w.heap[r.block]? = some (.cells c e (0, 0)) := by
  obtain ⟨x, hx⟩ := Option.isSome_iff_exists.1 hl
  unfold hload at hx
  rw [hs] at hx
  have h1 := ha.2
  rw [hs] at h1
  simp only at hx h1
  unfold plainBlk at hp
  cases hk : h.dyn[a.block]? with
  | none => simp [hk] at hx
  | some k =>
    simp only [hk] at hx hp
    split at hx
    case isFalse => simp at hx
    rename_i hc
    obtain ⟨s, hsz, hlt⟩ := getD_lt hc.2
    obtain ⟨r', c, e, f, hm, hh, hf, _⟩ := (R.blk _ _ hk).at_ v s hc.1 hsz
    have : r' = r.block := by rw [h1.1] at hm; exact (Option.some.inj hm).symm
    subst this
    have := hf.2 (by simpa using hp)
    subst this
    exact ⟨c, e, hh⟩

theorem run_notStringish {r : Addr} {c : Array Value} {e : TypeId} (hh : w.heap[r.block]? = some (.cells c e (0, 0))) : (stringish r).run P w = .ok false w := by
  simp [stringish, World.frozen?, hh, World.shape?]

theorem run_noView {r : Addr} {c : Array Value} {e : TypeId} {f : Nat × Nat} (hh : w.heap[r.block]? = some (.cells c e f)) : (noView r).run P w = .ok () w := by
  simp [noView, viewAt, World.shape?, hh]

theorem sameA_run (R : Rel P B g h w) {a b r s : Addr} (ha : ARel g a r) (hb : ARel g b s) {z : Bool} (he : sameA h a b = some z) : (sameAddr r s).run P w = .ok z w := by
  unfold sameA at he
  split at he
  · rename_i v u hv hu
    have h1 := ha.2
    have h2 := hb.2
    rw [hv] at h1; rw [hu] at h2
    simp only at h1 h2
    split at he
    · rename_i hbl
      split at he
      · rename_i hvu
        simp only [Option.some.injEq] at he; subst he
        subst hvu
        have hbr : r.block = s.block := by rw [hbl] at h1; rw [h1.1] at h2; exact Option.some.inj h2.1
        have e1 := ha.1; have e2 := hb.1
        have : (r == s) = (a.off == b.off) := by
          rw [← h1.2, ← h2.2, Bool.eq_iff_iff]
          cases r; cases s; simp_all
        simp [sameAddr, hbr, this]
      · simp at he
    · rename_i hbl
      split at he
      · rename_i hc
        simp only [Option.some.injEq] at he; subst he
        simp only [Bool.and_eq_true] at hc
        obtain ⟨c1, e1, hh1⟩ := hload_dyn R ha hv hc.1.1.1 hc.1.2
        obtain ⟨c2, e2, hh2⟩ := hload_dyn R hb hu hc.1.1.2 hc.2
        have hne : (r.block == s.block) = false := by
          rw [beq_eq_false_iff_ne]
          intro e; rw [e] at h1
          exact hbl (R.inj _ _ _ _ _ h1.1 h2.1)
        have f1 : w.frozen? r = false := by simp [World.frozen?, hh1]
        unfold sameAddr
        simp only [hne, Bool.false_eq_true, if_false]
        simp only [Sem.run_bind, run_frozen, f1, Result.andThen_ok]
        simp only [Bool.false_and, Sem.run_bind, run_frozen, Result.andThen_ok, Bool.false_eq_true, if_false, run_noView hh1, run_noView hh2, mayBeOne, run_notStringish hh1, run_notStringish hh2]
        simp
      · simp at he
  · simp at he

/-! comparisons -/

theorem eqk_bool {t : TypeId} {x y : Operand} (h : eqk P t x y = .bool) : P.underlying t = some .bool := by
  unfold eqk at h; split at h <;> simp_all
theorem eqk_ptr {t : TypeId} {x y : Operand} {n : Nat} (h : eqk P t x y = .ptr n) : ∃ e, P.underlying t = some (.pointer e) ∧ (asize P e).getD 0 = n := by
  unfold eqk at h; split at h <;> simp_all
theorem eqk_slice {t : TypeId} {x y : Operand} (h : eqk P t x y = .slice) : ∃ e, P.underlying t = some (.slice e) := by
  unfold eqk at h; split at h <;> simp_all
theorem eqk_func {t : TypeId} {x y : Operand} (h : eqk P t x y = .func) : ∃ a b c, P.underlying t = some (.func a b c) := by
  unfold eqk at h; split at h <;> simp_all
theorem eqk_iface {t : TypeId} {x y : Operand} {l : Bool} (h : eqk P t x y = .iface l) : ∃ ms, P.underlying t = some (.interface ms) ∧ l = (isC x || isC y || ms.isEmpty) := by
  unfold eqk at h; split at h <;> simp_all

def isEq (op : BinOp) : Bool := op == .eql || op == .neq

theorem guard_free {op : BinOp} {t : TypeId} {xo yo : Operand} {x y : Value} (h1 : x ≠ .nilIface ∨ y ≠ .nilIface) (h2 : ∀ a, x ≠ .agg a) : (eqGuard op t xo yo x y).run P w = .ok () w := by
  unfold eqGuard
  cases op <;> simp
  all_goals
    cases x <;> (try simp)
    all_goals (try (cases y <;> simp_all))

theorem equal_run (R : Rel P B g h w) {t : TypeId} {xo yo : Operand} {x y x' y' : Value} (hx : VRel g x x') (hy : VRel g y y') {b : Bool} (he : aeq h (eqk P t xo yo) x y = some b) :
    (Op.equal t x' y').run P w = .ok b w := by
  unfold Op.equal Op.maxDepth
  unfold Op.equalIn
  unfold aeq at he
  split at he
  all_goals try (simp at he; done)
  · rename_i a c hq
    rw [rel_bool hx, rel_bool hy, run_bindE (run_und (eqk_bool hq))]
    simpa using he
  · rename_i hq
    obtain ⟨e, hu, _⟩ := eqk_ptr hq
    cases hx; cases hy
    rw [run_bindE (run_und hu)]; simpa using he
  · rename_i hq
    obtain ⟨e, hu, _⟩ := eqk_ptr hq
    obtain ⟨r, rfl, _⟩ := rel_ptr hx
    cases hy
    rw [run_bindE (run_und hu)]; simpa using he
  · rename_i hq
    obtain ⟨e, hu, _⟩ := eqk_ptr hq
    obtain ⟨r, rfl, _⟩ := rel_ptr hy
    cases hx
    rw [run_bindE (run_und hu)]; simpa using he
  · rename_i es a c hq
    obtain ⟨e, hu, hn⟩ := eqk_ptr hq
    obtain ⟨r, rfl, hr⟩ := rel_ptr hx
    obtain ⟨s, rfl, hs⟩ := rel_ptr hy
    rw [run_bindE (run_und hu)]
    split at he
    · simp at he
    · rename_i h0
      cases hsz : asize P e with
      | none => simp [hsz] at hn; exact (h0 hn.symm).elim
      | some n =>
        simp [hsz] at hn; subst hn
        simp only
        rw [run_bindE (run_size hsz)]
        simp only [ne_eq, h0, not_false_eq_true, if_true]
        exact sameA_run R hr hs he
  · rename_i hq
    obtain ⟨e, hu⟩ := eqk_slice hq
    cases hx; cases hy
    rw [run_bindE (run_und hu)]; simpa using he
  · rename_i hq
    obtain ⟨e, hu⟩ := eqk_slice hq
    cases hy
    rw [run_bindE (run_und hu)]
    cases hx <;> simpa using he
  · rename_i hq
    obtain ⟨e, hu⟩ := eqk_slice hq
    cases hx
    rw [run_bindE (run_und hu)]
    cases hy <;> simpa using he
  · rename_i hq
    obtain ⟨a, b', c, hu⟩ := eqk_func hq
    cases hx; cases hy
    rw [run_bindE (run_und hu)]; simpa using he
  · rename_i hq
    obtain ⟨a, b', c, hu⟩ := eqk_func hq
    cases hx
    rw [run_bindE (run_und hu)]
    cases hy <;> simpa using he
  · rename_i hq
    obtain ⟨a, b', c, hu⟩ := eqk_func hq
    cases hy
    rw [run_bindE (run_und hu)]
    cases hx <;> simpa using he
  · rename_i l hq
    obtain ⟨ms, hu, _⟩ := eqk_iface hq
    cases hx; cases hy
    rw [run_bindE (run_und hu)]
    split at he <;> simp_all
  · rename_i l t' v' hq
    obtain ⟨ms, hu, _⟩ := eqk_iface hq
    cases hx
    obtain ⟨u, rfl, _⟩ := rel_iface hy
    rw [run_bindE (run_und hu)]; simpa using he
  · rename_i l t' v' hq
    obtain ⟨ms, hu, _⟩ := eqk_iface hq
    cases hy
    obtain ⟨u, rfl, _⟩ := rel_iface hx
    rw [run_bindE (run_und hu)]; simpa using he
  · rename_i l s v' u v'' hq
    obtain ⟨ms, hu, _⟩ := eqk_iface hq
    obtain ⟨x1, rfl, _⟩ := rel_iface hx
    obtain ⟨y1, rfl, _⟩ := rel_iface hy
    rw [run_bindE (run_und hu)]
    split at he
    · simp at he
    · rename_i hne; simpa [hne] using he

theorem guard_eq {op : BinOp} {t : TypeId} {xo yo : Operand} {x y x' y' : Value} (hx : VRel g x x') (hy : VRel g y y') {b : Bool} (he : aeq h (eqk P t xo yo) x y = some b) :
    (eqGuard op t xo yo x' y').run P w = .ok () w := by
  by_cases hb : x = .nilIface ∧ y = .nilIface
  · obtain ⟨rfl, rfl⟩ := hb
    cases hx; cases hy
    unfold aeq at he
    split at he <;> try (simp at he; done)
    all_goals try (simp_all; done)
    rename_i l hq _ _
    obtain ⟨ms, hu, hl⟩ := eqk_iface hq
    split at he
    · rename_i hlt
      subst hl
      unfold eqGuard
      cases op <;> simp
      all_goals
        have hxy : ∀ z : Operand, (match z with | .const _ => true | _ => false) = isC z := fun z => by cases z <;> rfl
        rcases Bool.or_eq_true _ _ ▸ hlt with h1 | h1
        · rcases Bool.or_eq_true _ _ ▸ h1 with h2 | h2
          · cases xo <;> simp_all [isC]
          · cases yo <;> simp_all [isC]
        · have hg : (Op.eqGuardIn Op.maxDepth t .nilIface .nilIface).run P w = .ok false w := by
            unfold Op.maxDepth Op.eqGuardIn
            rw [run_bindE (run_und hu)]
            simp [h1]
          clear he hlt
          cases xo <;> cases yo <;> simp [hg]
    · simp at he
  · apply guard_free
    · cases hx <;> cases hy <;> simp_all [undef, skipV, nanV, cellV] <;> (unfold aeq at he; split at he <;> simp_all [undef, skipV, nanV, cellV])
    · intro a e
      subst e
      cases hx <;> (unfold aeq at he; split at he <;> simp_all [undef, skipV, nanV, cellV])

theorem binop_eq {t : TypeId} {q : EqK} {x y x' y' : Value} (hx : VRel g x x') (hy : VRel g y y') {b : Bool} (he : aeq h q x y = some b) :
    binOp .eql t x' y' = (do pure (.bool (← Op.equal t x' y'))) ∧ binOp .neq t x' y' = (do pure (.bool (!(← Op.equal t x' y')))) := by
  unfold aeq at he
  split at he
  all_goals try (simp at he; done)
  all_goals (cases hx <;> cases hy <;> exact ⟨rfl, rfl⟩)

theorem order_nan (t : Nat) (c : Nat) : Ieee.double.order ((t % 2) * 2 ^ 63 + 0x7ff0000000000000 + 1 + (t / 2) % (2 ^ 52 - 1)) c = none := by
  obtain ⟨k, hk⟩ : ∃ k, (t % 2) * 2 ^ 63 + 0x7ff0000000000000 + 1 + (t / 2) % (2 ^ 52 - 1) = k := ⟨_, rfl⟩
  rw [hk]
  have e1 : Ieee.double.signWeight = 9223372036854775808 := rfl
  have e2 : Ieee.double.binade = 4503599627370496 := rfl
  have e3 : Ieee.double.infRung = 9218868437227405312 := rfl
  have h2 : 9218868437227405312 < k % 9223372036854775808 := by
    have h5 := Nat.mod_lt (t / 2) (show 0 < 2 ^ 52 - 1 by decide)
    have h3 : (2 : Nat) ^ 63 = 9223372036854775808 := rfl
    have h4 : (2 : Nat) ^ 52 - 1 = 4503599627370495 := rfl
    rw [h3] at hk
    rw [h4] at hk h5
    obtain ⟨r, hr⟩ : ∃ r, t / 2 % 4503599627370495 = r := ⟨_, rfl⟩
    rw [hr] at hk h5
    rcases Nat.mod_two_eq_zero_or_one t with e | e <;> rw [e] at hk
    · rw [Nat.mod_eq_of_lt (by omega)]; omega
    · rw [← hk, show 1 * 9223372036854775808 + 9218868437227405312 + 1 + r = (9218868437227405312 + 1 + r) + 9223372036854775808 by omega, Nat.add_mod_right, Nat.mod_eq_of_lt (by omega)]; omega
  have : ∃ s f, Ieee.double.read k = .nan s f := by
    unfold Ieee.Format.read
    simp only [e1, e2, e3]
    rw [if_neg (by omega), if_neg (by omega), if_neg (by omega)]
    exact ⟨_, _, rfl⟩
  obtain ⟨s, f, e⟩ := this
  unfold Ieee.Format.order
  rw [e]
  rfl

theorem neq_nan (R : Rel P B g h w) {t : TypeId} {x y : Operand} {a b a' b' : Value} (hx : VRel g a a') (hy : VRel g b b') {v : Value} (hv : nanNeq a b = some v) :
    OpS P B g w (do pure (.value (← (do eqGuard .neq t x y a' b'; binOp .neq t a' b')))) (.val v h) := by
  unfold nanNeq at hv
  split at hv
  · simp only [Option.some.injEq] at hv; subst hv
    rename_i c
    cases hy
    cases hx with
    | nan r hr =>
      refine OpS.sameV R (y := .bool true) ?_ (.bool true)
      rw [run_bindE (guard_free (.inl (by simp)) (by simp))]
      have : binOp .neq t (.float .f64 r) (.float .f64 c) = pure (.bool (Ieee.double.order r c != some .eq)) := rfl
      rw [this, hr c]
      rfl
  · simp at hv

theorem sub_nan (R : Rel P B g h w) {t : TypeId} {x y : Operand} {a b a' b' : Value} (hx : VRel g a a') (hy : VRel g b b') {v : Value} (hv : nanSub a b = some v) :
    OpS P B g w (do pure (.value (← (do eqGuard .sub t x y a' b'; binOp .sub t a' b')))) (.val v h) := by
  unfold nanSub at hv
  split at hv
  · rename_i m n
    split at hv
    · rename_i hn
      simp only [Option.some.injEq] at hv; subst hv
      cases hx; cases hy
      obtain ⟨k, hk⟩ : ∃ k, (Question.nanBits .f64 m n).cut (w.tape w.drawn (.nanBits .f64 m n)) = k := ⟨_, rfl⟩
      refine ⟨.float .f64 k, { w with drawn := w.drawn + 1 }, g, .inl ?_, .nan k ?_, R.drew, (Ext.refl g w).drew⟩
      · refine run_v ?_
        rw [run_bindE (guard_free (.inl (by simp)) (by simp))]
        have : binOp .sub t (.float .f64 m) (.float .f64 n) = (match Ieee.double.sub m n with | some r => pure (.float .f64 r) | none => do pure (.float .f64 (← choose (.nanBits .f64 m n)))) := rfl
        rw [this, hn]
        have e : (choose (.nanBits .f64 m n)).run P w = .ok k { w with drawn := w.drawn + 1 } := by
          rw [← hk]; rfl
        simp only
        rw [run_bindE e]
        rfl
      · intro c
        rw [← hk]
        exact order_nan _ c
    · simp at hv
  · simp at hv

theorem os_bin (R : Rel P B g h w) {op : BinOp} {t yt : TypeId} {x y : Operand} (hx : VRel g (ρ x) (ρ' x)) (hy : VRel g (ρ y) (ρ' y)) {res : ARes} (he : aop P h ρ (compOp P (.binOp op t x y yt)) = some res) :
    OpS P B g w (do pure (.value (← (do eqGuard op t x y (ρ' x) (ρ' y); binOp op t (ρ' x) (ρ' y))))) res := by
  simp only [compOp, aop] at he
  obtain ⟨v, hv, rfl⟩ := toVal_some he
  have gen : ∀ op', op' = op → abinP P op' t x y (ρ x) (ρ y) = some v → OpS P B g w (do pure (.value (← (do eqGuard op t x y (ρ' x) (ρ' y); binOp op t (ρ' x) (ρ' y))))) (.val v h) := by
    intro op' e hv2
    subst e
    unfold abinP at hv2
    split at hv2
    · rename_i hp
      rw [Bool.and_eq_true] at hp
      rw [plain_eq hp.1 hx, plain_eq hp.2 hy]
      obtain ⟨hr, hpl⟩ := pures_run (w := w) hv2
      exact OpS.sameV R hr (plain_refl hpl)
    · simp at hv2
  unfold abinop at hv
  split at hv
  · rename_i k a k' b e1 e2
    rw [e1] at hx; rw [e2] at hy
    rw [rel_int hx, rel_int hy]
    split at hv
    · rename_i hk
      refine OpS.sameV R (abin_run hk hv _ _) ?_
      cases op <;> simp [abin] at hv <;> first | (subst hv; constructor; done) | (obtain ⟨_, rfl⟩ := hv; constructor)
    · simp at hv
  · split at hv
    · split at hv
      · rename_i b hb
        simp only [Option.some.injEq] at hv; subst hv
        refine OpS.sameV R (y := .bool b) ?_ (.bool b)
        rw [run_bindE (guard_eq hx hy hb), (binop_eq hx hy hb).1, run_bindE (equal_run R hx hy hb)]
        rfl
      · exact gen _ rfl hv
    · split at hv
      · rename_i b hb
        simp only [Option.some.injEq] at hv; subst hv
        refine OpS.sameV R (y := .bool (!b)) ?_ (.bool _)
        rw [run_bindE (guard_eq hx hy hb), (binop_eq hx hy hb).2, run_bindE (equal_run R hx hy hb)]
        rfl
      · split at hv
        · rename_i v' hv'
          simp only [Option.some.injEq] at hv; subst hv
          exact gen _ rfl hv'
        · exact neq_nan R hx hy hv
    · split at hv
      · rename_i v' hv'
        simp only [Option.some.injEq] at hv; subst hv
        exact gen _ rfl hv'
      · exact sub_nan R hx hy hv
    · exact gen _ rfl hv

end

end Go.Ax

/- An abstract machine for Go programs: its operations against the model's (conversions, addresses, parts). -/
namespace Go.Ax
set_option linter.unusedVariables false
set_option linter.unusedSimpArgs false

section
variable {P : Program} {B : Nat} {g : Ghost} {h : Heap} {w : World} {ρ ρ' : Operand → Value}

theorem os_un (R : Rel P B g h w) {op : UnOp} {t : TypeId} {x : Operand} (hx : VRel g (ρ x) (ρ' x)) {res : ARes} (he : aop P h ρ (compOp P (.unOp op t x)) = some res) :
    OpS P B g w (do pure (.value (← Op.unary op (ρ' x)))) res := by
  simp only [compOp, aop] at he
  obtain ⟨v, hv, rfl⟩ := toVal_some he
  unfold aun at hv
  split at hv
  · rename_i k n e
    rw [e] at hx; rw [rel_int hx]
    simp only [Option.some.injEq] at hv; subst hv
    exact OpS.sameV R rfl (.int _ _)
  · rename_i k n e
    rw [e] at hx; rw [rel_int hx]
    simp only [abin, Option.some.injEq] at hv; subst hv
    exact OpS.sameV R rfl (.int _ _)
  · rename_i b e
    rw [e] at hx; rw [rel_bool hx]
    simp only [Option.some.injEq] at hv; subst hv
    exact OpS.sameV R rfl (.bool _)
  · split at hv
    · rename_i hp
      rw [plain_eq hp hx]
      obtain ⟨hr, hpl⟩ := pures_run (w := w) hv
      exact OpS.sameV R hr (plain_refl hpl)
    · simp at hv

theorem bytes_get {s : ByteArray} {n : Nat} : s[n]? = s.data[n]? := by
  by_cases hn : n < s.size
  · rw [getElem?_pos s n hn, Array.getElem?_eq_getElem (show n < s.data.size from hn)]; rfl
  · rw [getElem?_neg s n hn, Array.getElem?_eq_none (show s.data.size ≤ n from Nat.le_of_not_lt hn)]

theorem rel_none_slice {l c : Nat} {y : Value} (h : VRel g (.slice none l c) y) : y = .slice none l c := by cases h; rfl
theorem rel_slice {a : Addr} {l c : Nat} {y : Value} (h : VRel g (.slice (some a) l c) y) : ∃ r rc, y = .slice (some r) l rc ∧ ((l = 0 ∧ c = gcap + 1) ∨ ARel g a r) ∧ (c < gcap → rc = c) ∧
    (c = gcap → l ≤ rc ∧ ∀ v, a.spot = some v → a.off + rc * g.es a.block = g.room a.block v) := by
  cases h with
  | sliK len cap h hc => exact ⟨_, _, rfl, .inr h, fun _ => rfl, fun e => by omega⟩
  | sliU len rcap h hl hr => exact ⟨_, _, rfl, .inr h, fun e => by omega, fun _ => ⟨hl, hr⟩⟩
  | sliE r rcap => exact ⟨_, _, rfl, .inl ⟨rfl, rfl⟩, fun e => by omega, fun e => by omega⟩
theorem rel_agg {a : Array Value} {y : Value} (h : VRel g (.agg a) y) : ∃ b, y = .agg b ∧ a.size = b.size ∧ ∀ (i : Nat) (x y : Value), a[i]? = some x → b[i]? = some y → VRel g x y := by
  cases h; exact ⟨_, rfl, by assumption, by assumption⟩
theorem rel_tuple {a : Array Value} {y : Value} (h : VRel g (.tuple a) y) (hs : a.size ≠ 0) : ∃ b, y = .tuple b ∧ a.size = b.size ∧ ∀ (i : Nat) (x y : Value), a[i]? = some x → b[i]? = some y → VRel g x y := by
  cases h
  · simp [undef] at hs
  · exact ⟨_, rfl, by assumption, by assumption⟩

theorem os_chk (R : Rel P B g h w) {x : Operand} (hx : VRel g (ρ x) (ρ' x)) {o : Oper} (ho : o.op = .nilCheck x) {res : ARes} (he : aop P h ρ (.chk x) = some res) :
    OpS P B g w (execOp ρ' o) res := by
  simp only [aop] at he
  split at he
  · rename_i a e
    rw [e] at hx; obtain ⟨r, hr, har⟩ := rel_ptr hx
    simp only [Option.some.injEq] at he; subst he
    exact OpS.same R (y := .pointer (some r)) (by simp [execOp, ho, hr]) (.ptr har)
  · rename_i t v e
    rw [e] at hx; obtain ⟨u, hu, hv⟩ := rel_iface hx
    simp only [Option.some.injEq] at he; subst he
    exact OpS.same R (y := .iface t u) (by simp [execOp, ho, hu]) (.iface t hv)
  · rename_i f a b e
    rw [e] at hx
    simp only [Option.some.injEq] at he; subst he
    generalize hy : ρ' x = y at hx
    cases hx with
    | func fn hf h1 h2 ha hc => exact OpS.same R (y := .func (.func f) _ _) (by simp [execOp, ho, hy]) (.func _ hf h1 h2 ha hc)
  · rename_i f a b e
    rw [e] at hx
    simp only [Option.some.injEq] at he; subst he
    generalize hy : ρ' x = y at hx
    cases hx with
    | func fn hf h1 h2 ha hc => exact (hf _ rfl).elim
    | yield hl => exact OpS.same R (y := .func (.yield _) #[] #[]) (by simp [execOp, ho, hy]) (.yield hl)
  · simp at he

theorem os_mkI (R : Rel P B g h w) {t : TypeId} {x : Operand} (hx : VRel g (ρ x) (ρ' x)) {res : ARes} (he : aop P h ρ (compOp P (.makeInterface t x)) = some res) :
    OpS P B g w (do pure (.value (← Instr.makeInterface t (ρ' x)))) res := by
  simp only [compOp] at he
  split at he
  · simp [aop] at he
  · rename_i d hn hd
    simp only [aop, Option.some.injEq] at he; subst he
    refine OpS.sameV R (y := .iface t (ρ' x)) ?_ (.iface t hx)
    unfold Instr.makeInterface
    rw [run_bindE (run_und hd)]
    cases d <;> first | rfl | exact (hn _ rfl).elim
  · simp [aop] at he

theorem os_fad (R : Rel P B g h w) {t : TypeId} {x : Operand} {i : Nat} (hx : VRel g (ρ x) (ρ' x)) {res : ARes} (he : aop P h ρ (compOp P (.fieldAddr t x i)) = some res) :
    OpS P B g w (do pure (.value (← Instr.fieldAt t (ρ' x) i))) res := by
  simp only [compOp] at he
  split at he
  · rename_i fields hu
    split at he
    · rename_i f hf
      split at he
      · rename_i s hs
        split at he
        · simp [aop] at he
        · rename_i h0
          simp only [aop] at he
          split at he
          · rename_i a e
            rw [e] at hx; obtain ⟨r, hr, har⟩ := rel_ptr hx
            simp only [Option.some.injEq] at he; subst he
            refine OpS.sameV R (y := .pointer (some (r.add f.offset))) ?_ (.ptr (har.add _))
            unfold Instr.fieldAt
            rw [run_bindE (run_und hu)]
            simp only [hf, hr]
            rw [run_bindE (a := r) (w' := w) rfl]
            have : (fieldPlace r f).run P w = .ok (r.add f.offset) w := by
              unfold fieldPlace
              rw [run_bindE (run_size hs)]
              simp [h0]
            rw [run_bindE this]; rfl
          · simp at he
      · simp [aop] at he
    · simp [aop] at he
  · simp [aop] at he

theorem os_fld (R : Rel P B g h w) {t : TypeId} {x : Operand} {i : Nat} (hx : VRel g (ρ x) (ρ' x)) {res : ARes} (he : aop P h ρ (compOp P (.field t x i)) = some res) :
    OpS P B g w (do pure (.value (← Instr.field t (ρ' x) i))) res := by
  simp only [compOp] at he
  split at he
  · rename_i fields hu
    split at he
    · rename_i f hf
      split at he
      · rename_i q hq
        simp only [aop] at he
        split at he
        · rename_i cs e
          rw [e] at hx; obtain ⟨b, hb, hs, hv⟩ := rel_agg hx
          obtain ⟨v, hv', rfl⟩ := toVal_some he
          obtain ⟨y, hy, hvy⟩ := part_sound (w := w) hq hs hv hv'
          refine OpS.sameV R ?_ hvy
          unfold Instr.field
          rw [run_bindE (run_und hu)]
          simp only [hf, hb]
          rw [run_bindE (a := b) (w' := w) rfl]; exact hy
        · simp at he
      · simp [aop] at he
    · simp [aop] at he
  · simp [aop] at he

theorem os_iad (R : Rel P B g h w) {t : TypeId} {x i : Operand} (hx : VRel g (ρ x) (ρ' x)) (hi : VRel g (ρ i) (ρ' i)) {res : ARes} (he : aop P h ρ (compOp P (.indexAddr t x i)) = some res) :
    OpS P B g w (do pure (.value (← Instr.indexAt t (ρ' x) (ρ' i)))) res := by
  simp only [compOp] at he
  split at he
  · rename_i el hu
    split at he
    · rename_i s hs
      simp only [aop] at he
      split at he
      · rename_i a len cap k i' e1 e2
        split at he
        · rename_i hc
          rw [e1] at hx; rw [e2] at hi
          obtain ⟨r, rc, hr, h1, h2, h3⟩ := rel_slice hx
          rw [rel_int hi]
          simp only [Option.some.injEq] at he; subst he
          rcases h1 with h1 | h1
          · omega
          · refine OpS.sameV R (y := .pointer (some (r.add (i'.toNat * s)))) ?_ (.ptr (h1.add _))
            rw [hr]; unfold Instr.indexAt
            rw [run_bindE (a := (k, i')) (w' := w) rfl]
            simp only [Sem.run_bind, run_und hu, Result.andThen_ok, Sem.run_pure, hc.1, hc.2, and_self, if_true, run_size hs]
        · simp at he
      · simp at he
    · simp [aop] at he
  · rename_i n el hu
    split at he
    · rename_i s hs
      simp only [aop] at he
      split at he
      · rename_i a k i' e1 e2
        split at he
        · rename_i hc
          rw [e1] at hx; rw [e2] at hi
          obtain ⟨r, hr, h1⟩ := rel_ptr hx
          rw [rel_int hi]
          simp only [Option.some.injEq] at he; subst he
          refine OpS.sameV R (y := .pointer (some (r.add (i'.toNat * s)))) ?_ (.ptr (h1.add _))
          rw [hr]; unfold Instr.indexAt
          rw [run_bindE (a := (k, i')) (w' := w) rfl]
          simp only [Sem.run_bind, run_und hu, Result.andThen_ok, Sem.run_pure, Instr.sureAddr, hc.1, hc.2, and_self, if_true, run_size hs]
        · simp at he
      · simp at he
    · simp [aop] at he
  · simp [aop] at he

theorem os_ix (R : Rel P B g h w) {t : TypeId} {x i : Operand} (hx : VRel g (ρ x) (ρ' x)) (hi : VRel g (ρ i) (ρ' i)) {res : ARes} (he : aop P h ρ (compOp P (.index t x i)) = some res) :
    OpS P B g w (do pure (.value (← Instr.index t (ρ' x) (ρ' i)))) res := by
  simp only [compOp] at he
  split at he
  · rename_i hu
    simp only [aop] at he
    split at he
    · rename_i s k i' e1 e2
      split at he
      · rename_i h0
        split at he
        · rename_i b hb
          rw [e1] at hx; rw [e2] at hi
          rw [rel_string hx, rel_int hi]
          simp only [Option.some.injEq] at he; subst he
          refine OpS.sameV R (y := .int .u8 b.toNat) ?_ (.int _ _)
          unfold Instr.index
          rw [run_bindE (a := (k, i')) (w' := w) rfl, run_bindE (run_und hu)]
          have : s[i'.toNat]? = some b := by
            rw [bytes_get]; simpa using hb
          simp [h0, this]
        · simp at he
      · simp at he
    · simp at he
  · rename_i n el hu
    split at he
    · rename_i s q hs hq
      simp only [aop] at he
      split at he
      · rename_i cs k i' e1 e2
        split at he
        · rename_i hc
          rw [e1] at hx; rw [e2] at hi
          obtain ⟨b, hb, hsz, hv⟩ := rel_agg hx
          rw [hb, rel_int hi]
          obtain ⟨v, hv', rfl⟩ := toVal_some he
          obtain ⟨y, hy, hvy⟩ := part_sound (w := w) hq hsz hv hv'
          refine OpS.sameV R ?_ hvy
          unfold Instr.index
          rw [run_bindE (a := (k, i')) (w' := w) rfl, run_bindE (run_und hu)]
          simp only [hc.1, hc.2, and_self, if_true]
          rw [run_bindE (run_size hs)]; exact hy
        · simp at he
      · simp at he
    · simp [aop] at he
  · simp [aop] at he

theorem os_extr (R : Rel P B g h w) {x : Operand} {i : Nat} (hx : VRel g (ρ x) (ρ' x)) {res : ARes} (he : aop P h ρ (.extr x i) = some res) :
    OpS P B g w (do pure (.value (← Instr.extract (ρ' x) i))) res := by
  simp only [aop] at he
  split at he
  · rename_i vs e
    obtain ⟨v, hv, rfl⟩ := toVal_some he
    rw [e] at hx
    have hlt : i < vs.size := by
      rcases Nat.lt_or_ge i vs.size with h' | h'
      · exact h'
      · rw [Array.getElem?_eq_none h'] at hv; simp at hv
    obtain ⟨b, hb, hs, hr⟩ := rel_tuple hx (by omega)
    have hb' : b[i]? = some b[i] := Array.getElem?_eq_getElem (by omega)
    refine OpS.sameV R (y := b[i]) ?_ (hr i v _ hv hb')
    rw [hb]; simp [Instr.extract, hb']
  · simp at he

end

end Go.Ax

/- An abstract machine for Go programs: its operations against the model's (conversions, cuts, literals). -/
namespace Go.Ax
set_option linter.unusedVariables false
set_option linter.unusedSimpArgs false

section
variable {P : Program} {B : Nat} {g : Ghost} {h : Heap} {w : World} {ρ ρ' : Operand → Value}

theorem u8Elem_some {e : TypeId} (h : u8Elem P e = true) : P.underlying e = some (.int .u8) := by
  unfold u8Elem at h; split at h <;> simp_all

theorem Rel.freeze {r : Nat} {c : Array Value} {e : TypeId} (R : Rel P B g h w) (hr : w.heap[r]? = some (.cells c e (0, 0))) (hn : ¬ InR g r) (hB : B ≤ r) (hl : r < w.heap.size) :
    Rel P B g h (w.freeze ⟨r, c.size, none⟩ 1) ∧ (w.freeze ⟨r, c.size, none⟩ 1).heap[r]? = some (.cells c e (c.size, c.size + 1)) ∧ (∀ i, i ≠ r → (w.freeze ⟨r, c.size, none⟩ 1).heap[i]? = w.heap[i]?) ∧ (w.freeze ⟨r, c.size, none⟩ 1).heap.size = w.heap.size := by
  have h1 : (w.freeze ⟨r, c.size, none⟩ 1).heap[r]? = some (.cells c e (c.size, c.size + 1)) := by
    simp [World.freeze, Array.getElem?_modify, hr]
  have h2 : ∀ i, i ≠ r → (w.freeze ⟨r, c.size, none⟩ 1).heap[i]? = w.heap[i]? := by
    intro i hi
    simp only [World.freeze, Nat.one_ne_zero, if_false, Array.getElem?_modify]
    rw [if_neg (by omega)]
  have h3 : (w.freeze ⟨r, c.size, none⟩ 1).heap.size = w.heap.size := by simp [World.freeze]
  refine ⟨R.of_same (by omega) fun q hq => h2 q ?_, h1, h2, h3⟩
  rintro rfl
  rcases hq with hq | hq
  · exact hn hq
  · omega

theorem byteCells_get {l : List UInt8} {j : Nat} {x : Value} (h : (byteCells l)[j]? = some x) : ∃ b, l[j]? = some b ∧ x = .int .u8 b.toNat := by
  unfold byteCells at h
  rw [List.getElem?_map] at h
  cases e : l[j]? with
  | none => simp [e] at h
  | some b => simp [e] at h; exact ⟨b, rfl, h.symm⟩

theorem os_s2b (R : Rel P B g h w) {s d e : TypeId} {x : Operand} (hs : P.underlying s = some .string) (hd : P.underlying d = some (.slice e)) (hu : u8Elem P e = true) (hx : VRel g (ρ x) (ρ' x)) {res : ARes}
    (he : aop P h ρ (.s2b x) = some res) : OpS P B g w (do pure (.value (← convert s d (ρ' x)))) res := by
  simp only [aop] at he
  split at he
  · rename_i str e1
    rw [e1] at hx
    rw [rel_string hx]
    simp only [Option.some.injEq] at he; subst he
    -- the run
    let t := (Question.appendCap str.size 0 e).cut (w.tape w.drawn (.appendCap str.size 0 e))
    have ht : str.size ≤ t := by show str.size ≤ str.size + _; omega
    let w1 : World := { w with drawn := w.drawn + 1 }
    let c : Array Value := str.data.map (fun b => .int .u8 b.toNat) ++ Array.replicate (t - str.size) (.int .u8 0)
    have hc : c.size = t := by simp only [c, Array.size_append, Array.size_map, Array.size_replicate]; show str.size + _ = _; omega
    let w2 := w1.alloc (.cells c e)
    have hw2 : w2.heap[w.heap.size]? = some (.cells c e (0, 0)) := alloc_at w1 _
    have R1 : Rel P B g h w1 := R.drew
    obtain ⟨R2, E2⟩ := R1.push (.cells c e)
    have hn : ¬ InR g w.heap.size := fun hi => by have := hi.lt R; omega
    obtain ⟨R3, h31, h32, h33⟩ := R2.freeze hw2 hn R.base (by simp [w1])
    have hrun : (convert s d (.string str)).run P w = .ok (.slice (some ⟨w.heap.size, 0, none⟩) str.size t) (w2.freeze ⟨w.heap.size, c.size, none⟩ 1) := by
      unfold convert
      rw [run_bindE (run_und hs), run_bindE (run_und hd)]
      simp only
      rw [run_bindE (run_und (u8Elem_some hu))]
      simp only
      unfold Conv.stringToBytes
      rw [run_bindE (a := t) (w' := w1) (by simp [choose, Sem.run, Question.forced, t, w1])]
      rw [run_bindE run_newRow]
      have hm : (markStringish ⟨w.heap.size, 0, none⟩).run P w2 = .ok () (w2.freeze ⟨w.heap.size, c.size, none⟩ 1) := by
        unfold markStringish
        rw [run_bindE (run_shape P w2 _)]
        simp [World.shape?, hw2]
      rw [run_bindE hm]
      rfl
    have hcs : (byteCells str.data.toList).length ≤ c.size := by simp [byteCells, hc]; exact ht
    obtain ⟨g', R', G, hin, ha, hroom, hes⟩ := fresh_sound R3 h31 hn R.base (by rw [h33]; simp [w1, w2]) (byteCells str.data.toList) 1
      ⟨fun i hi => by simp only; omega, fun h => by simp at h⟩ hcs (fun j x hj => by
        obtain ⟨b, hb, rfl⟩ := byteCells_get hj
        refine ⟨.int .u8 b.toNat, ?_, .int _ _⟩
        have hj' : j < str.data.size := by
          rcases Nat.lt_or_ge j str.data.size with h' | h'
          · exact h'
          · rw [List.getElem?_eq_none (by simpa using h')] at hb; simp at hb
        have hb' : str.data[j]? = some b := by simpa using hb
        simp only [c]
        rw [Array.getElem?_append_left (by simpa using hj'), Array.getElem?_map, hb']
        rfl)
    refine ⟨_, _, g', .inl (run_v hrun), .sliU str.size t ha ht (fun v hv => ?_), R', ?_⟩
    · show 0 + t * g'.es h.dyn.length = g'.room h.dyn.length v
      have : v = 0 := by simpa [hnext] using hv.symm
      subst this
      rw [hes, hroom, hc]; omega
    · refine ⟨G, fun r hr => ?_, ?_, fun r hr hnr => ?_, rfl, rfl, rfl⟩
      · rcases hin r hr with h1 | h1
        · exact .inl h1
        · exact .inr (by omega)
      · rw [h33]; simp [w1, w2]
      · rw [h32 r (by omega)]; exact E2.same r (by simpa [w1] using hr) hnr
  · simp at he

theorem bytesOf_rel : ∀ {l ys : List Value} {b : List UInt8}, bytesOf l = some b → LR g l ys → ys = l := by
  intro l
  induction l with
  | nil => intro ys b _ hl; rw [hl.nil_inv]
  | cons x l ih =>
    intro ys b hb hl
    obtain ⟨y, ys', rfl, hxy, hl'⟩ := hl.cons_inv
    cases x with
    | int k n =>
      rw [rel_int hxy]
      cases k <;> simp only [bytesOf] at hb <;> try (simp at hb; done)
      cases hb' : bytesOf l with
      | none => simp [hb'] at hb
      | some b' => rw [ih hb' hl']
    | _ => simp [bytesOf] at hb

theorem run_b2s : ∀ {l : List Value} {b : List UInt8} (hb : bytesOf l = some b) (acc : ByteArray) (F : Value → ByteArray → Sem (ForInStep ByteArray))
    (hF : ∀ n s w, (F (.int .u8 n) s).run P w = .ok (.yield (s.push (UInt8.ofNat n.toNat))) w), (forIn l acc F).run P w = .ok ⟨acc.data ++ b.toArray⟩ w := by
  intro l
  induction l with
  | nil => intro b hb acc F hF; simp [bytesOf] at hb; subst hb; simp
  | cons x l ih =>
    intro b hb acc F hF
    cases x with
    | int k n =>
      cases k <;> simp only [bytesOf] at hb <;> try (simp at hb; done)
      cases hb' : bytesOf l with
      | none => simp [hb'] at hb
      | some b' =>
        simp [hb'] at hb; subst hb
        rw [List.forIn_cons, run_bindE (hF n acc w)]
        simp only
        rw [ih hb' _ F hF]
        simp [ByteArray.push]
    | _ => simp [bytesOf] at hb

theorem os_b2s (R : Rel P B g h w) {s d e : TypeId} {x : Operand} (hs : P.underlying s = some (.slice e)) (hd : P.underlying d = some .string) (hu : u8Elem P e = true) (hx : VRel g (ρ x) (ρ' x)) {res : ARes}
    (he : aop P h ρ (.b2s x) = some res) : OpS P B g w (do pure (.value (← convert s d (ρ' x)))) res := by
  simp only [aop] at he
  split at he
  · rename_i l c e1
    rw [e1] at hx; rw [rel_none_slice hx]
    simp only [Option.some.injEq] at he; subst he
    refine OpS.sameV R ?_ (.string _)
    unfold convert
    rw [run_bindE (run_und hs), run_bindE (run_und hd)]
    simp only
    rw [run_bindE (run_und (u8Elem_some hu))]
    rfl
  · rename_i a len c e1
    rw [e1] at hx
    obtain ⟨r, rc, hr, h1, _, _⟩ := rel_slice hx
    split at he
    · rename_i l hl
      split at he
      · rename_i b hb
        simp only [Option.some.injEq] at he; subst he
        have hcells : ∃ ys : List Value, LR g l ys ∧ l.length = len ∧ (∀ i, i < len → ∃ y, ys[i]? = some y ∧ w.cell? (r.add i) = some y) := by
          rcases h1 with ⟨rfl, _⟩ | h1
          · simp [loadN] at hl; subst hl; exact ⟨[], LR.nil g, rfl, fun i hi => by omega⟩
          · exact loadN_sound R len h1 hl
        obtain ⟨ys, hlr, hlen, hc⟩ := hcells
        have hys := bytesOf_rel hb hlr
        subst hys
        refine OpS.sameV R (y := .string ⟨b.toArray⟩) ?_ (.string _)
        rw [hr]
        unfold convert
        rw [run_bindE (run_und hs), run_bindE (run_und hd)]
        simp only
        rw [run_bindE (run_und (u8Elem_some hu))]
        simp only
        unfold Conv.bytesToString
        simp only
        rw [run_bindE (run_loadCells hc hlen)]
        have := run_b2s (P := P) (w := w) hb ByteArray.empty
        simp only [Array.forIn_toList, ← Array.forIn_toList] 
        rw [run_bindE (this _ (fun n s w => by simp))]
        simp [ByteArray.empty, ByteArray.emptyWithCapacity]
        rfl
      · simp at he
    · simp at he
  · simp at he

theorem os_convert (R : Rel P B g h w) {s d : TypeId} {x : Operand} (hx : VRel g (ρ x) (ρ' x)) {res : ARes} (he : aop P h ρ (compOp P (.convert s d x)) = some res) :
    OpS P B g w (do pure (.value (← convert s d (ρ' x)))) res := by
  have gen : ∀ v, plain (ρ x) = true → pures P (convert s d (ρ x)) = some v → OpS P B g w (do pure (.value (← convert s d (ρ' x)))) (.val v h) := by
    intro v hp hv
    rw [plain_eq hp hx]
    obtain ⟨hr, hpl⟩ := pures_run (w := w) hv
    exact OpS.sameV R hr (plain_refl hpl)
  simp only [compOp] at he
  split at he
  · rename_i sd k hs hd
    simp only [aop] at he
    split at he
    · rename_i k' n e
      rw [e] at hx; rw [rel_int hx]
      simp only [Option.some.injEq] at he; subst he
      refine OpS.sameV R ?_ (.int _ _)
      unfold convert
      rw [run_bindE (run_und hs), run_bindE (run_und hd)]
      cases sd <;> rfl
    · split at he
      · rename_i hp
        obtain ⟨v, hv, rfl⟩ := toVal_some he
        exact gen v hp hv
      · simp at he
  · rename_i e hs hd
    split at he
    · rename_i hu; exact os_s2b R hs hd hu hx he
    · simp [aop] at he
  · rename_i e hs hd
    split at he
    · rename_i hu; exact os_b2s R hs hd hu hx he
    · simp [aop] at he
  · simp only [aop] at he
    split at he
    · rename_i hp
      obtain ⟨v, hv, rfl⟩ := toVal_some he
      exact gen v hp hv
    · simp at he
  · simp [aop] at he

theorem os_mkF (R : Rel P B g h w) {fn : Fn} {a b : Array Operand} (hf : ∀ l, fn ≠ .yield l) (ha : ∀ x ∈ a, VRel g (ρ x) (ρ' x)) (hb : ∀ x ∈ b, VRel g (ρ x) (ρ' x)) {res : ARes}
    (he : aop P h ρ (.mkF fn a.toList b.toList) = some res) : OpS P B g w (do pure (.value (← Instr.makeFunc fn (a.map ρ') (b.map ρ')))) res := by
  simp only [aop, Option.some.injEq] at he; subst he
  refine OpS.sameV R (y := .func fn (a.map ρ') (b.map ρ')) rfl (.func fn hf (by simp) (by simp) ?_ ?_)
  · intro i x y hx hy
    have h1 := LR.map a.toList ρ ρ' (g := g) (fun z hz => ha z (by simpa using hz))
    exact h1.2 i x y (by simpa using hx) (by simpa using hy)
  · intro i x y hx hy
    have h1 := LR.map b.toList ρ ρ' (g := g) (fun z hz => hb z (by simpa using hz))
    exact h1.2 i x y (by simpa using hx) (by simpa using hy)

/-- The cells of a new row, as the model lays them. -/
theorem rows_get (z : Array Value) (n : Nat) (j : Nat) : ((List.replicate n z.toList).flatten)[j]? = if j < n * z.size then some z[j % z.size]! else none := by
  induction n generalizing j with
  | zero => simp
  | succ n ih =>
    rw [List.replicate_succ, List.flatten_cons]
    by_cases hj : j < z.size
    · rw [List.getElem?_append_left (by simpa using hj), if_pos (by rw [Nat.succ_mul]; omega), Nat.mod_eq_of_lt hj]
      simp [hj]
    · rw [List.getElem?_append_right (by simpa using hj), ih]
      simp only [Array.length_toList]
      have h1 : (j - z.size < n * z.size) = (j < (n + 1) * z.size) := by rw [Nat.succ_mul]; apply propext; omega
      have h2 : (j - z.size) % z.size = j % z.size := by
        conv => rhs; rw [show j = (j - z.size) + z.size by omega]
        simp
      simp only [h1, h2]

theorem rows_len (z : Array Value) (n : Nat) : ((List.replicate n z.toList).flatten).length = n * z.size := by
  simp

theorem os_mkS (R : Rel P B g h w) {t : TypeId} {l c : Operand} (hl : VRel g (ρ l) (ρ' l)) (hc : VRel g (ρ c) (ρ' c)) {res : ARes} (he : aop P h ρ (compOp P (.makeSlice t l c)) = some res) :
    OpS P B g w (do pure (.value (← Instr.makeSlice t (ρ' l) (ρ' c)))) res := by
  simp only [compOp] at he
  split at he
  · rename_i e hu
    split at he
    · rename_i i zl hi hz
      simp only [aop] at he
      split at he
      · rename_i ln cp e1 e2
        split at he
        · rename_i hcnd
          obtain ⟨h0, hle, hb, hcap, hzl⟩ := hcnd
          rw [e1] at hl; rw [e2] at hc
          rw [rel_int hl, rel_int hc]
          simp only [Option.some.injEq] at he; subst he
          obtain ⟨i', z, hi', hzz, rfl, hp⟩ := zeroOf_some hz
          rw [hi] at hi'; simp only [Option.some.injEq] at hi'; subst hi'
          have hw : ∀ n : Int, 0 ≤ n → n ≤ 140737488355328 → IntKind.i64.wrap n = n := by
            intro n h0 h1
            simp [IntKind.wrap, IntKind.bits, IntKind.signed]; omega
          have hsz : z.cells.size = i.size := by simpa using hzl
          let row : Array Value := (Array.range (cp.toNat * i.size)).map (z.cells[· % z.cells.size]!)
          have hrun : (Instr.makeSlice t (.int .i64 ln) (.int .i64 cp)).run P w = .ok (.slice (some ⟨w.heap.size, 0, none⟩) ln.toNat cp.toNat) (w.alloc (.cells row e)) := by
            unfold Instr.makeSlice
            rw [run_bindE (run_und hu)]
            simp only
            rw [run_bindE (a := ln) (w' := w) rfl, run_bindE (a := cp) (w' := w) rfl, run_bindE (run_info hi)]
            simp only [hw ln h0 (by omega), hw cp (by omega) hcap]
            have c1 : ¬ (cp < 0 ∨ (i.bytes : Int) * cp > 2 ^ 48) := by
              rw [not_or]; constructor
              · omega
              · rw [Int.mul_comm]; omega
            have c2 : (((decide (cp < 0) || decide ((i.bytes : Int) * cp > 2 ^ 48)) || decide (ln < 0)) || decide (ln > cp)) = false := by
              simp only [Bool.or_eq_false_iff, decide_eq_false_iff_not]
              rw [not_or] at c1
              exact ⟨⟨c1, by omega⟩, by omega⟩
            rw [if_neg (by simpa using c2)]
            rw [run_bindE (run_askRoom P w _), run_bindE (run_size (n := i.size) (by simp [asize, hi]))]
            by_cases hn : cp.toNat * i.size = 0
            · have : row = #[] := by simp [row, hn]
              simp only [hn, if_true]
              rw [run_bindE (a := #[]) (w' := w) rfl]
              rw [run_bindE run_newRow, this]; simp [show Array.range 0 = #[] from rfl]
            · rw [if_neg hn]
              rw [run_bindE (run_zero hi hzz), run_bindE (a := z.cells) (w' := w) rfl]
              rw [run_bindE run_newRow]; rfl
          have hlen : ((List.replicate cp.toNat z.cells.toList).flatten).length = row.size := by
            rw [rows_len]; simp [row, hsz]
          obtain ⟨g', R', E', ha, hroom, hes⟩ := new_sound R row e (List.replicate cp.toNat z.cells.toList).flatten i.size (by omega) (fun j x hj => by
            rw [rows_get] at hj
            split at hj
            · rename_i hlt
              simp only [Option.some.injEq] at hj; subst hj
              have hlt' : j < cp.toNat * i.size := by rw [← hsz]; exact hlt
              refine ⟨z.cells[j % z.cells.size]!, by simp [row, hlt'], ?_⟩
              have hm : j % z.cells.size < z.cells.size := Nat.mod_lt _ (by
                rcases Nat.eq_zero_or_pos z.cells.size with h0 | h0
                · rw [h0] at hlt; simp at hlt
                · exact h0)
              exact (allPlain_LR hp).2 (j % z.cells.size) _ _ (by simp [hm]) (by simp [hm])
            · simp at hj)
          refine ⟨_, _, g', .inl (run_v hrun), .sliK _ _ ha (by unfold gcap; omega), R', E'⟩
        · simp at he
      · simp at he
    · simp [aop] at he
  · simp [aop] at he

/-! cutting -/

theorem asliceBound_some {x y : Value} {n l : Nat} (hx : VRel g x y) (hb : asliceBound x n = some l) : ∃ k i, y = .int k i ∧ 0 ≤ i ∧ i ≤ (n : Int) ∧ i.toNat = l := by
  unfold asliceBound at hb
  split at hb
  · rename_i k i
    split at hb
    · rename_i hc
      simp only [Option.some.injEq] at hb
      exact ⟨k, i, rel_int hx, hc.1, hc.2, hb⟩
    · simp at hb
  · simp at hb

theorem run_sliceBound {k : IntKind} {i : Int} {n : Nat} {code : BoundsCode} (h0 : 0 ≤ i) (h1 : i ≤ (n : Int)) : (Instr.sliceBound (.int k i) n code).run P w = .ok i.toNat w := by
  unfold Instr.sliceBound
  rw [run_bindE (a := (k, i)) (w' := w) rfl]
  simp only [h0, h1, and_self, if_true]
  rfl

def ORel (g : Ghost) : Option Value → Option Value → Prop
  | none, none => True
  | some x, some y => VRel g x y
  | _, _ => False

theorem ORel.map {o : Option Operand} (hh : ∀ x, o = some x → VRel g (ρ x) (ρ' x)) : ORel g (o.map ρ) (o.map ρ') := by
  cases o with
  | none => trivial
  | some x => exact hh x rfl

theorem run_bounds {b : Bool} {len cap m u l : Nat} {lo hi mx lo' hi' mx' : Option Value} (hlo : ORel g lo lo') (hhi : ORel g hi hi') (hmx : ORel g mx mx') (h3 : ¬ (mx.isSome && hi.isNone) = true)
    (hm : optBound mx cap cap = some m) (hu : optBound hi m len = some u) (hl : optBound lo u 0 = some l) :
    (Instr.sliceBounds b len cap lo' hi' mx').run P w = .ok (l, u, m) w := by
  have key : ∀ {x x' : Option Value} {n d z : Nat}, ORel g x x' → optBound x n d = some z → (x = none ∧ x' = none ∧ z = d) ∨ ∃ k i, x.isSome = true ∧ x' = some (.int k i) ∧ 0 ≤ i ∧ i ≤ (n : Int) ∧ i.toNat = z := by
    intro x x' n d z hr hb
    cases x <;> cases x' <;> simp only [ORel] at hr
    · simp [optBound] at hb; exact .inl ⟨rfl, rfl, hb.symm⟩
    · simp only [optBound] at hb
      obtain ⟨k, i, rfl, h0, h1, h2⟩ := asliceBound_some hr hb
      exact .inr ⟨k, i, rfl, rfl, h0, h1, h2⟩
  unfold Instr.sliceBounds
  rcases key hmx hm with ⟨e1, rfl, rfl⟩ | ⟨k1, i1, e1, rfl, a1, b1, c1⟩ <;> rcases key hhi hu with ⟨e2, rfl, rfl⟩ | ⟨k2, i2, e2, rfl, a2, b2, c2⟩ <;> rcases key hlo hl with ⟨e3, rfl, rfl⟩ | ⟨k3, i3, e3, rfl, a3, b3, c3⟩
  all_goals first
    | (exfalso; subst e2; rw [e1] at h3; simp at h3; done)
    | simp_all [run_sliceBound]

theorem os_slcStr (R : Rel P B g h w) {t : TypeId} {x : Operand} {lo hi : Option Operand} (hu : P.underlying t = some .string) (hx : VRel g (ρ x) (ρ' x)) (hlo : ORel g (lo.map ρ) (lo.map ρ')) (hhi : ORel g (hi.map ρ) (hi.map ρ')) {res : ARes}
    (he : aop P h ρ (.slcStr t x lo hi) = some res) : OpS P B g w (do pure (.value (← Instr.sliceAt t (ρ' x) (lo.map ρ') (hi.map ρ') none))) res := by
  simp only [aop] at he
  split at he
  · rename_i s e
    rw [e] at hx; rw [rel_string hx]
    split at he
    · simp at he
    · rename_i u hub
      split at he
      · simp at he
      · rename_i l hlb
        simp only [Option.some.injEq] at he; subst he
        refine OpS.sameV R (y := .string (s.extract l u)) ?_ (.string _)
        unfold Instr.sliceAt
        rw [run_bindE (run_und hu)]
        simp only
        unfold Instr.slice
        rw [run_bindE (run_und hu)]
        simp only [Option.isSome_none, Bool.false_eq_true, if_false]
        have := run_bounds (P := P) (w := w) (b := false) (cap := s.size) (mx := none) (mx' := none) hlo hhi trivial (by simp) rfl hub hlb
        rw [run_bindE this]; rfl
  · simp at he

theorem os_slcArr (R : Rel P B g h w) {t e : TypeId} {n es : Nat} {x : Operand} {lo hi mx : Option Operand} (hu : P.underlying t = some (.array n e)) (hs : asize P e = some es) (hx : VRel g (ρ x) (ρ' x)) (hlo : ORel g (lo.map ρ) (lo.map ρ')) (hhi : ORel g (hi.map ρ) (hi.map ρ')) (hmx : ORel g (mx.map ρ) (mx.map ρ')) {res : ARes}
    (hn : n < gcap) (he : aop P h ρ (.slcArr n es x lo hi mx) = some res) : OpS P B g w (do pure (.value (← Instr.sliceAt t (ρ' x) (lo.map ρ') (hi.map ρ') (mx.map ρ')))) res := by
  simp only [aop] at he
  split at he
  · rename_i a e1
    rw [e1] at hx; obtain ⟨r, hr, har⟩ := rel_ptr hx
    obtain ⟨v, hv, rfl⟩ := toVal_some he
    unfold cutK at hv
    split at hv
    · simp at hv
    · rename_i m hm
      split at hv
      · simp at hv
      · rename_i h3
        split at hv
        · simp at hv
        · rename_i u hub
          split at hv
          · simp at hv
          · rename_i l hlb
            simp only [Option.some.injEq] at hv; subst hv
            have hmn : m ≤ n := by
              cases hmx' : mx with
              | none => rw [hmx'] at hm; simp [optBound] at hm; omega
              | some z =>
                rw [hmx'] at hm hmx; simp only [Option.map_some, optBound] at hm
                obtain ⟨k, i, _, h0, h1, h2⟩ := asliceBound_some (y := ρ' z) hmx hm
                omega
            refine OpS.sameV R (y := .slice (some (if m = l then r else r.add (l * es))) (u - l) (m - l)) ?_ ?_
            · rw [hr]; unfold Instr.sliceAt
              rw [run_bindE (run_und hu)]
              simp only
              rw [run_bindE (a := r) (w' := w) rfl]
              have := run_bounds (P := P) (w := w) (b := false) (len := n) hlo hhi hmx (by simpa using h3) hm hub hlb
              rw [run_bindE this]
              simp only
              rw [run_bindE (run_size hs)]; rfl
            · split
              · exact .sliK _ _ har (by omega)
              · exact .sliK _ _ (har.add _) (by omega)
  · simp at he

theorem run_slice {t e : TypeId} {es : Nat} (hu : P.underlying t = some (.slice e)) (hs : asize P e = some es) {a : Option Addr} {len cap m u l : Nat} {lo hi mx lo' hi' mx' : Option Value} (hlo : ORel g lo lo') (hhi : ORel g hi hi') (hmx : ORel g mx mx') (h3 : ¬ (mx.isSome && hi.isNone) = true)
    (hm : optBound mx cap cap = some m) (hub : optBound hi m len = some u) (hl : optBound lo u 0 = some l) :
    (Instr.sliceAt t (.slice a len cap) lo' hi' mx').run P w = .ok (.slice (if m = l then a else a.map (·.add (l * es))) (u - l) (m - l)) w := by
  unfold Instr.sliceAt
  rw [run_bindE (run_und hu)]
  simp only
  unfold Instr.slice
  rw [run_bindE (run_und hu)]
  simp only
  rw [run_bindE (run_bounds hlo hhi hmx h3 hm hub hl)]
  simp only
  rw [run_bindE (run_size hs)]
  rfl

theorem cutK_some {es : Nat} {a : Option Addr} {len cap : Nat} {lo hi mx : Option Value} {v : Value} (hv : cutK es a len cap lo hi mx = some v) :
    ∃ m u l, optBound mx cap cap = some m ∧ ¬ (mx.isSome && hi.isNone) = true ∧ optBound hi m len = some u ∧ optBound lo u 0 = some l ∧ v = .slice (if m = l then a else a.map (aadd · (l * es))) (u - l) (m - l) := by
  unfold cutK at hv
  split at hv
  · simp at hv
  · rename_i m hm
    split at hv
    · simp at hv
    · rename_i h3
      split at hv
      · simp at hv
      · rename_i u hub
        split at hv
        · simp at hv
        · rename_i l hlb
          simp only [Option.some.injEq] at hv
          exact ⟨m, u, l, hm, h3, hub, hlb, hv.symm⟩

theorem optBound_le {x x' : Option Value} (hr : ORel g x x') {n d z : Nat} (hd : d ≤ n) (hb : optBound x n d = some z) : z ≤ n := by
  cases x with
  | none => simp [optBound] at hb; omega
  | some v =>
    cases x' with
    | none => exact hr.elim
    | some v' =>
      simp only [optBound] at hb
      obtain ⟨k, i, _, h0, h1, h2⟩ := asliceBound_some hr hb
      omega

theorem asliceBound_mono {x : Value} {n n' z : Nat} (hb : asliceBound x n = some z) (hz : z ≤ n') : asliceBound x n' = some z := by
  unfold asliceBound at hb ⊢
  split at hb
  · split at hb
    · rename_i hc
      simp only [Option.some.injEq] at hb
      rw [if_pos ⟨hc.1, by omega⟩, hb]
    · simp at hb
  · simp at hb

theorem topOf_le (R : Rel P B g h w) {a r : Addr} (ha : ARel g a r) {es len rc : Nat} (hl : len ≤ rc) (hr : ∀ v, a.spot = some v → a.off + rc * g.es a.block = g.room a.block v) : topOf h es a len ≤ rc := by
  unfold topOf
  split
  · exact hl
  · rename_i v hv
    split
    · rename_i k hk
      split
      · rename_i hc
        obtain ⟨h1, h2, h3, h4⟩ := hc
        have K := R.blk _ _ hk
        have hsz : k.sizes[v]? = some k.cells.length := by rw [← K.last]; congr 1; omega
        obtain ⟨r', c, e, f, hm, hh, hf, hroom, hle, _⟩ := K.at_ v _ h4 hsz
        have e1 := hr v hv
        rw [K.es, h2] at e1
        have : k.cells.length - a.off ≤ rc * es := by omega
        exact Nat.div_le_of_le_mul (by rw [Nat.mul_comm]; exact this)
      · exact hl
    · exact hl

theorem os_slc (R : Rel P B g h w) {t e : TypeId} {es : Nat} {x : Operand} {lo hi mx : Option Operand} (hu : P.underlying t = some (.slice e)) (hs : asize P e = some es) (hx : VRel g (ρ x) (ρ' x)) (hlo : ORel g (lo.map ρ) (lo.map ρ')) (hhi : ORel g (hi.map ρ) (hi.map ρ')) (hmx : ORel g (mx.map ρ) (mx.map ρ')) {res : ARes}
    (he : aop P h ρ (.slc es x lo hi mx) = some res) : OpS P B g w (do pure (.value (← Instr.sliceAt t (ρ' x) (lo.map ρ') (hi.map ρ') (mx.map ρ')))) res := by
  simp only [aop] at he
  obtain ⟨v, hv, rfl⟩ := toVal_some he
  unfold aslice at hv
  split at hv
  · rename_i len cap e1
    rw [e1] at hx; rw [rel_none_slice hx]
    split at hv
    · rename_i h0
      obtain ⟨m, u, l, hm, h3, hub, hl, rfl⟩ := cutK_some hv
      refine OpS.sameV R (run_slice hu hs hlo hhi hmx h3 hm hub hl) ?_
      have : (if m = l then (none : Option Addr) else none.map (aadd · (l * es))) = none := by split <;> rfl
      rw [this]
      have : (if m = l then (none : Option Addr) else none.map (fun z : Addr => z.add (l * es))) = none := by split <;> rfl
      rw [this]
      exact .sliN _ _
    · simp at hv
  · rename_i a len cap e1
    rw [e1] at hx
    obtain ⟨r, rc, hr, h1, h2, hg⟩ := rel_slice hx
    rw [hr]
    split at hv
    · rename_i hc
      have har : ARel g a r := by rcases h1 with ⟨_, h1⟩ | h1; omega; exact h1
      have := h2 hc; subst this
      obtain ⟨m, u, l, hm, h3, hub, hl, rfl⟩ := cutK_some hv
      refine OpS.sameV R (run_slice hu hs hlo hhi hmx h3 hm hub hl) ?_
      have hmn := optBound_le hmx (Nat.le_refl _) hm
      split
      · exact .sliK _ _ har (by omega)
      · exact .sliK _ _ (har.add _) (by omega)
    · rename_i hc
      split at hv
      · simp at hv
      · rename_i hmn
        have hmx0 : mx = none := by cases mx <;> simp_all
        subst hmx0
        split at hv
        · rename_i hne
          split at hv
          · rename_i hno
            simp only [Option.some.injEq] at hv; subst hv
            have hi0 : hi = none := by cases hi <;> simp_all
            have lo0 : lo = none := by cases lo <;> simp_all
            subst hi0; subst lo0
            refine OpS.sameV R (run_slice (g := g) (lo := none) (hi := none) (mx := none) hu hs trivial trivial trivial (by simp) (m := rc) (u := len) (l := 0) rfl rfl rfl) ?_
            have e5 : (if rc = 0 then some r else (some r).map (·.add (0 * es))) = some r := by split <;> simp [Addr.add]
            rw [e5]
            simp only [Nat.sub_zero]
            rw [hr] at hx
            rw [e1]; exact hx
          · simp at hv
        · rename_i hge
          have hcg : cap = gcap := by simpa using hge
          obtain ⟨hlen, hroom⟩ := hg hcg
          have har : ARel g a r := by rcases h1 with ⟨_, h1⟩ | h1; omega; exact h1
          split at hv
          · simp at hv
          · rename_i u hub
            split at hv
            · simp at hv
            · rename_i l hl
              have hur : optBound (hi.map ρ) rc len = some u ∧ u ≤ rc := by
                cases hi with
                | none => simp [optBound] at hub; subst hub; exact ⟨rfl, hlen⟩
                | some z =>
                  simp only [Option.map_some, optBound, Option.isNone_some, Bool.false_eq_true, if_false] at hub ⊢
                  obtain ⟨k, i, _, h0, h1', h2'⟩ := asliceBound_some (hhi : VRel g (ρ z) (ρ' z)) hub
                  have ht := topOf_le R har (es := es) hlen hroom
                  have : u ≤ rc := by omega
                  exact ⟨asliceBound_mono hub this, this⟩
              have hlu := optBound_le hlo (Nat.zero_le _) hl
              refine OpS.sameV R (run_slice (g := g) (mx := none) hu hs hlo hhi trivial (by simp) (m := rc) rfl hur.1 hl) ?_
              split at hv
              · rename_i hl0
                simp only [Option.some.injEq] at hv; subst hv; subst hl0
                have : (if rc = 0 then some r else (some r).map (·.add (0 * es))) = some r := by split <;> simp [Addr.add]
                rw [this]
                exact .sliU _ _ har (by omega) (by simpa using hroom)
              · rename_i hl0
                split at hv
                · rename_i hlt
                  split at hv
                  · rename_i hes
                    simp only [Option.some.injEq] at hv; subst hv
                    rw [if_neg (by omega)]
                    refine .sliU _ _ (har.add _) (by omega) fun v hv => ?_
                    have hv' : a.spot = some v := hv
                    have e2 := hroom v hv'
                    have e3 : g.es a.block = es := by
                      unfold esOk at hes
                      rw [hv'] at hes
                      simp only at hes
                      cases hk : h.dyn[a.block]? with
                      | none => simp [hk] at hes
                      | some k => simp [hk] at hes; rw [(R.blk _ _ hk).es, hes]
                    show a.off + l * es + (rc - l) * g.es a.block = g.room a.block v
                    rw [e3] at e2 ⊢
                    rw [← e2, Nat.sub_mul]
                    have : l * es ≤ rc * es := Nat.mul_le_mul_right _ (by omega)
                    omega
                  · simp at hv
                · rename_i hlt
                  simp only [Option.some.injEq] at hv; subst hv
                  have : u - l = 0 := by omega
                  rw [this]
                  split
                  · exact .sliE _ _
                  · exact .sliE _ _
  · simp at hv

end

end Go.Ax

/- An abstract machine for Go programs: its operations against the model's (literals, asserted types, builtins). -/
namespace Go.Ax
set_option linter.unusedVariables false
set_option linter.unusedSimpArgs false

section
variable {P : Program} {B : Nat} {g : Ghost} {h : Heap} {w : World} {ρ ρ' : Operand → Value}

theorem fold_get (off : Nat) : ∀ (l : List Value) (k : Nat) (cells : Array Value) (i : Nat),
    ((l.zipIdx k).foldl (fun cs (c, j) => cs.setIfInBounds (off + j) c) cells)[i]? = if off + k ≤ i ∧ i < off + k + l.length ∧ i < cells.size then l[i - off - k]? else cells[i]? := by
  intro l
  induction l with
  | nil => intro k cells i; simp; intro h1 h2; omega
  | cons x l ih =>
    intro k cells i
    rw [List.zipIdx_cons, List.foldl_cons, ih]
    simp only [Array.size_setIfInBounds, List.length_cons]
    by_cases h1 : off + (k + 1) ≤ i ∧ i < off + (k + 1) + l.length ∧ i < cells.size
    · rw [if_pos h1, if_pos ⟨by omega, by omega, h1.2.2⟩]
      have : i - off - k = (i - off - (k + 1)) + 1 := by omega
      rw [this]; simp
    · rw [if_neg h1, Array.getElem?_setIfInBounds]
      by_cases h2 : off + k = i
      · rw [if_pos h2]
        by_cases h3 : i < cells.size
        · rw [if_pos (by omega), if_pos ⟨by omega, by omega, h3⟩]
          have : i - off - k = 0 := by omega
          rw [this]; rfl
        · rw [if_neg (by omega), if_neg (by omega), Array.getElem?_eq_none (by omega)]
      · rw [if_neg h2, if_neg (by omega)]

theorem fold_size (off : Nat) : ∀ (l : List Value) (k : Nat) (cells : Array Value), ((l.zipIdx k).foldl (fun cs (c, j) => cs.setIfInBounds (off + j) c) cells).size = cells.size := by
  intro l
  induction l with
  | nil => intro k cells; rfl
  | cons x l ih => intro k cells; rw [List.zipIdx_cons, List.foldl_cons, ih]; simp

theorem fill_sound {place : Nat → Option (Nat × Nat)} : ∀ (parts : List (Nat × Operand)) (l : List (Nat × Nat × Operand)) (hp : partsOf place parts = some l) (hρ : ∀ p ∈ parts, VRel g (ρ p.2) (ρ' p.2))
    (cells : List Value) (cells' : Array Value) (hc : LR g cells cells'.toList) (r : List Value) (hf : fillL cells (l.map fun (o, s, x) => (o, s, ρ x)) = some r),
    ∃ r', Instr.fill place cells' (parts.map fun (i, x) => (i, ρ' x)) = some r' ∧ LR g r r'.toList := by
  intro parts
  induction parts with
  | nil =>
    intro l hp hρ cells cells' hc r hf
    simp [partsOf] at hp; subst hp
    simp [fillL] at hf; subst hf
    exact ⟨cells', rfl, hc⟩
  | cons p parts ih =>
    intro l hp hρ cells cells' hc r hf
    obtain ⟨i, x⟩ := p
    unfold partsOf at hp
    split at hp
    · rename_i o s l' h1 h2
      simp only [Option.some.injEq] at hp; subst hp
      simp only [List.map_cons, fillL] at hf
      split at hf
      · simp at hf
      · rename_i hn
        simp only [not_or, Bool.not_eq_false, ne_eq, Decidable.not_not] at hn
        obtain ⟨n1, n2, n3⟩ := hn
        have hv : VRel g (ρ x) (ρ' x) := hρ (i, x) (by simp)
        have hl := cells_rel hv n1
        have hs : (ρ' x).cells.size = s := by have := hl.1; simp at this; omega
        have hcs : cells'.size = cells.length := by have := hc.1; simp at this; omega
        let c2 := ((ρ' x).cells.toList.zipIdx 0).foldl (fun cs (c, j) => cs.setIfInBounds (o + j) c) cells'
        have hc2 : LR g (cells.take o ++ (ρ x).cells.toList ++ cells.drop (o + s)) c2.toList := by
          have hlen : (cells.take o ++ (ρ x).cells.toList ++ cells.drop (o + s)).length = c2.toList.length := by
            simp only [List.length_append, List.length_take, List.length_drop, Array.length_toList, c2, fold_size]; omega
          refine ⟨hlen, fun j a b ha hb => ?_⟩
          have hb' : c2[j]? = some b := by simpa using hb
          rw [fold_get] at hb'
          simp only [Array.length_toList, Nat.add_zero, Nat.sub_zero] at hb'
          by_cases hj : j < o
          · rw [if_neg (by omega)] at hb'
            rw [List.append_assoc, List.getElem?_append_left (by simp; omega), List.getElem?_take_of_lt hj] at ha
            exact hc.2 j a b ha (by simpa using hb')
          · by_cases hj2 : j < o + s
            · rw [if_pos ⟨by omega, by omega, by omega⟩] at hb'
              rw [List.append_assoc, List.getElem?_append_right (by simp; omega), List.getElem?_append_left (by simp; omega)] at ha
              simp only [List.length_take] at ha
              rw [show min o cells.length = o by omega] at ha
              exact hl.2 _ a b ha hb'
            · rw [if_neg (by omega)] at hb'
              rw [List.getElem?_append_right (by simp; omega), List.getElem?_drop] at ha
              simp only [List.length_append, List.length_take, Array.length_toList] at ha
              rw [show o + s + (j - (min o cells.length + (ρ x).cells.size)) = j by omega] at ha
              exact hc.2 j a b ha (by simpa using hb')
        obtain ⟨r', hr', hlr⟩ := ih l' h2 (fun p hp => hρ p (List.mem_cons_of_mem _ hp)) _ c2 hc2 r hf
        refine ⟨r', ?_, hlr⟩
        simp only [List.map_cons, Instr.fill, h1]
        rw [if_neg (by simp [hs]; omega)]
        rw [← hr']
        congr 1
        simp only [c2, ← Array.foldl_toList, Array.toList_zipIdx]
    · simp at hp

theorem run_places : ∀ {fs : List Field} {pl : List (Nat × Nat)}, placesOf P fs = some pl → (fs.mapM fun f => (do pure (f.offset, ← sizeOf f.type) : Sem (Nat × Nat))).run P w = .ok pl w := by
  intro fs
  induction fs with
  | nil => intro pl hp; simp [placesOf] at hp; subst hp; simp
  | cons f fs ih =>
    intro pl hp
    unfold placesOf at hp
    split at hp
    · rename_i s l h1 h2
      simp only [Option.some.injEq] at hp; subst hp
      rw [List.mapM_cons, run_bindE (a := (f.offset, s)) (w' := w) (by rw [run_bindE (run_size h1)]; rfl), run_bindE (ih h2)]
      rfl
    · simp at hp

theorem os_build (R : Rel P B g h w) {t : TypeId} {parts : Array (Nat × Operand)} (hρ : ∀ p ∈ parts, VRel g (ρ p.2) (ρ' p.2)) {res : ARes} (he : aop P h ρ (compOp P (.build t parts)) = some res) :
    OpS P B g w (do pure (.value (← Instr.build t (parts.map fun (i, x) => (i, ρ' x))))) res := by
  simp only [compOp] at he
  have hρ' : ∀ p ∈ parts.toList, VRel g (ρ p.2) (ρ' p.2) := fun p hp => hρ p (by simpa using hp)
  have hpl : (parts.map fun (i, x) => (i, ρ' x)).toList = parts.toList.map fun (i, x) => (i, ρ' x) := by simp
  split at he
  · rename_i fields zl hu hz
    obtain ⟨i, z, hi, hzz, rfl, hp⟩ := zeroOf_some hz
    split at he
    · rename_i pl hpl'
      split at he
      · rename_i l hl
        simp only [aop] at he
        split at he
        · rename_i r hr
          simp only [Option.some.injEq] at he; subst he
          obtain ⟨r', hr', hlr⟩ := fill_sound parts.toList l hl hρ' _ z.cells (allPlain_LR hp) r hr
          refine OpS.sameV R (y := .agg r') ?_ (.agg (by simpa using hlr.1) fun j a b ha hb => hlr.2 j a b (by simpa using ha) (by simpa using hb))
          unfold Instr.build
          rw [run_bindE (run_zero hi hzz), run_bindE (run_und hu)]
          simp only
          have : (fields.mapM fun f => (do pure (f.offset, ← sizeOf f.type) : Sem (Nat × Nat))).run P w = .ok pl.toArray w := by
            rw [Array.mapM_eq_mapM_toList, Sem.run_map, run_places hpl']; rfl
          rw [run_bindE this, hpl]
          simp only [List.getElem?_toArray, hr']
          rfl
        · simp at he
      · simp [aop] at he
    · simp [aop] at he
  · rename_i n e zl hu hz
    obtain ⟨i, z, hi, hzz, rfl, hp⟩ := zeroOf_some hz
    split at he
    · rename_i s hs
      split at he
      · rename_i l hl
        simp only [aop] at he
        split at he
        · rename_i r hr
          simp only [Option.some.injEq] at he; subst he
          obtain ⟨r', hr', hlr⟩ := fill_sound parts.toList l hl hρ' _ z.cells (allPlain_LR hp) r hr
          refine OpS.sameV R (y := .agg r') ?_ (.agg (by simpa using hlr.1) fun j a b ha hb => hlr.2 j a b (by simpa using ha) (by simpa using hb))
          unfold Instr.build
          rw [run_bindE (run_zero hi hzz), run_bindE (run_und hu)]
          simp only
          rw [run_bindE (run_size hs), hpl, hr']
          rfl
        · simp at he
      · simp [aop] at he
    · simp [aop] at he
  · simp [aop] at he

theorem os_lit (R : Rel P B g h w) {t : TypeId} {len : Nat} {parts : Array (Nat × Operand)} (hρ : ∀ p ∈ parts, VRel g (ρ p.2) (ρ' p.2)) {res : ARes} (he : aop P h ρ (compOp P (.buildSlice t len parts)) = some res) :
    OpS P B g w (do pure (.value (← Instr.buildSlice t len (parts.map fun (i, x) => (i, ρ' x))))) res := by
  simp only [compOp] at he
  have hρ' : ∀ p ∈ parts.toList, VRel g (ρ p.2) (ρ' p.2) := fun p hp => hρ p (by simpa using hp)
  have hpl : (parts.map fun (i, x) => (i, ρ' x)).toList = parts.toList.map fun (i, x) => (i, ρ' x) := by simp
  split at he
  · rename_i e hu
    split at he
    · rename_i s zl hs hz
      obtain ⟨i, z, hi, hzz, rfl, hp⟩ := zeroOf_some hz
      split at he
      · rename_i hcnd
        have hsz : z.cells.size = s := by simpa using hcnd.2.1
        split at he
        · rename_i l hl
          simp only [aop] at he
          split at he
          · rename_i r hr
            simp only [Option.some.injEq] at he; subst he
            let row : Array Value := (Array.range (len * s)).map (z.cells[· % z.cells.size]!)
            have hrow : LR g (List.replicate len z.cells.toList).flatten row.toList := by
              refine ⟨by rw [rows_len]; simp [row, hsz], fun j a b ha hb => ?_⟩
              rw [rows_get] at ha
              split at ha
              · rename_i hlt
                simp only [Option.some.injEq] at ha; subst ha
                have hlt' : j < len * s := by rw [← hsz]; exact hlt
                have hb' : row[j]? = some b := by simpa using hb
                simp [row, hlt'] at hb'
                subst hb'
                have hm : j % z.cells.size < z.cells.size := Nat.mod_lt _ (by
                  rcases Nat.eq_zero_or_pos z.cells.size with h0 | h0
                  · rw [h0] at hlt; simp at hlt
                  · exact h0)
                exact (allPlain_LR hp).2 (j % z.cells.size) _ _ (by simp [hm]) (by simp [hm])
              · simp at ha
            obtain ⟨r', hr', hlr⟩ := fill_sound parts.toList l hl hρ' _ row hrow r hr
            obtain ⟨g', R', E', ha, _, _⟩ := new_sound R r' e r s (by have := hlr.1; simp at this; omega) hlr.getc
            have hrun : (Instr.buildSlice t len (parts.map fun (i, x) => (i, ρ' x))).run P w = .ok (.slice (some ⟨w.heap.size, 0, none⟩) len len) (w.alloc (.cells r' e)) := by
              unfold Instr.buildSlice
              rw [run_bindE (run_und hu)]
              simp only
              rw [run_bindE (run_size hs)]
              rw [if_neg (by omega)]
              by_cases hn : len * s = 0
              · simp only [hn, if_true]
                rw [run_bindE (a := #[]) (w' := w) rfl]
                have h0 : row = #[] := by simp [row, hn]
                rw [h0] at hr'
                rw [hpl]
                simp only [show Array.range 0 = #[] from rfl, Array.map_empty, hr']
                rw [run_bindE run_newRow]; rfl
              · rw [if_neg hn, run_bindE (run_zero hi hzz), run_bindE (a := z.cells) (w' := w) rfl, hpl]
                have : Instr.fill (fun i => some (i * s, s)) ((Array.range (len * s)).map fun x => z.cells[x % z.cells.size]!) (parts.toList.map fun (i, x) => (i, ρ' x)) = some r' := hr'
                simp only [this]
                rw [run_bindE run_newRow]; rfl
            refine ⟨_, _, g', .inl (run_v hrun), .sliK _ _ ha ?_, R', E'⟩
            have := hcnd.2.2
            exact this
          · simp at he
        · simp [aop] at he
      · simp [aop] at he
    · simp [aop] at he
  · simp [aop] at he

end

end Go.Ax
