/- An abstract machine for Go programs: its operations against the model's (conversions, addresses, parts). -/
import Derived.Test.YtpemffaclmpnnaaDoorXP
namespace Go.Ax
set_option linter.unusedVariables false
set_option linter.unusedSimpArgs false

section
variable {P : Program} {B : Nat} {g : Ghost} {h : Heap} {w : World} {ρ ρ' : Operand → Value}

theorem os_un (R : Rel P B g h w) {op : UnOp} {t : TypeId} {x : Operand} (hx : VRel g (ρ x) (ρ' x)) {res : ARes} (he : aop P h ρ (compOp P (.unOp op t x)) = some res) :
    OpS P B g w (do pure (.value (← Op.unary op (ρ' x)))) res := by
  simp only [compOp, aop] at he
  obtain ⟨v, hv, rfl⟩ := toVal_some he
  unfold aun at hv
  split at hv
  · rename_i k n e
    rw [e] at hx; rw [rel_int hx]
    simp only [Option.some.injEq] at hv; subst hv
    exact OpS.sameV R rfl (.int _ _)
  · rename_i k n e
    rw [e] at hx; rw [rel_int hx]
    simp only [abin, Option.some.injEq] at hv; subst hv
    exact OpS.sameV R rfl (.int _ _)
  · rename_i b e
    rw [e] at hx; rw [rel_bool hx]
    simp only [Option.some.injEq] at hv; subst hv
    exact OpS.sameV R rfl (.bool _)
  · split at hv
    · rename_i hp
      rw [plain_eq hp hx]
      obtain ⟨hr, hpl⟩ := pures_run (w := w) hv
      exact OpS.sameV R hr (plain_refl hpl)
    · simp at hv

theorem bytes_get {s : ByteArray} {n : Nat} : s[n]? = s.data[n]? := by
  by_cases hn : n < s.size
  · rw [getElem?_pos s n hn, Array.getElem?_eq_getElem (show n < s.data.size from hn)]; rfl
  · rw [getElem?_neg s n hn, Array.getElem?_eq_none (show s.data.size ≤ n from Nat.le_of_not_lt hn)]

theorem rel_none_slice {l c : Nat} {y : Value} (h : VRel g (.slice none l c) y) : y = .slice none l c := by cases h; rfl
theorem rel_slice {a : Addr} {l c : Nat} {y : Value} (h : VRel g (.slice (some a) l c) y) : ∃ r rc, y = .slice (some r) l rc ∧ ((l = 0 ∧ c = gcap + 1) ∨ ARel g a r) ∧ (c < gcap → rc = c) ∧
    (c = gcap → l ≤ rc ∧ ∀ v, a.spot = some v → a.off + rc * g.es a.block = g.room a.block v) := by
  cases h with
  | sliK len cap h hc => exact ⟨_, _, rfl, .inr h, fun _ => rfl, fun e => by omega⟩
  | sliU len rcap h hl hr => exact ⟨_, _, rfl, .inr h, fun e => by omega, fun _ => ⟨hl, hr⟩⟩
  | sliE r rcap => exact ⟨_, _, rfl, .inl ⟨rfl, rfl⟩, fun e => by omega, fun e => by omega⟩
theorem rel_agg {a : Array Value} {y : Value} (h : VRel g (.agg a) y) : ∃ b, y = .agg b ∧ a.size = b.size ∧ ∀ (i : Nat) (x y : Value), a[i]? = some x → b[i]? = some y → VRel g x y := by
  cases h; exact ⟨_, rfl, by assumption, by assumption⟩
theorem rel_tuple {a : Array Value} {y : Value} (h : VRel g (.tuple a) y) (hs : a.size ≠ 0) : ∃ b, y = .tuple b ∧ a.size = b.size ∧ ∀ (i : Nat) (x y : Value), a[i]? = some x → b[i]? = some y → VRel g x y := by
  cases h
  · simp [undef] at hs
  · exact ⟨_, rfl, by assumption, by assumption⟩

theorem os_chk (R : Rel P B g h w) {x : Operand} (hx : VRel g (ρ x) (ρ' x)) {o : Oper} (ho : o.op = .nilCheck x) {res : ARes} (he : aop P h ρ (.chk x) = some res) :
    OpS P B g w (execOp ρ' o) res := by
  simp only [aop] at he
  split at he
  · rename_i a e
    rw [e] at hx; obtain ⟨r, hr, har⟩ := rel_ptr hx
    simp only [Option.some.injEq] at he; subst he
    exact OpS.same R (y := .pointer (some r)) (by simp [execOp, ho, hr]) (.ptr har)
  · rename_i t v e
    rw [e] at hx; obtain ⟨u, hu, hv⟩ := rel_iface hx
    simp only [Option.some.injEq] at he; subst he
    exact OpS.same R (y := .iface t u) (by simp [execOp, ho, hu]) (.iface t hv)
  · rename_i f a b e
    rw [e] at hx
    simp only [Option.some.injEq] at he; subst he
    generalize hy : ρ' x = y at hx
    cases hx with
    | func fn hf h1 h2 ha hc => exact OpS.same R (y := .func (.func f) _ _) (by simp [execOp, ho, hy]) (.func _ hf h1 h2 ha hc)
  · rename_i f a b e
    rw [e] at hx
    simp only [Option.some.injEq] at he; subst he
    generalize hy : ρ' x = y at hx
    cases hx with
    | func fn hf h1 h2 ha hc => exact (hf _ rfl).elim
    | yield hl => exact OpS.same R (y := .func (.yield _) #[] #[]) (by simp [execOp, ho, hy]) (.yield hl)
  · simp at he

theorem os_mkI (R : Rel P B g h w) {t : TypeId} {x : Operand} (hx : VRel g (ρ x) (ρ' x)) {res : ARes} (he : aop P h ρ (compOp P (.makeInterface t x)) = some res) :
    OpS P B g w (do pure (.value (← Instr.makeInterface t (ρ' x)))) res := by
  simp only [compOp] at he
  split at he
  · simp [aop] at he
  · rename_i d hn hd
    simp only [aop, Option.some.injEq] at he; subst he
    refine OpS.sameV R (y := .iface t (ρ' x)) ?_ (.iface t hx)
    unfold Instr.makeInterface
    rw [run_bindE (run_und hd)]
    cases d <;> first | rfl | exact (hn _ rfl).elim
  · simp [aop] at he

theorem os_fad (R : Rel P B g h w) {t : TypeId} {x : Operand} {i : Nat} (hx : VRel g (ρ x) (ρ' x)) {res : ARes} (he : aop P h ρ (compOp P (.fieldAddr t x i)) = some res) :
    OpS P B g w (do pure (.value (← Instr.fieldAt t (ρ' x) i))) res := by
  simp only [compOp] at he
  split at he
  · rename_i fields hu
    split at he
    · rename_i f hf
      split at he
      · rename_i s hs
        split at he
        · simp [aop] at he
        · rename_i h0
          simp only [aop] at he
          split at he
          · rename_i a e
            rw [e] at hx; obtain ⟨r, hr, har⟩ := rel_ptr hx
            simp only [Option.some.injEq] at he; subst he
            refine OpS.sameV R (y := .pointer (some (r.add f.offset))) ?_ (.ptr (har.add _))
            unfold Instr.fieldAt
            rw [run_bindE (run_und hu)]
            simp only [hf, hr]
            rw [run_bindE (a := r) (w' := w) rfl]
            have : (fieldPlace r f).run P w = .ok (r.add f.offset) w := by
              unfold fieldPlace
              rw [run_bindE (run_size hs)]
              simp [h0]
            rw [run_bindE this]; rfl
          · simp at he
      · simp [aop] at he
    · simp [aop] at he
  · simp [aop] at he

theorem os_fld (R : Rel P B g h w) {t : TypeId} {x : Operand} {i : Nat} (hx : VRel g (ρ x) (ρ' x)) {res : ARes} (he : aop P h ρ (compOp P (.field t x i)) = some res) :
    OpS P B g w (do pure (.value (← Instr.field t (ρ' x) i))) res := by
  simp only [compOp] at he
  split at he
  · rename_i fields hu
    split at he
    · rename_i f hf
      split at he
      · rename_i q hq
        simp only [aop] at he
        split at he
        · rename_i cs e
          rw [e] at hx; obtain ⟨b, hb, hs, hv⟩ := rel_agg hx
          obtain ⟨v, hv', rfl⟩ := toVal_some he
          obtain ⟨y, hy, hvy⟩ := part_sound (w := w) hq hs hv hv'
          refine OpS.sameV R ?_ hvy
          unfold Instr.field
          rw [run_bindE (run_und hu)]
          simp only [hf, hb]
          rw [run_bindE (a := b) (w' := w) rfl]; exact hy
        · simp at he
      · simp [aop] at he
    · simp [aop] at he
  · simp [aop] at he

theorem os_iad (R : Rel P B g h w) {t : TypeId} {x i : Operand} (hx : VRel g (ρ x) (ρ' x)) (hi : VRel g (ρ i) (ρ' i)) {res : ARes} (he : aop P h ρ (compOp P (.indexAddr t x i)) = some res) :
    OpS P B g w (do pure (.value (← Instr.indexAt t (ρ' x) (ρ' i)))) res := by
  simp only [compOp] at he
  split at he
  · rename_i el hu
    split at he
    · rename_i s hs
      simp only [aop] at he
      split at he
      · rename_i a len cap k i' e1 e2
        split at he
        · rename_i hc
          rw [e1] at hx; rw [e2] at hi
          obtain ⟨r, rc, hr, h1, h2, h3⟩ := rel_slice hx
          rw [rel_int hi]
          simp only [Option.some.injEq] at he; subst he
          rcases h1 with h1 | h1
          · omega
          · refine OpS.sameV R (y := .pointer (some (r.add (i'.toNat * s)))) ?_ (.ptr (h1.add _))
            rw [hr]; unfold Instr.indexAt
            rw [run_bindE (a := (k, i')) (w' := w) rfl]
            simp only [Sem.run_bind, run_und hu, Result.andThen_ok, Sem.run_pure, hc.1, hc.2, and_self, if_true, run_size hs]
        · simp at he
      · simp at he
    · simp [aop] at he
  · rename_i n el hu
    split at he
    · rename_i s hs
      simp only [aop] at he
      split at he
      · rename_i a k i' e1 e2
        split at he
        · rename_i hc
          rw [e1] at hx; rw [e2] at hi
          obtain ⟨r, hr, h1⟩ := rel_ptr hx
          rw [rel_int hi]
          simp only [Option.some.injEq] at he; subst he
          refine OpS.sameV R (y := .pointer (some (r.add (i'.toNat * s)))) ?_ (.ptr (h1.add _))
          rw [hr]; unfold Instr.indexAt
          rw [run_bindE (a := (k, i')) (w' := w) rfl]
          simp only [Sem.run_bind, run_und hu, Result.andThen_ok, Sem.run_pure, Instr.sureAddr, hc.1, hc.2, and_self, if_true, run_size hs]
        · simp at he
      · simp at he
    · simp [aop] at he
  · simp [aop] at he

theorem os_ix (R : Rel P B g h w) {t : TypeId} {x i : Operand} (hx : VRel g (ρ x) (ρ' x)) (hi : VRel g (ρ i) (ρ' i)) {res : ARes} (he : aop P h ρ (compOp P (.index t x i)) = some res) :
    OpS P B g w (do pure (.value (← Instr.index t (ρ' x) (ρ' i)))) res := by
  simp only [compOp] at he
  split at he
  · rename_i hu
    simp only [aop] at he
    split at he
    · rename_i s k i' e1 e2
      split at he
      · rename_i h0
        split at he
        · rename_i b hb
          rw [e1] at hx; rw [e2] at hi
          rw [rel_string hx, rel_int hi]
          simp only [Option.some.injEq] at he; subst he
          refine OpS.sameV R (y := .int .u8 b.toNat) ?_ (.int _ _)
          unfold Instr.index
          rw [run_bindE (a := (k, i')) (w' := w) rfl, run_bindE (run_und hu)]
          have : s[i'.toNat]? = some b := by
            rw [bytes_get]; simpa using hb
          simp [h0, this]
        · simp at he
      · simp at he
    · simp at he
  · rename_i n el hu
    split at he
    · rename_i s q hs hq
      simp only [aop] at he
      split at he
      · rename_i cs k i' e1 e2
        split at he
        · rename_i hc
          rw [e1] at hx; rw [e2] at hi
          obtain ⟨b, hb, hsz, hv⟩ := rel_agg hx
          rw [hb, rel_int hi]
          obtain ⟨v, hv', rfl⟩ := toVal_some he
          obtain ⟨y, hy, hvy⟩ := part_sound (w := w) hq hsz hv hv'
          refine OpS.sameV R ?_ hvy
          unfold Instr.index
          rw [run_bindE (a := (k, i')) (w' := w) rfl, run_bindE (run_und hu)]
          simp only [hc.1, hc.2, and_self, if_true]
          rw [run_bindE (run_size hs)]; exact hy
        · simp at he
      · simp at he
    · simp [aop] at he
  · simp [aop] at he

theorem os_extr (R : Rel P B g h w) {x : Operand} {i : Nat} (hx : VRel g (ρ x) (ρ' x)) {res : ARes} (he : aop P h ρ (.extr x i) = some res) :
    OpS P B g w (do pure (.value (← Instr.extract (ρ' x) i))) res := by
  simp only [aop] at he
  split at he
  · rename_i vs e
    obtain ⟨v, hv, rfl⟩ := toVal_some he
    rw [e] at hx
    have hlt : i < vs.size := by
      rcases Nat.lt_or_ge i vs.size with h' | h'
      · exact h'
      · rw [Array.getElem?_eq_none h'] at hv; simp at hv
    obtain ⟨b, hb, hs, hr⟩ := rel_tuple hx (by omega)
    have hb' : b[i]? = some b[i] := Array.getElem?_eq_getElem (by omega)
    refine OpS.sameV R (y := b[i]) ?_ (hr i v _ hv hb')
    rw [hb]; simp [Instr.extract, hb']
  · simp at he

end

end Go.Ax
