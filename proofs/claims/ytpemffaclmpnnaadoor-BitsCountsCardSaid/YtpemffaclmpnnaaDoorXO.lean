/- An abstract machine for Go programs: its operations against the model's (those that act on values and read memory). -/
import Derived.Test.YtpemffaclmpnnaaDoorXN
import Derived.Laws.Sem
import Derived.Laws.Entries
namespace Go.Ax
set_option linter.unusedVariables false
set_option linter.unusedSimpArgs false

section
variable {P : Program} {w : World}

theorem run_und {t : TypeId} {d : TypeDesc} (h : P.underlying t = some d) : (underlying t).run P w = .ok d w := run_underlying h w

theorem run_info {t : TypeId} {i : TypeInfo} (h : P.info? t = some i) : (typeInfo t).run P w = .ok i w := by
  simp [typeInfo, h]

theorem asize_info {t : TypeId} {n : Nat} (h : asize P t = some n) : ∃ i, P.info? t = some i ∧ i.size = n := by
  unfold asize at h
  cases e : P.info? t with
  | none => simp [e] at h
  | some i => simp [e] at h; exact ⟨i, rfl, h⟩

theorem run_size {t : TypeId} {n : Nat} (h : asize P t = some n) : (sizeOf t).run P w = .ok n w := by
  obtain ⟨i, hi, rfl⟩ := asize_info h
  simp [sizeOf, run_info hi]

theorem run_zero {t : TypeId} {i : TypeInfo} {z : Value} (h : P.info? t = some i) (hz : i.zero = some z) : (zeroValue t).run P w = .ok z w := by
  simp [zeroValue, run_info h, hz]

theorem run_isAgg {t : TypeId} {d : TypeDesc} (h : P.underlying t = some d) : (isAgg t).run P w = .ok (isAggD d) w := by
  cases d <;> simp [isAgg, run_und h, isAggD]

theorem run_newRow {e : TypeId} {c : Array Value} : (newRow e c).run P w = .ok ⟨w.heap.size, 0, none⟩ (w.alloc (.cells c e)) := by
  simp [newRow]

theorem run_newVar {e : TypeId} {v : Value} : (newVar e v).run P w = .ok ⟨w.heap.size, 0, none⟩ (w.alloc (.cells v.cells e)) := run_newRow

theorem aggOf_cases {t : TypeId} {q : Option Nat} (h : aggOf P t = some q) : ∃ d, P.underlying t = some d ∧ ((isAggD d = true ∧ ∃ n, q = some n ∧ asize P t = some n) ∨ (isAggD d = false ∧ q = none)) := by
  unfold aggOf at h
  cases e : P.underlying t with
  | none => simp [e] at h
  | some d =>
    simp only [e] at h
    refine ⟨d, rfl, ?_⟩
    cases hd : isAggD d with
    | true =>
      simp only [hd, if_true] at h
      cases hs : asize P t with
      | none => simp [hs] at h
      | some n => simp [hs] at h; exact .inl ⟨rfl, n, h.symm, rfl⟩
    | false => simp [hd] at h; exact .inr ⟨rfl, h.symm⟩

theorem loadVar_sound {B : Nat} {g : Ghost} {h : Heap} (R : Rel P B g h w) {t : TypeId} {q : Option Nat} (hq : aggOf P t = some q) {a r : Addr} (ha : ARel g a r) {v : Value} (hl : aload h q a = some v) :
    ∃ y, (loadVar t r).run P w = .ok y w ∧ VRel g v y := by
  obtain ⟨d, hd, hc | hc⟩ := aggOf_cases hq
  · obtain ⟨hagg, n, rfl, hn⟩ := hc
    simp only [aload] at hl
    cases hx : loadN h a n with
    | none => simp [hx] at hl
    | some l =>
      simp [hx] at hl; subst hl
      obtain ⟨ys, hlr, hlen, hcells⟩ := loadN_sound R n ha hx
      have hyl : ys.length = n := by rw [← hlr.1]; exact hlen
      refine ⟨.agg ys.toArray, ?_, .agg (by simp [hlr.1]) fun i x y hx hy => hlr.2 i x y (by simpa using hx) (by simpa using hy)⟩
      unfold loadVar
      rw [run_bindE (run_isAgg hd)]
      simp only [hagg, if_true]
      rw [run_bindE (run_size hn), run_bindE (run_loadCells hcells hyl)]
      rfl
  · obtain ⟨hagg, rfl⟩ := hc
    simp only [aload] at hl
    obtain ⟨y, hy, hv⟩ := load_sound R ha hl
    refine ⟨y, ?_, hv⟩
    unfold loadVar
    rw [run_bindE (run_isAgg hd)]
    simp only [hagg]
    exact run_load1 hy

theorem cells_rel {g : Ghost} {x y : Value} (h : VRel g x y) (hg : good x = true) : LR g x.cells.toList y.cells.toList := by
  cases h with
  | top => simp [good, undef] at hg
  | skip => simp [good, skipV] at hg
  | agg hs h => exact ⟨by simpa [Value.cells] using hs, fun i x y hx hy => h i x y (by simpa [Value.cells] using hx) (by simpa [Value.cells] using hy)⟩
  | tuple => simp [good] at hg
  | _ => 
    refine ⟨rfl, fun i x y hx hy => ?_⟩
    simp [Value.cells] at hx hy
    cases i with
    | zero => simp at hx hy; subst hx; subst hy; constructor <;> assumption
    | succ i => simp at hx

theorem part_sound {g : Ghost} {t : TypeId} {q : Option Nat} (hq : aggOf P t = some q) {a b : Array Value} (hs : a.size = b.size) (h : ∀ (i : Nat) (x y : Value), a[i]? = some x → b[i]? = some y → VRel g x y) {off : Nat} {v : Value} (hv : apart q a off = some v) :
    ∃ y, (part t b off).run P w = .ok y w ∧ VRel g v y := by
  obtain ⟨d, hd, hc | hc⟩ := aggOf_cases hq
  · obtain ⟨hagg, n, rfl, hn⟩ := hc
    simp only [apart, Option.some.injEq] at hv; subst hv
    refine ⟨.agg (b.extract off (off + n)), ?_, .agg (by simp [hs]) fun i x y hx hy => ?_⟩
    · unfold part
      rw [run_bindE (run_isAgg hd)]
      simp only [hagg, if_true]
      rw [run_bindE (run_size hn)]; rfl
    · rw [Array.getElem?_extract] at hx hy
      split at hx <;> simp_all
      exact h _ x y hx hy.2
  · obtain ⟨hagg, rfl⟩ := hc
    simp only [apart] at hv
    have hlt : off < a.size := by
      rcases Nat.lt_or_ge off a.size with h' | h'
      · exact h'
      · rw [Array.getElem?_eq_none h'] at hv; simp at hv
    have hb : b[off]? = some b[off] := Array.getElem?_eq_getElem (by omega)
    refine ⟨b[off], ?_, h off v _ hv hb⟩
    unfold part
    rw [run_bindE (run_isAgg hd)]
    simp only [hagg, hb]
    rfl

theorem apure_run {α : Type} {s : Sem α} {a : α} (h : apure P s = some a) : s.run P w = .ok a w := by
  induction s with
  | pure x => simp [apure] at h; subst h; rfl
  | program k ih => simp only [apure] at h; simp only [Sem.run]; exact ih _ h
  | mark m k ih => simp only [apure] at h; simp only [Sem.run]; exact ih h
  | _ => simp [apure] at h

theorem pures_run {s : Sem Value} {v : Value} (h : pures P s = some v) : s.run P w = .ok v w ∧ plain v = true := by
  unfold pures at h
  cases e : apure P s with
  | none => simp [e] at h
  | some x =>
    simp only [e] at h
    split at h
    · rename_i hp; simp only [Option.some.injEq] at h; subst h; exact ⟨apure_run e, hp⟩
    · simp at h

end

/-- What an operation's run comes to. -/
def Val (r : Result Next) (y : Value) (w : World) : Prop := r = .ok (.value y) w ∨ (r = .ok .skip w ∧ y = undef)

def OpS (P : Program) (B : Nat) (g : Ghost) (w : World) (run : Sem Next) : ARes → Prop
  | .val v h' => ∃ y w' g', Val (run.run P w) y w' ∧ VRel g' v y ∧ Rel P B g' h' w' ∧ Ext g w g' w'
  | .call tg args => ∃ args' : Array Value, LR g args args'.toList ∧
      match tg with
      | .fn f => run.run P w = (callFunc f args').run P w
      | .yield l => ∃ r, g.lp l = some r ∧ run.run P w = (Instr.yield r args').run P w

section
variable {P : Program} {B : Nat} {g : Ghost} {h : Heap} {w : World} {ρ ρ' : Operand → Value}

theorem OpS.same (R : Rel P B g h w) {run : Sem Next} {v y : Value} (hr : run.run P w = .ok (.value y) w) (hv : VRel g v y) : OpS P B g w run (.val v h) :=
  ⟨y, w, g, .inl hr, hv, R, Ext.refl g w⟩

theorem run_v {s : Sem Value} {y : Value} {w' : World} (hs : s.run P w = .ok y w') : (do pure (Next.value (← s)) : Sem Next).run P w = .ok (.value y) w' := by
  rw [run_bindE hs]; rfl

theorem run_u {s : Sem Unit} {w' : World} (hs : s.run P w = .ok () w') : (do s; pure Next.skip : Sem Next).run P w = .ok .skip w' := by
  rw [run_bindE hs]; rfl

theorem OpS.sameV (R : Rel P B g h w) {s : Sem Value} {v y : Value} (hr : s.run P w = .ok y w) (hv : VRel g v y) : OpS P B g w (do pure (Next.value (← s))) (.val v h) :=
  OpS.same R (run_v hr) hv

theorem toVal_some {o : Option Value} {res : ARes} (he : toVal h o = some res) : ∃ v, o = some v ∧ res = .val v h := by
  cases o with
  | none => simp [toVal] at he
  | some v => simp [toVal] at he; exact ⟨v, rfl, he.symm⟩

theorem os_move (R : Rel P B g h w) {x : Operand} (hx : VRel g (ρ x) (ρ' x)) {res : ARes} (he : some (ARes.val (ρ x) h) = some res) : OpS P B g w (pure (.value (ρ' x))) res := by
  simp only [Option.some.injEq] at he; subst he
  exact OpS.same R rfl hx

theorem rel_bool {x : Bool} {y : Value} (h : VRel g (.bool x) y) : y = .bool x := by cases h; rfl
theorem rel_int {k : IntKind} {n : Int} {y : Value} (h : VRel g (.int k n) y) : y = .int k n := by cases h; rfl
theorem rel_string {s : ByteArray} {y : Value} (h : VRel g (.string s) y) : y = .string s := by cases h; rfl
theorem rel_ptr {a : Addr} {y : Value} (h : VRel g (.pointer (some a)) y) : ∃ r, y = .pointer (some r) ∧ ARel g a r := by cases h; exact ⟨_, rfl, by assumption⟩
theorem rel_iface {t : TypeId} {v y : Value} (h : VRel g (.iface t v) y) : ∃ u, y = .iface t u ∧ VRel g v u := by cases h; exact ⟨_, rfl, by assumption⟩

theorem os_pick (R : Rel P B g h w) {c a b : Operand} (hc : VRel g (ρ c) (ρ' c)) (ha : VRel g (ρ a) (ρ' a)) (hb : VRel g (ρ b) (ρ' b)) {res : ARes}
    (he : aop P h ρ (.pick c a b) = some res) : OpS P B g w (do pure (.value (if ← asBool (ρ' c) then ρ' a else ρ' b))) res := by
  simp only [aop] at he
  split at he
  · rename_i e
    rw [e] at hc
    simp only [Option.some.injEq] at he; subst he
    exact OpS.same R (by rw [rel_bool hc]; rfl) ha
  · rename_i e
    rw [e] at hc
    simp only [Option.some.injEq] at he; subst he
    exact OpS.same R (by rw [rel_bool hc]; rfl) hb
  · simp at he

theorem allPlain_LR {l : List Value} (hl : allPlain l = true) : LR g l l := by
  unfold allPlain at hl
  rw [List.all_eq_true] at hl
  refine ⟨rfl, fun i x y hx hy => ?_⟩
  rw [hx] at hy; cases hy
  exact plain_refl (hl x (List.mem_of_getElem? hx))

theorem zeroOf_some {t : TypeId} {l : List Value} (hz : zeroOf P t = some l) : ∃ i z, P.info? t = some i ∧ i.zero = some z ∧ z.cells.toList = l ∧ allPlain l = true := by
  unfold zeroOf at hz
  split at hz
  · rename_i i hi
    split at hz
    · rename_i z hzz
      split at hz
      · rename_i hp
        simp only [Option.some.injEq] at hz; subst hz
        exact ⟨i, z, hi, hzz, rfl, hp⟩
      · simp at hz
    · simp at hz
  · simp at hz

theorem LR.getc {xs : List Value} {c : Array Value} (h : LR g xs c.toList) : ∀ (j : Nat) (x : Value), xs[j]? = some x → ∃ y, c[j]? = some y ∧ VRel g x y := by
  intro j x hx
  obtain ⟨y, hy, hv⟩ := h.get hx
  exact ⟨y, by simpa using hy, hv⟩

theorem os_new (R : Rel P B g h w) {t : TypeId} {res : ARes} (he : aop P h ρ (compOp P (.alloc t)) = some res) :
    OpS P B g w (do pure (.value (← Instr.alloc t true (.tuple #[])))) res := by
  simp only [compOp] at he
  split at he
  · rename_i l hz
    obtain ⟨i, z, hi, hzz, rfl, hp⟩ := zeroOf_some hz
    simp only [aop, Option.some.injEq] at he; subst he
    obtain ⟨g', R', E', ha, _, _⟩ := new_sound R z.cells t z.cells.toList 0 (by simp) (allPlain_LR hp).getc
    refine ⟨_, _, g', .inl (run_v (y := .pointer (some ⟨w.heap.size, 0, none⟩)) (w' := w.alloc (.cells z.cells t)) ?_), .ptr ha, R', E'⟩
    unfold Instr.alloc
    rw [run_bindE (run_zero hi hzz)]
    simp only
    rw [run_bindE run_newVar]; rfl
  · simp [aop] at he

theorem os_box (R : Rel P B g h w) {t : TypeId} {x : Operand} (hx : VRel g (ρ x) (ρ' x)) {res : ARes} (he : aop P h ρ (.box x) = some res) :
    OpS P B g w (do pure (.value (← Instr.box t (ρ' x)))) res := by
  simp only [aop] at he
  split at he
  · rename_i hg
    simp only [Option.some.injEq] at he; subst he
    have hl := cells_rel hx hg
    obtain ⟨g', R', E', ha, _, _⟩ := new_sound R (ρ' x).cells t (ρ x).cells.toList 0 (by have := hl.1; simp at this; simp; omega) hl.getc
    refine ⟨_, _, g', .inl (run_v (y := .pointer (some ⟨w.heap.size, 0, none⟩)) (w' := w.alloc (.cells (ρ' x).cells t)) ?_), .ptr ha, R', E'⟩
    unfold Instr.box
    rw [run_bindE run_newVar]; rfl
  · simp at he

theorem os_load (R : Rel P B g h w) {t : TypeId} {x : Operand} (hx : VRel g (ρ x) (ρ' x)) {res : ARes} (he : aop P h ρ (compOp P (.load t x)) = some res) :
    OpS P B g w (do pure (.value (← Instr.loadAt t (ρ' x)))) res := by
  simp only [compOp] at he
  split at he
  · rename_i q hq
    simp only [aop] at he
    split at he
    · rename_i a ha
      rw [ha] at hx
      obtain ⟨r, hr, har⟩ := rel_ptr hx
      obtain ⟨v, hv, rfl⟩ := toVal_some he
      obtain ⟨y, hy, hvy⟩ := loadVar_sound R hq har hv
      refine OpS.sameV R ?_ hvy
      rw [hr]; unfold Instr.loadAt
      rw [run_bindE (a := r) (w' := w) rfl]; exact hy
    · simp at he
  · simp [aop] at he

theorem os_store (R : Rel P B g h w) {t : TypeId} {a x : Operand} (ha : VRel g (ρ a) (ρ' a)) (hx : VRel g (ρ x) (ρ' x)) {res : ARes} (he : aop P h ρ (compOp P (.store t a x)) = some res) :
    OpS P B g w (do Instr.storeAt t (ρ' a) (ρ' x); pure .skip) res := by
  simp only [compOp] at he
  split at he
  · rename_i n hn
    simp only [aop] at he
    split at he
    · rename_i p hp
      rw [hp] at ha
      obtain ⟨r, hr, har⟩ := rel_ptr ha
      split at he
      · rename_i hc
        split at he
        · rename_i h' hs
          simp only [Option.some.injEq] at he; subst he
          have hl := cells_rel hx hc.1
          obtain ⟨w', hrun, R', E'⟩ := storeN_sound _ R har hl hs 0
          refine ⟨undef, w', g, .inr ⟨run_u ?_, rfl⟩, .top _, R', E'⟩
          have := hrun r har.spot (by simp [Addr.add])
          rw [hr]; unfold Instr.storeAt
          rw [run_bindE (a := r) (w' := w) rfl]
          unfold storeVar
          rw [run_bindE (run_size hn)]
          have hsz : (ρ' x).cells.size = n := by have := hl.1; simp at this; omega
          simp only [hsz]
          simpa using this
        · simp at he
      · simp at he
    · simp at he
  · simp [aop] at he

end

end Go.Ax
