/- An abstract machine for Go programs: its runs against the model's: operations in a row, calls. -/
import Derived.Test.YtpemffaclmpnnaaDoorXY
import Derived.Test.YtpemffaclmpnnaaDoorXE
import Derived.RangeFuncLeaves
import Derived.OrdersIn
namespace Go.Ax
set_option linter.unusedVariables false
set_option linter.unusedSimpArgs false

def F0 (r : Option Nat) : Fence := { Fence.wide with round := r }

theorem F0_room (r : Option Nat) (n : Nat) : (F0 r).room n := fun _ h => by simp [F0, Fence.wide] at h

def mark (D : Nat) : Deferred := { target := .collected D, args := #[] }

def Marks (g : Ghost) (w : World) (N : Nat) (ds : List Deferred) : Prop :=
  ∃ Ds : List Nat, Ds.Nodup ∧ ds = Ds.map mark ∧ ∀ D ∈ Ds, N ≤ D ∧ D < w.heap.size ∧ w.heap[D]? = some (.deferred (some [])) ∧ ¬ InR g D

theorem Marks.ext {g g' : Ghost} {w w' : World} {N : Nat} {ds : List Deferred} (h : Marks g w N ds) (e : Ext g w g' w') : Marks g' w' N ds := by
  obtain ⟨Ds, h1, h2, h3⟩ := h
  refine ⟨Ds, h1, h2, fun D hD => ?_⟩
  obtain ⟨a, b, c, d⟩ := h3 D hD
  refine ⟨a, Nat.lt_of_lt_of_le b e.size, by rw [e.same D b d, c], fun hi => ?_⟩
  rcases e.new D hi with h | h
  · exact d h
  · omega

def exRel : Ex → Exit → Prop
  | .normal, .normal => True
  | .exit i, .exit j => i = j
  | .ret, .ret => True
  | _, _ => False

def QX (P : Program) (B N : Nat) (g : Ghost) (w : World) (e : Ex) (t' : List Value) (h' : Heap) : Exit → Act → World → Prop := fun ex a' w' =>
  exRel e ex ∧ ∃ g', Ext g w g' w' ∧ Rel P B g' h' w' ∧ LR g' t' a'.tmps.toList ∧ Marks g' w' N a'.defers

def PostC (P : Program) (B : Nat) (g : Ghost) (w : World) (v : Value) (h' : Heap) : Ending → World → Prop := fun e w' =>
  ∃ y g', e = .returned y ∧ VRel g' v y ∧ Rel P B g' h' w' ∧ Ext g w g' w'

def CallOK (P : Program) (B : Nat) (cf : CF) : Prop := ∀ (tg : Tgt) (args : List Value) (h : Heap) (v : Value) (h' : Heap), cf tg args h = some (v, h') →
  ∀ (g : Ghost) (w : World) (args' : Array Value), Rel P B g h w → LR g args args'.toList →
    match tg with
    | .fn f => ((callFunc f args').run P w = .ok (.enter f args') w ∧ CallsIn Fence.wide 0 P f args' w (PostC P B g w v h')) ∨
        (∃ y, (callFunc f args').run P w = .ok (.value y) w ∧ VRel g v y ∧ h' = h)
    | .yield l => ∀ r, g.lp l = some r → ∃ fid t' as bd, (Instr.yield r args').run P w = .ok (.round r fid t' as bd) w ∧ RoundIn Fence.wide 0 P r fid t' as bd w (PostC P B g w v h')

section
variable {P : Program} {B : Nat} {g : Ghost} {h : Heap} {w : World}

theorem compOp_defer {c : Call} : compOp P (.defer c) = .bad := rfl

theorem opIn_sound {cf : CF} (hcf : CallOK P B cf) (R : Rel P B g h w) {o : Oper} {t : List Value} {a : Act} (hρ : ∀ x ∈ o.op.operands, VRel g (evalT t x) (a.eval x)) {v : Value} {h' : Heap} (hr : runOp P cf (compOp P o.op) t h = some (v, h'))
    {r : Option Nat} {next : Act → World → Prop} {Q : Exit → Act → World → Prop} (hn : ∀ y w' g', VRel g' v y → Rel P B g' h' w' → Ext g w g' w' → next (a.put o.dst y) w') : o.wpIn (F0 r) 0 P a w next Q := by
  refine ⟨fun _ _ => trivial, ?_⟩
  have hnd : ∀ c, o.op ≠ .defer c := by
    intro c e
    unfold runOp at hr
    rw [e, compOp_defer] at hr
    simp [aop] at hr
  rw [Oper.semAt_eq (F0 r).round a.eval o hnd]
  unfold runOp at hr
  split at hr
  · rename_i v' h'' he
    simp only [Option.some.injEq, Prod.mk.injEq] at hr
    obtain ⟨rfl, rfl⟩ := hr
    obtain ⟨y, w', g', hv, hy, R', E'⟩ := op_sound R hρ he
    rcases hv with hv | ⟨hv, rfl⟩
    · rw [hv]; exact hn y w' g' hy R' E'
    · rw [hv]; exact hn undef w' g' hy R' E'
  · rename_i tg args he
    obtain ⟨args', hl, hrun⟩ := op_sound R hρ he
    have hc := hcf tg args h v h' hr g w args' R hl
    cases tg with
    | fn f =>
      simp only at hrun hc
      rw [hrun]
      rcases hc with ⟨h1, h2⟩ | ⟨y, h1, h2, rfl⟩
      · rw [h1]
        refine ⟨fun hd => by simp [F0, Fence.wide] at hd, trivial, fun cs hroom => ?_⟩
        obtain ⟨e, w', fr, hR, hrest⟩ := h2.2 cs (room_wide _)
        refine ⟨e, w', fr, ?_, hrest⟩
        obtain ⟨y, g', rfl, hy, R', E'⟩ := hR
        exact hn y w' g' hy R' E'
      · rw [h1]; exact hn y w g h2 R (Ext.refl g w)
    | yield l =>
      simp only at hrun hc
      obtain ⟨r', hl', hrun⟩ := hrun
      obtain ⟨fid, t', as, bd, h1, h2⟩ := hc r' hl'
      rw [hrun, h1]
      refine ⟨fun hd => by simp [F0, Fence.wide] at hd, trivial, fun c cs hroom => ?_⟩
      obtain ⟨e, w', hR, hrest⟩ := h2.2 c cs (room_wide _)
      refine ⟨e, w', ?_, hrest⟩
      obtain ⟨y, g', rfl, hy, R', E'⟩ := hR
      exact hn y w' g' hy R' E'
  · simp at hr

theorem eval_rel {t : List Value} {a : Act} (hl : LR g t a.tmps.toList) (x : Operand) : VRel g (evalT t x) (a.eval x) := by
  cases x with
  | tmp i =>
    simp only [evalT, Act.eval]
    rw [List.getD_eq_getElem?_getD, Array.getD_eq_getD_getElem?]
    cases e : t[i]? with
    | none => exact .top _
    | some v =>
      obtain ⟨y, hy, hv⟩ := hl.get e
      have : a.tmps[i]? = some y := by simpa using hy
      rw [this]; exact hv
  | const v =>
    simp only [evalT, Act.eval]
    split
    · rename_i hp; exact plain_refl hp
    · exact .top _
  | global n =>
    simp only [evalT, Act.eval]
    split
    · rename_i hn; exact .ptr ⟨rfl, by simp [roA, hn]⟩
    · exact .top _
  | func f => exact .func _ (fun l => by simp) rfl rfl (fun i x y h => by simp at h) (fun i x y h => by simp at h)

theorem put_rel {t : List Value} {a : Act} (hl : LR g t a.tmps.toList) {v y : Value} (hv : VRel g v y) (d : Option Nat) : LR g (putT t d v) (a.put d y).tmps.toList := by
  cases d with
  | none => exact hl
  | some d =>
    simp only [putT, Act.put]
    have := hl.set hv d
    simpa using this

theorem put_defers (a : Act) (d : Option Nat) (y : Value) : (a.put d y).defers = a.defers := by cases d <;> rfl

theorem wanted_rel {ops : Array Oper} {t : List Value} {a : Act} (hl : LR g t a.tmps.toList) {o : Oper} {b : Bool} (hw : wantedA t (compGuard ops o.guard) = some b) : Region.wanted o (yielded ops a.tmps) = b := by
  unfold wantedA compGuard at hw
  unfold Region.wanted
  cases hg : o.guard with
  | none => rw [hg] at hw; simp at hw; simp [← hw]
  | some p =>
    obtain ⟨j, want⟩ := p
    rw [hg] at hw
    simp only [Option.map_some] at hw
    simp only
    unfold yielded
    cases hd : (ops[j]?).bind (·.dst) with
    | none => rw [hd] at hw; simp at hw
    | some d =>
      rw [hd] at hw
      simp only [Option.bind_some] at hw ⊢
      cases ht : t[d]? with
      | none => rw [ht] at hw; simp at hw
      | some v =>
        rw [ht] at hw
        obtain ⟨y, hy, hv⟩ := hl.get ht
        have hy' : a.tmps[d]? = some y := by simpa using hy
        rw [hy']
        split at hw
        · rename_i c e
          simp only [Option.some.injEq] at e; subst e
          rw [rel_bool hv]
          simp only [Option.some.injEq] at hw; subst hw
          cases c <;> cases want <;> rfl
        · rename_i e
          simp only [Option.some.injEq] at e; subst e
          cases hv
          simp only [Option.some.injEq] at hw; subst hw
          rfl
        · simp at hw

end

end Go.Ax
