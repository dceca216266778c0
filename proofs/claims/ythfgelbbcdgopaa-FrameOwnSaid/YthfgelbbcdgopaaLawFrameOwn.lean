/- The law FrameOwn. -/
import Derived.Test.YthfgelbbcdgopaaMO
import Derived.Test.YthfgelbbcdgopaaFO
import Derived.Test.YthfgelbbcdgopaaRows
import Derived.ProofKit
import Derived.OpenShut
import Derived.Below
import Derived.SizedLaws
import Derived.Handed
import Derived.ShutString
namespace Go.Proofs.Ythfgelbbcdgopaa
open Go.ChangeShapes Go.WideShapes Go.ChangeAt Go.RowKit
open Go.ChangeMaps (open_string shut_string)
open Go.Ax (ArgM ArgS argW memW IntOf)
set_option linter.unusedVariables false
set_option maxRecDepth 1000000

theorem own : ownKnob Try.prog.godebug = none := by kernel_rfl
theorem laidOut : laidOutB Try.prog = true := by kernel_rfl
theorem frameOwn_lifted (os : Os) (started : os.Started) (H : Type) (enc : TypeId × Value → H) :
    ReturnsInHanded {} Try.checked os 9 .any (Rows.frameOwnSpec.pre6 enc Try.prog Try.f9 Rows.frameOwnRow.domain false)
      (Rows.frameOwnSpec.post enc Try.prog Try.f9 false true false false) := by
  refine returnsInHanded_of_change_sized (C := Try.checked) own started (by kernel_rfl) Try.func9
    (ChangeSpec.witness6 (enc := enc) (C := Try.checked) false ⟨#[], #[.slice none 0 0, .slice none 0 0], []⟩ 8 (by kernel_rfl) (by kernel_rfl) (by kernel_rfl) (by kernel_rfl)) ?_
  intro W base args ds gs before hval0 hW hcnd0 hsz0 _
  have hsz : (DataW.weightsEach Try.prog (Try.f9.params.toList ++ Rows.frameOwnSpec.plain.varTypes Try.prog) (ds ++ gs)).all (· ≤ reachBytes) = true := hsz0
  have hval : ∀ (j : Nat) t v, Try.f9.params[j]? = some t → args[j]? = some v → Value.okWide Try.prog W .any base t v := hval0
  have hW' := hW
  obtain ⟨p, q, hA0, hV, rfl, hfz, hnd⟩ := hW
  have hA : DataW.TrodAll enc Try.prog W 0 (fun _ => true) true Try.f9.params.toList args.toList ds p := hA0
  rw [Try.params9] at hA hval hsz
  obtain ⟨v0, vs0, d0, ds0, p0, q0, hargs, rfl, rfl, h0, r0⟩ := trodAll_cons hA
  obtain ⟨v1, vs1, d1, ds1, p1, q1, rfl, rfl, rfl, h1, r1⟩ := trodAll_cons r0
  obtain ⟨rfl, rfl, rfl⟩ := trodAll_nil r1
  obtain rfl : args = #[v0, v1] := by cases args; simp_all
  obtain ⟨rfl, rfl⟩ := trodVars_none hV
  have hs0 := h0
  have lt0 : ∀ x ∈ p0, x.block < W.heap.size := by obtain ⟨m, hm⟩ := hs0; exact DataW.trod_lt m _ _ _ hm
  obtain ⟨b0, n0, c0, z0, hv0, e0, k0, m0⟩ := Go.Ax.open_arg (IntOf.val (k := .i64)) Try.underlying29 (show Try.prog.cellsOf 2 = 1 by kernel_rfl) (Go.Ax.one_int Try.underlying2) (hval 0 29 v0 rfl rfl) h0
  subst hv0
  have y0 : n0 * 8 ≤ 140737488351232 := by first | exact Go.Ax.arg_sized hsz (j := 0) rfl rfl Try.underlying29 (by kernel_rfl) h0
  have ln0 : z0.length = n0 := by rcases m0 with ⟨_, h1, h2⟩ | ⟨_, _, _, h2, _⟩ <;> simp_all
  have s0 : ArgS (Go.Ax.heap0 (Go.Ax.roBlk Go.Ax.noG (memW W))) (argW b0 n0) ((z0.map (·.1)).map (Value.int .i64)) := by
    have := Go.Ax.argS_plain (g := Go.Ax.noG) m0 (fun y hy => by rw [List.mem_map] at hy; obtain ⟨b, _, rfl⟩ := hy; rfl)
    rw [List.map_map]; exact this
  have l0 : (z0.map (·.1)).length = n0 := by rw [List.length_map]; exact ln0
  have rg0 : ∀ x ∈ z0.map (·.1), (Lit.int .i64 x).wf = true := fun x hx => by rw [List.mem_map] at hx; obtain ⟨b, _, rfl⟩ := hx; exact b.2
  have hs1 := h1
  have lt1 : ∀ x ∈ p1, x.block < W.heap.size := by obtain ⟨m, hm⟩ := hs1; exact DataW.trod_lt m _ _ _ hm
  obtain ⟨b1, n1, c1, z1, hv1, e1, k1, m1⟩ := Go.Ax.open_arg (IntOf.val (k := .i64)) Try.underlying29 (show Try.prog.cellsOf 2 = 1 by kernel_rfl) (Go.Ax.one_int Try.underlying2) (hval 1 29 v1 rfl rfl) h1
  subst hv1
  have y1 : n1 * 8 ≤ 140737488351232 := by first | exact Go.Ax.arg_sized hsz (j := 1) rfl rfl Try.underlying29 (by kernel_rfl) h1
  have ln1 : z1.length = n1 := by rcases m1 with ⟨_, h1, h2⟩ | ⟨_, _, _, h2, _⟩ <;> simp_all
  have s1 : ArgS (Go.Ax.heap0 (Go.Ax.roBlk Go.Ax.noG (memW W))) (argW b1 n1) ((z1.map (·.1)).map (Value.int .i64)) := by
    have := Go.Ax.argS_plain (g := Go.Ax.noG) m1 (fun y hy => by rw [List.mem_map] at hy; obtain ⟨b, _, rfl⟩ := hy; rfl)
    rw [List.map_map]; exact this
  have l1 : (z1.map (·.1)).length = n1 := by rw [List.length_map]; exact ln1
  have rg1 : ∀ x ∈ z1.map (·.1), (Lit.int .i64 x).wf = true := fun x hx => by rw [List.mem_map] at hx; obtain ⟨b, _, rfl⟩ := hx; exact b.2
  have hro := Go.Ax.ro_mem (W := W) (g := Go.Ax.noG) (fun _ _ _ h => by simp [Go.Ax.noG] at h)
  have g := Go.Ax.own_law (memW W) s0 s1 rg0
  refine (Go.Ax.entry Go.Ax.T_ok Go.Ax.mixed_ok (f := 9) rfl (args := [argW b0 n0, argW b1 n1]) _ _ hro
    (.cons (Go.Ax.arg_rel m0 e0 k0) (.cons (Go.Ax.arg_rel m1 e1 k1) (.nil _))) g).mono fun e W' ⟨he, bel⟩ => ?_
  subst he
  exact ⟨_, rfl, _, _, _, [], _, [], hW', trodAll_mk1 (shut_bool Try.underlying4 _), (trodAll_cons_mk (Below.trod laidOut (by kernel_rfl) (of_decide_eq_true (by kernel_rfl)) h0 bel lt0) (trodAll_cons_mk (Below.trod laidOut (by kernel_rfl) (of_decide_eq_true (by kernel_rfl)) h1 bel lt1) trodAll_mk0)), rfl, bel.frame _, fun h => by cases h⟩

theorem frameOwn_holds : Rows.FrameOwnSaid :=
  OpenClaim.holds_of_wide 9 Try.f9 rfl rfl rfl rfl rfl rfl rfl ⟨rfl, rfl, rfl, rfl, rfl⟩ rfl rfl rfl rfl rfl (by kernel_rfl) Try.func9 (by kernel_rfl)
    (of_decide_eq_true (by kernel_rfl)) (by unfold Func.isWrapper; first | (rw [if_pos (by decide +kernel)]; kernel_rfl) | (rw [if_neg (by decide +kernel)]; exact ⟨rfl, rfl⟩))
    (fun os started H enc _ => frameOwn_lifted os started H enc)

#print axioms frameOwn_holds
end Go.Proofs.Ythfgelbbcdgopaa
