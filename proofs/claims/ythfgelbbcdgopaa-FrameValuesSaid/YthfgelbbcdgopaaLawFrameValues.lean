/- The law FrameValues. -/
import Derived.Test.YthfgelbbcdgopaaMO
import Derived.Test.YthfgelbbcdgopaaFB
import Derived.Test.YthfgelbbcdgopaaRows
import Derived.ProofKit
import Derived.OpenShut
import Derived.Below
import Derived.SizedLaws
import Derived.Handed
import Derived.ShutString
namespace Go.Proofs.Ythfgelbbcdgopaa
open Go.ChangeShapes Go.WideShapes Go.ChangeAt Go.RowKit
open Go.ChangeMaps (open_string shut_string)
open Go.Ax (ArgM ArgS argW memW IntOf)
set_option linter.unusedVariables false
set_option maxRecDepth 1000000

theorem own : ownKnob Try.prog.godebug = none := by kernel_rfl
theorem laidOut : laidOutB Try.prog = true := by kernel_rfl
theorem frameValues_lifted (os : Os) (started : os.Started) (H : Type) (enc : TypeId × Value → H) :
    ReturnsInHanded {} Try.checked os 4 .any (Rows.frameValuesSpec.pre6 enc Try.prog Try.f4 Rows.frameValuesRow.domain false)
      (Rows.frameValuesSpec.post enc Try.prog Try.f4 false true false false) := by
  refine returnsInHanded_of_change_sized (C := Try.checked) own started (by kernel_rfl) Try.func4
    (ChangeSpec.witness6 (enc := enc) (C := Try.checked) false ⟨#[], #[.int .i64 0, .slice none 0 0, .int .i64 0, .int .i64 0], []⟩ 8 (by kernel_rfl) (by kernel_rfl) (by kernel_rfl) (by kernel_rfl)) ?_
  intro W base args ds gs before hval0 hW hcnd0 hsz0 _
  have hsz : (DataW.weightsEach Try.prog (Try.f4.params.toList ++ Rows.frameValuesSpec.plain.varTypes Try.prog) (ds ++ gs)).all (· ≤ reachBytes) = true := hsz0
  have hval : ∀ (j : Nat) t v, Try.f4.params[j]? = some t → args[j]? = some v → Value.okWide Try.prog W .any base t v := hval0
  have hW' := hW
  obtain ⟨p, q, hA0, hV, rfl, hfz, hnd⟩ := hW
  have hA : DataW.TrodAll enc Try.prog W 0 (fun _ => true) true Try.f4.params.toList args.toList ds p := hA0
  rw [Try.params4] at hA hval hsz
  obtain ⟨v0, vs0, d0, ds0, p0, q0, hargs, rfl, rfl, h0, r0⟩ := trodAll_cons hA
  obtain ⟨v1, vs1, d1, ds1, p1, q1, rfl, rfl, rfl, h1, r1⟩ := trodAll_cons r0
  obtain ⟨v2, vs2, d2, ds2, p2, q2, rfl, rfl, rfl, h2, r2⟩ := trodAll_cons r1
  obtain ⟨v3, vs3, d3, ds3, p3, q3, rfl, rfl, rfl, h3, r3⟩ := trodAll_cons r2
  obtain ⟨rfl, rfl, rfl⟩ := trodAll_nil r3
  obtain rfl : args = #[v0, v1, v2, v3] := by cases args; simp_all
  obtain ⟨rfl, rfl⟩ := trodVars_none hV
  obtain ⟨a0, rfl, rfl, rfl, w0⟩ := open_int Try.underlying2 (hval 0 2 v0 rfl rfl) h0
  have hs1 := h1
  have lt1 : ∀ x ∈ p1, x.block < W.heap.size := by obtain ⟨m, hm⟩ := hs1; exact DataW.trod_lt m _ _ _ hm
  obtain ⟨b1, n1, c1, z1, hv1, e1, k1, m1⟩ := Go.Ax.open_arg (IntOf.val (k := .u8)) Try.underlying27 (show Try.prog.cellsOf 5 = 1 by kernel_rfl) (Go.Ax.one_int Try.underlying5) (hval 1 27 v1 rfl rfl) h1
  subst hv1
  have y1 : n1 * 1 ≤ 140737488351232 := by first | exact Go.Ax.arg_sized hsz (j := 1) rfl rfl Try.underlying27 (by kernel_rfl) h1
  have ln1 : z1.length = n1 := by rcases m1 with ⟨_, h1, h2⟩ | ⟨_, _, _, h2, _⟩ <;> simp_all
  have s1 : ArgS (Go.Ax.heap0 (Go.Ax.roBlk Go.Ax.noG (memW W))) (argW b1 n1) ((z1.map fun a => BitVec.ofInt 8 a.1).map Go.Ax.bv) := by rw [← Go.Ax.bytes_of]; exact Go.Ax.argS_plain (g := Go.Ax.noG) m1 (fun y hy => by rw [List.mem_map] at hy; obtain ⟨b, _, rfl⟩ := hy; rfl)
  have l1 : (z1.map fun a => BitVec.ofInt 8 a.1).length = n1 := by rw [List.length_map]; exact ln1
  obtain ⟨a2, rfl, rfl, rfl, w2⟩ := open_int Try.underlying3 (hval 2 3 v2 rfl rfl) h2
  obtain ⟨a3, rfl, rfl, rfl, w3⟩ := open_int Try.underlying3 (hval 3 3 v3 rfl rfl) h3
  have hro := Go.Ax.ro_mem (W := W) (g := Go.Ax.noG) (fun _ _ _ h => by simp [Go.Ax.noG] at h)
  have g := Go.Ax.values_law s1 (by rw [l1]; omega) a0 a3 a2
  refine (Go.Ax.entry Go.Ax.T_ok Go.Ax.mixed_ok (f := 4) rfl (args := [.int .i64 a0, argW b1 n1, .int .i64 a2, .int .i64 a3]) _ _ hro
    (.cons (.int _ _) (.cons (Go.Ax.arg_rel m1 e1 k1) (.cons (.int _ _) (.cons (.int _ _) (.nil _))))) g).mono fun e W' ⟨he, bel⟩ => ?_
  subst he
  exact ⟨_, rfl, _, _, _, [], _, [], hW', trodAll_mk1 (shut_bool Try.underlying4 _), (trodAll_cons_mk (shut_int Try.underlying2 w0) (trodAll_cons_mk (Below.trod laidOut (by kernel_rfl) (of_decide_eq_true (by kernel_rfl)) h1 bel lt1) (trodAll_cons_mk (shut_int Try.underlying3 w2) (trodAll_cons_mk (shut_int Try.underlying3 w3) trodAll_mk0)))), rfl, bel.frame _, fun h => by cases h⟩

theorem frameValues_holds : Rows.FrameValuesSaid :=
  OpenClaim.holds_of_wide 4 Try.f4 rfl rfl rfl rfl rfl rfl rfl ⟨rfl, rfl, rfl, rfl, rfl⟩ rfl rfl rfl rfl rfl (by kernel_rfl) Try.func4 (by kernel_rfl)
    (of_decide_eq_true (by kernel_rfl)) (by unfold Func.isWrapper; first | (rw [if_pos (by decide +kernel)]; kernel_rfl) | (rw [if_neg (by decide +kernel)]; exact ⟨rfl, rfl⟩))
    (fun os started H enc _ => frameValues_lifted os started H enc)

#print axioms frameValues_holds
end Go.Proofs.Ythfgelbbcdgopaa
