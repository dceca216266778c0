/- The law PackOwn. -/
import Derived.Test.YtigjihomdnkepaaMO
import Derived.Test.YtigjihomdnkepaaPO
import Derived.Test.YtigjihomdnkepaaRows
import Derived.ProofKit
import Derived.OpenShut
import Derived.Below
import Derived.SizedLaws
import Derived.Handed
import Derived.ShutString
namespace Go.Proofs.Ytigjihomdnkepaa
open Go.ChangeShapes Go.WideShapes Go.ChangeAt Go.RowKit
open Go.ChangeMaps (open_string shut_string)
open Go.Ax (ArgM ArgS argW memW IntOf)
set_option linter.unusedVariables false
set_option maxRecDepth 1000000

theorem own : ownKnob Try.prog.godebug = none := by kernel_rfl
theorem laidOut : laidOutB Try.prog = true := by kernel_rfl
theorem packOwn_lifted (os : Os) (started : os.Started) (H : Type) (enc : TypeId × Value → H) :
    ReturnsInHanded {} Try.checked os 12 .any (Rows.packOwnSpec.pre6 enc Try.prog Try.f12 Rows.packOwnRow.domain false)
      (Rows.packOwnSpec.post enc Try.prog Try.f12 false true false false) := by
  refine returnsInHanded_of_change_sized (C := Try.checked) own started (by kernel_rfl) Try.func12
    (ChangeSpec.witness6 (enc := enc) (C := Try.checked) false ⟨#[], #[.slice none 0 0, .slice none 0 0, .int .i64 0], []⟩ 8 (by kernel_rfl) (by kernel_rfl) (by kernel_rfl) (by kernel_rfl)) ?_
  intro W base args ds gs before hval0 hW hcnd0 hsz0 _
  have hsz : (DataW.weightsEach Try.prog (Try.f12.params.toList ++ Rows.packOwnSpec.plain.varTypes Try.prog) (ds ++ gs)).all (· ≤ reachBytes) = true := hsz0
  have hval : ∀ (j : Nat) t v, Try.f12.params[j]? = some t → args[j]? = some v → Value.okWide Try.prog W .any base t v := hval0
  have hW' := hW
  obtain ⟨p, q, hA0, hV, rfl, hfz, hnd⟩ := hW
  have hA : DataW.TrodAll enc Try.prog W 0 (fun _ => true) true Try.f12.params.toList args.toList ds p := hA0
  rw [Try.params12] at hA hval hsz
  obtain ⟨v0, vs0, d0, ds0, p0, q0, hargs, rfl, rfl, h0, r0⟩ := trodAll_cons hA
  obtain ⟨v1, vs1, d1, ds1, p1, q1, rfl, rfl, rfl, h1, r1⟩ := trodAll_cons r0
  obtain ⟨v2, vs2, d2, ds2, p2, q2, rfl, rfl, rfl, h2, r2⟩ := trodAll_cons r1
  obtain ⟨rfl, rfl, rfl⟩ := trodAll_nil r2
  obtain rfl : args = #[v0, v1, v2] := by cases args; simp_all
  obtain ⟨rfl, rfl⟩ := trodVars_none hV
  have hs0 := h0
  have lt0 : ∀ x ∈ p0, x.block < W.heap.size := by obtain ⟨m, hm⟩ := hs0; exact DataW.trod_lt m _ _ _ hm
  obtain ⟨b0, n0, c0, z0, hv0, e0, k0, m0⟩ := Go.Ax.open_arg (IntOf.val (k := .u64)) Try.underlying38 (show Try.prog.cellsOf 22 = 1 by kernel_rfl) (Go.Ax.one_int Try.underlying22) (hval 0 38 v0 rfl rfl) h0
  subst hv0
  have y0 : n0 * 8 ≤ 140737488351232 := by first | exact Go.Ax.arg_sized hsz (j := 0) rfl rfl Try.underlying38 (by kernel_rfl) h0
  have ln0 : z0.length = n0 := by rcases m0 with ⟨_, h1, h2⟩ | ⟨_, _, _, h2, _⟩ <;> simp_all
  have s0 : ArgS (Go.Ax.heap0 (Go.Ax.roBlk Go.Ax.noG (memW W))) (argW b0 n0) ((z0.map fun a => BitVec.ofInt 64 a.1).map Go.Ax.wvA) := by rw [← Go.Ax.words_of]; exact Go.Ax.argS_plain (g := Go.Ax.noG) m0 (fun y hy => by rw [List.mem_map] at hy; obtain ⟨b, _, rfl⟩ := hy; rfl)
  have l0 : (z0.map fun a => BitVec.ofInt 64 a.1).length = n0 := by rw [List.length_map]; exact ln0
  have hs1 := h1
  have lt1 : ∀ x ∈ p1, x.block < W.heap.size := by obtain ⟨m, hm⟩ := hs1; exact DataW.trod_lt m _ _ _ hm
  obtain ⟨b1, n1, c1, z1, hv1, e1, k1, m1⟩ := Go.Ax.open_arg (IntOf.val (k := .u64)) Try.underlying38 (show Try.prog.cellsOf 22 = 1 by kernel_rfl) (Go.Ax.one_int Try.underlying22) (hval 1 38 v1 rfl rfl) h1
  subst hv1
  have y1 : n1 * 8 ≤ 140737488351232 := by first | exact Go.Ax.arg_sized hsz (j := 1) rfl rfl Try.underlying38 (by kernel_rfl) h1
  have ln1 : z1.length = n1 := by rcases m1 with ⟨_, h1, h2⟩ | ⟨_, _, _, h2, _⟩ <;> simp_all
  have s1 : ArgS (Go.Ax.heap0 (Go.Ax.roBlk Go.Ax.noG (memW W))) (argW b1 n1) ((z1.map fun a => BitVec.ofInt 64 a.1).map Go.Ax.wvA) := by rw [← Go.Ax.words_of]; exact Go.Ax.argS_plain (g := Go.Ax.noG) m1 (fun y hy => by rw [List.mem_map] at hy; obtain ⟨b, _, rfl⟩ := hy; rfl)
  have l1 : (z1.map fun a => BitVec.ofInt 64 a.1).length = n1 := by rw [List.length_map]; exact ln1
  obtain ⟨a2, rfl, rfl, rfl, w2⟩ := open_int Try.underlying3 (hval 2 3 v2 rfl rfl) h2
  have hro := Go.Ax.ro_mem (W := W) (g := Go.Ax.noG) (fun _ _ _ h => by simp [Go.Ax.noG] at h)
  have g := Go.Ax.own_law (memW W) s0 s1 (by rw [l0]; omega) (by rw [l1]; omega) a2
  refine (Go.Ax.entry Go.Ax.T_ok Go.Ax.mixed_ok (f := 12) rfl (args := [argW b0 n0, argW b1 n1, .int .i64 a2]) _ _ hro
    (.cons (Go.Ax.arg_rel m0 e0 k0) (.cons (Go.Ax.arg_rel m1 e1 k1) (.cons (.int _ _) (.nil _)))) g).mono fun e W' ⟨he, bel⟩ => ?_
  subst he
  exact ⟨_, rfl, _, _, _, [], _, [], hW', trodAll_mk1 (shut_bool Try.underlying4 _), (trodAll_cons_mk (Below.trod laidOut (by kernel_rfl) (of_decide_eq_true (by kernel_rfl)) h0 bel lt0) (trodAll_cons_mk (Below.trod laidOut (by kernel_rfl) (of_decide_eq_true (by kernel_rfl)) h1 bel lt1) (trodAll_cons_mk (shut_int Try.underlying3 w2) trodAll_mk0))), rfl, bel.frame _, fun h => by cases h⟩

theorem packOwn_holds : Rows.PackOwnSaid :=
  OpenClaim.holds_of_wide 12 Try.f12 rfl rfl rfl rfl rfl rfl rfl ⟨rfl, rfl, rfl, rfl, rfl⟩ rfl rfl rfl rfl rfl (by kernel_rfl) Try.func12 (by kernel_rfl)
    (of_decide_eq_true (by kernel_rfl)) (by unfold Func.isWrapper; first | (rw [if_pos (by decide +kernel)]; kernel_rfl) | (rw [if_neg (by decide +kernel)]; exact ⟨rfl, rfl⟩))
    (fun os started H enc _ => packOwn_lifted os started H enc)

#print axioms packOwn_holds
end Go.Proofs.Ytigjihomdnkepaa
