/- The law LanesOwn. -/
import Derived.Test.YtffakcgcemaokaaMO
import Derived.Test.YtffakcgcemaokaaZR
import Derived.Test.YtffakcgcemaokaaRows
import Derived.ProofKit
import Derived.OpenShut
import Derived.Below
import Derived.SizedLaws
import Derived.Handed
import Derived.ShutString
namespace Go.Proofs.Ytffakcgcemaokaa
open Go.ChangeShapes Go.WideShapes Go.ChangeAt Go.RowKit
open Go.ChangeMaps (open_string shut_string)
open Go.Ax (ArgM ArgS argW memW IntOf)
set_option linter.unusedVariables false
set_option maxRecDepth 1000000

theorem own : ownKnob Try.prog.godebug = none := by kernel_rfl
theorem laidOut : laidOutB Try.prog = true := by kernel_rfl
theorem lanesOwn_lifted (os : Os) (started : os.Started) (H : Type) (enc : TypeId × Value → H) :
    ReturnsInHanded {} Try.checked os 15 .any (Rows.lanesOwnSpec.pre6 enc Try.prog Try.f15 Rows.lanesOwnRow.domain false)
      (Rows.lanesOwnSpec.post enc Try.prog Try.f15 false true false false) := by
  refine returnsInHanded_of_change_sized (C := Try.checked) own started (by kernel_rfl) Try.func15
    (ChangeSpec.witness6 (enc := enc) (C := Try.checked) false ⟨#[], #[.agg #[.slice none 0 0, .int .i64 0, .int .u64 0, .int .u64 0, .int .u64 0, .slice none 0 0]], []⟩ 8 (by kernel_rfl) (by kernel_rfl) (by kernel_rfl) (by kernel_rfl)) ?_
  intro W base args ds gs before hval0 hW hcnd0 hsz0 _
  have hsz : (DataW.weightsEach Try.prog (Try.f15.params.toList ++ Rows.lanesOwnSpec.plain.varTypes Try.prog) (ds ++ gs)).all (· ≤ reachBytes) = true := hsz0
  have hval : ∀ (j : Nat) t v, Try.f15.params[j]? = some t → args[j]? = some v → Value.okWide Try.prog W .any base t v := hval0
  have hW' := hW
  obtain ⟨p, q, hA0, hV, rfl, hfz, hnd⟩ := hW
  have hA : DataW.TrodAll enc Try.prog W 0 (fun _ => true) true Try.f15.params.toList args.toList ds p := hA0
  rw [Try.params15] at hA hval hsz
  obtain ⟨v0, vs0, d0, ds0, p0, q0, hargs, rfl, rfl, h0, r0⟩ := trodAll_cons hA
  obtain ⟨rfl, rfl, rfl⟩ := trodAll_nil r0
  obtain rfl : args = #[v0] := by cases args; simp_all
  obtain ⟨rfl, rfl⟩ := trodVars_none hV
  have hs0 := h0
  have lt0 : ∀ x ∈ p0, x.block < W.heap.size := by obtain ⟨m, hm⟩ := hs0; exact DataW.trod_lt m _ _ _ hm
  obtain ⟨cs0, dd0, ev0, ecl0, ed0, edl0, hst0⟩ := Go.Ax.open_struct Try.underlying60 (show Try.prog.cellTypes Try.prog.depth 60 = some [29, 3, 22, 22, 22, 29] by kernel_rfl) rfl (by kernel_rfl) (by kernel_rfl) (hval 0 60 v0 rfl rfl) h0
  subst ed0
  have hsz0 : (DataW.weightsEach Try.prog [29, 3, 22, 22, 22, 29] dd0).all (· ≤ reachBytes) = true := by
    rw [List.all_eq_true] at hsz ⊢
    intro x hx
    refine hsz x (Go.Ax.weights_in (j := 0) rfl rfl Try.underlying60 hx)
  obtain ⟨q0_0, di0_0, pi0_0, nn0_0, hc0_0, hdi0_0, ho0_0, ht0_0⟩ := hst0 0 _ rfl
  obtain ⟨b0_0, n0_0, c0_0, z0_0, hv0_0, e0_0, k0_0, m0_0⟩ := Go.Ax.open_arg (IntOf.val (k := .u64)) Try.underlying29 (show Try.prog.cellsOf 22 = 1 by kernel_rfl) (Go.Ax.one_int Try.underlying22) ho0_0 (Go.Ax.trod_cell_slice Try.underlying29 ho0_0 ht0_0)
  subst hv0_0
  have y0_0 : n0_0 * 8 ≤ 140737488351232 := Go.Ax.arg_sized hsz0 (j := 0) rfl hdi0_0 Try.underlying29 (by kernel_rfl) (Go.Ax.trod_cell_slice Try.underlying29 ho0_0 ht0_0)
  have ln0_0 : z0_0.length = n0_0 := by rcases m0_0 with ⟨_, h1, h2⟩ | ⟨_, _, _, h2, _⟩ <;> simp_all
  have s0_0 : ArgS (Go.Ax.heap0 (Go.Ax.roBlk Go.Ax.noG (memW W))) (argW b0_0 n0_0) ((z0_0.map fun a => BitVec.ofInt 64 a.1).map Go.Ax.wvA) := by rw [← Go.Ax.words_of]; exact Go.Ax.argS_plain (g := Go.Ax.noG) m0_0 (fun y hy => by rw [List.mem_map] at hy; obtain ⟨b, _, rfl⟩ := hy; rfl)
  have l0_0 : (z0_0.map fun a => BitVec.ofInt 64 a.1).length = n0_0 := by rw [List.length_map]; exact ln0_0
  obtain ⟨q0_1, di0_1, pi0_1, nn0_1, hc0_1, hdi0_1, ho0_1, ht0_1⟩ := hst0 1 _ rfl
  obtain ⟨a0_1, ee0_1, _, w0_1⟩ := DataW.trod_int Try.underlying3 ht0_1
  obtain rfl : q0_1 = .int .i64 a0_1 := by simpa using ee0_1
  obtain ⟨q0_2, di0_2, pi0_2, nn0_2, hc0_2, hdi0_2, ho0_2, ht0_2⟩ := hst0 2 _ rfl
  obtain ⟨a0_2, ee0_2, _, w0_2⟩ := DataW.trod_int Try.underlying22 ht0_2
  obtain rfl : q0_2 = .int .u64 a0_2 := by simpa using ee0_2
  obtain ⟨q0_3, di0_3, pi0_3, nn0_3, hc0_3, hdi0_3, ho0_3, ht0_3⟩ := hst0 3 _ rfl
  obtain ⟨a0_3, ee0_3, _, w0_3⟩ := DataW.trod_int Try.underlying22 ht0_3
  obtain rfl : q0_3 = .int .u64 a0_3 := by simpa using ee0_3
  obtain ⟨q0_4, di0_4, pi0_4, nn0_4, hc0_4, hdi0_4, ho0_4, ht0_4⟩ := hst0 4 _ rfl
  obtain ⟨a0_4, ee0_4, _, w0_4⟩ := DataW.trod_int Try.underlying22 ht0_4
  obtain rfl : q0_4 = .int .u64 a0_4 := by simpa using ee0_4
  obtain ⟨q0_5, di0_5, pi0_5, nn0_5, hc0_5, hdi0_5, ho0_5, ht0_5⟩ := hst0 5 _ rfl
  obtain ⟨b0_5, n0_5, c0_5, z0_5, hv0_5, e0_5, k0_5, m0_5⟩ := Go.Ax.open_arg (IntOf.val (k := .u64)) Try.underlying29 (show Try.prog.cellsOf 22 = 1 by kernel_rfl) (Go.Ax.one_int Try.underlying22) ho0_5 (Go.Ax.trod_cell_slice Try.underlying29 ho0_5 ht0_5)
  subst hv0_5
  have y0_5 : n0_5 * 8 ≤ 140737488351232 := Go.Ax.arg_sized hsz0 (j := 5) rfl hdi0_5 Try.underlying29 (by kernel_rfl) (Go.Ax.trod_cell_slice Try.underlying29 ho0_5 ht0_5)
  have ln0_5 : z0_5.length = n0_5 := by rcases m0_5 with ⟨_, h1, h2⟩ | ⟨_, _, _, h2, _⟩ <;> simp_all
  have s0_5 : ArgS (Go.Ax.heap0 (Go.Ax.roBlk Go.Ax.noG (memW W))) (argW b0_5 n0_5) ((z0_5.map fun a => BitVec.ofInt 64 a.1).map Go.Ax.wvA) := by rw [← Go.Ax.words_of]; exact Go.Ax.argS_plain (g := Go.Ax.noG) m0_5 (fun y hy => by rw [List.mem_map] at hy; obtain ⟨b, _, rfl⟩ := hy; rfl)
  have l0_5 : (z0_5.map fun a => BitVec.ofInt 64 a.1).length = n0_5 := by rw [List.length_map]; exact ln0_5
  obtain rfl : cs0 = [.slice b0_0 n0_0 c0_0, .int .i64 a0_1, .int .u64 a0_2, .int .u64 a0_3, .int .u64 a0_4, .slice b0_5 n0_5 c0_5] := by
    refine Go.Ax.list_of (n := 6) ecl0 rfl fun i hi => ?_
    have : i = 0 ∨ i = 1 ∨ i = 2 ∨ i = 3 ∨ i = 4 ∨ i = 5 := by omega
    rcases this with rfl | rfl | rfl | rfl | rfl | rfl
    · exact hc0_0
    · exact hc0_1
    · exact hc0_2
    · exact hc0_3
    · exact hc0_4
    · exact hc0_5
  subst ev0
  have hro := Go.Ax.ro_mem (W := W) (g := Go.Ax.noG) (fun _ _ _ h => by simp [Go.Ax.noG] at h)
  have g := Go.Ax.own_law s0_0 s0_5 l0_0 l0_5 y0_0 y0_5 a0_1 w0_2 w0_3 w0_4
  refine (Go.Ax.entry Go.Ax.T_ok Go.Ax.mixed_ok (f := 15) rfl (args := [.agg #[argW b0_0 n0_0, .int .i64 a0_1, .int .u64 a0_2, .int .u64 a0_3, .int .u64 a0_4, argW b0_5 n0_5]]) _ _ hro
    (.cons (Go.Ax.vrel_agg (.cons (Go.Ax.arg_rel m0_0 e0_0 k0_0) (.cons (.int _ _) (.cons (.int _ _) (.cons (.int _ _) (.cons (.int _ _) (.cons (Go.Ax.arg_rel m0_5 e0_5 k0_5) (.nil _)))))))) (.nil _)) g).mono fun e W' ⟨he, bel⟩ => ?_
  subst he
  exact ⟨_, rfl, _, _, _, [], _, [], hW', trodAll_mk1 (shut_bool Try.underlying4 _), (trodAll_cons_mk (Below.trod laidOut (by kernel_rfl) (of_decide_eq_true (by kernel_rfl)) h0 bel lt0) trodAll_mk0), rfl, bel.frame _, fun h => by cases h⟩

theorem lanesOwn_holds : Rows.LanesOwnSaid :=
  OpenClaim.holds_of_wide 15 Try.f15 rfl rfl rfl rfl rfl rfl rfl ⟨rfl, rfl, rfl, rfl, rfl⟩ rfl rfl rfl rfl rfl (by kernel_rfl) Try.func15 (by kernel_rfl)
    (of_decide_eq_true (by kernel_rfl)) (by unfold Func.isWrapper; first | (rw [if_pos (by decide +kernel)]; kernel_rfl) | (rw [if_neg (by decide +kernel)]; exact ⟨rfl, rfl⟩))
    (fun os started H enc _ => lanesOwn_lifted os started H enc)

#print axioms lanesOwn_holds
end Go.Proofs.Ytffakcgcemaokaa
