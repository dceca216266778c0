/- The law LanesIns. -/
import Derived.Test.YtffakcgcemaokaaMO
import Derived.Test.YtffakcgcemaokaaZK
import Derived.Test.YtffakcgcemaokaaRows
import Derived.ProofKit
import Derived.OpenShut
import Derived.Below
import Derived.SizedLaws
import Derived.Handed
import Derived.ShutString
namespace Go.Proofs.Ytffakcgcemaokaa
open Go.ChangeShapes Go.WideShapes Go.ChangeAt Go.RowKit
open Go.ChangeMaps (open_string shut_string)
open Go.Ax (ArgM ArgS argW memW IntOf)
set_option linter.unusedVariables false
set_option maxRecDepth 1000000

theorem own : ownKnob Try.prog.godebug = none := by kernel_rfl
theorem laidOut : laidOutB Try.prog = true := by kernel_rfl
theorem lanesIns_lifted (os : Os) (started : os.Started) (H : Type) (enc : TypeId × Value → H) :
    ReturnsInHanded {} Try.checked os 6 .any (Rows.lanesInsSpec.pre6 enc Try.prog Try.f6 Rows.lanesInsRow.domain false)
      (Rows.lanesInsSpec.post enc Try.prog Try.f6 false true false false) := by
  refine returnsInHanded_of_change_sized (C := Try.checked) own started (by kernel_rfl) Try.func6
    (ChangeSpec.witness6 (enc := enc) (C := Try.checked) false ⟨#[], #[.agg #[.slice none 0 0, .int .i64 0, .int .i64 0, .int .i64 0, .int .u64 0, .int .u64 0, .int .u64 0, .slice none 0 0]], []⟩ 8 (by kernel_rfl) (by kernel_rfl) (by kernel_rfl) (by kernel_rfl)) ?_
  intro W base args ds gs before hval0 hW hcnd0 hsz0 _
  have hsz : (DataW.weightsEach Try.prog (Try.f6.params.toList ++ Rows.lanesInsSpec.plain.varTypes Try.prog) (ds ++ gs)).all (· ≤ reachBytes) = true := hsz0
  have hval : ∀ (j : Nat) t v, Try.f6.params[j]? = some t → args[j]? = some v → Value.okWide Try.prog W .any base t v := hval0
  have hW' := hW
  obtain ⟨p, q, hA0, hV, rfl, hfz, hnd⟩ := hW
  have hA : DataW.TrodAll enc Try.prog W 0 (fun _ => true) true Try.f6.params.toList args.toList ds p := hA0
  rw [Try.params6] at hA hval hsz
  obtain ⟨v0, vs0, d0, ds0, p0, q0, hargs, rfl, rfl, h0, r0⟩ := trodAll_cons hA
  obtain ⟨rfl, rfl, rfl⟩ := trodAll_nil r0
  obtain rfl : args = #[v0] := by cases args; simp_all
  obtain ⟨rfl, rfl⟩ := trodVars_none hV
  have hs0 := h0
  have lt0 : ∀ x ∈ p0, x.block < W.heap.size := by obtain ⟨m, hm⟩ := hs0; exact DataW.trod_lt m _ _ _ hm
  obtain ⟨cs0, dd0, ev0, ecl0, ed0, edl0, hst0⟩ := Go.Ax.open_struct Try.underlying31 (show Try.prog.cellTypes Try.prog.depth 31 = some [28, 3, 3, 3, 22, 22, 22, 29] by kernel_rfl) rfl (by kernel_rfl) (by kernel_rfl) (hval 0 31 v0 rfl rfl) h0
  subst ed0
  have hsz0 : (DataW.weightsEach Try.prog [28, 3, 3, 3, 22, 22, 22, 29] dd0).all (· ≤ reachBytes) = true := by
    rw [List.all_eq_true] at hsz ⊢
    intro x hx
    refine hsz x (Go.Ax.weights_in (j := 0) rfl rfl Try.underlying31 hx)
  obtain ⟨q0_0, di0_0, pi0_0, nn0_0, hc0_0, hdi0_0, ho0_0, ht0_0⟩ := hst0 0 _ rfl
  obtain ⟨b0_0, n0_0, c0_0, z0_0, hv0_0, e0_0, k0_0, m0_0⟩ := Go.Ax.open_arg (IntOf.val (k := .u8)) Try.underlying28 (show Try.prog.cellsOf 5 = 1 by kernel_rfl) (Go.Ax.one_int Try.underlying5) ho0_0 (Go.Ax.trod_cell_slice Try.underlying28 ho0_0 ht0_0)
  subst hv0_0
  have y0_0 : n0_0 * 1 ≤ 140737488351232 := Go.Ax.arg_sized hsz0 (j := 0) rfl hdi0_0 Try.underlying28 (by kernel_rfl) (Go.Ax.trod_cell_slice Try.underlying28 ho0_0 ht0_0)
  have ln0_0 : z0_0.length = n0_0 := by rcases m0_0 with ⟨_, h1, h2⟩ | ⟨_, _, _, h2, _⟩ <;> simp_all
  have s0_0 : ArgS (Go.Ax.heap0 (Go.Ax.roBlk Go.Ax.noG (memW W))) (argW b0_0 n0_0) ((z0_0.map fun a => BitVec.ofInt 8 a.1).map Go.Ax.bv) := by rw [← Go.Ax.bytes_of]; exact Go.Ax.argS_plain (g := Go.Ax.noG) m0_0 (fun y hy => by rw [List.mem_map] at hy; obtain ⟨b, _, rfl⟩ := hy; rfl)
  have l0_0 : (z0_0.map fun a => BitVec.ofInt 8 a.1).length = n0_0 := by rw [List.length_map]; exact ln0_0
  obtain ⟨q0_1, di0_1, pi0_1, nn0_1, hc0_1, hdi0_1, ho0_1, ht0_1⟩ := hst0 1 _ rfl
  obtain ⟨a0_1, ee0_1, _, w0_1⟩ := DataW.trod_int Try.underlying3 ht0_1
  obtain rfl : q0_1 = .int .i64 a0_1 := by simpa using ee0_1
  obtain ⟨q0_2, di0_2, pi0_2, nn0_2, hc0_2, hdi0_2, ho0_2, ht0_2⟩ := hst0 2 _ rfl
  obtain ⟨a0_2, ee0_2, _, w0_2⟩ := DataW.trod_int Try.underlying3 ht0_2
  obtain rfl : q0_2 = .int .i64 a0_2 := by simpa using ee0_2
  obtain ⟨q0_3, di0_3, pi0_3, nn0_3, hc0_3, hdi0_3, ho0_3, ht0_3⟩ := hst0 3 _ rfl
  obtain ⟨a0_3, ee0_3, _, w0_3⟩ := DataW.trod_int Try.underlying3 ht0_3
  obtain rfl : q0_3 = .int .i64 a0_3 := by simpa using ee0_3
  obtain ⟨q0_4, di0_4, pi0_4, nn0_4, hc0_4, hdi0_4, ho0_4, ht0_4⟩ := hst0 4 _ rfl
  obtain ⟨a0_4, ee0_4, _, w0_4⟩ := DataW.trod_int Try.underlying22 ht0_4
  obtain rfl : q0_4 = .int .u64 a0_4 := by simpa using ee0_4
  obtain ⟨q0_5, di0_5, pi0_5, nn0_5, hc0_5, hdi0_5, ho0_5, ht0_5⟩ := hst0 5 _ rfl
  obtain ⟨a0_5, ee0_5, _, w0_5⟩ := DataW.trod_int Try.underlying22 ht0_5
  obtain rfl : q0_5 = .int .u64 a0_5 := by simpa using ee0_5
  obtain ⟨q0_6, di0_6, pi0_6, nn0_6, hc0_6, hdi0_6, ho0_6, ht0_6⟩ := hst0 6 _ rfl
  obtain ⟨a0_6, ee0_6, _, w0_6⟩ := DataW.trod_int Try.underlying22 ht0_6
  obtain rfl : q0_6 = .int .u64 a0_6 := by simpa using ee0_6
  obtain ⟨q0_7, di0_7, pi0_7, nn0_7, hc0_7, hdi0_7, ho0_7, ht0_7⟩ := hst0 7 _ rfl
  obtain ⟨b0_7, n0_7, c0_7, z0_7, hv0_7, e0_7, k0_7, m0_7⟩ := Go.Ax.open_arg (IntOf.val (k := .u64)) Try.underlying29 (show Try.prog.cellsOf 22 = 1 by kernel_rfl) (Go.Ax.one_int Try.underlying22) ho0_7 (Go.Ax.trod_cell_slice Try.underlying29 ho0_7 ht0_7)
  subst hv0_7
  have y0_7 : n0_7 * 8 ≤ 140737488351232 := Go.Ax.arg_sized hsz0 (j := 7) rfl hdi0_7 Try.underlying29 (by kernel_rfl) (Go.Ax.trod_cell_slice Try.underlying29 ho0_7 ht0_7)
  have ln0_7 : z0_7.length = n0_7 := by rcases m0_7 with ⟨_, h1, h2⟩ | ⟨_, _, _, h2, _⟩ <;> simp_all
  have s0_7 : ArgS (Go.Ax.heap0 (Go.Ax.roBlk Go.Ax.noG (memW W))) (argW b0_7 n0_7) ((z0_7.map fun a => BitVec.ofInt 64 a.1).map Go.Ax.wvA) := by rw [← Go.Ax.words_of]; exact Go.Ax.argS_plain (g := Go.Ax.noG) m0_7 (fun y hy => by rw [List.mem_map] at hy; obtain ⟨b, _, rfl⟩ := hy; rfl)
  have l0_7 : (z0_7.map fun a => BitVec.ofInt 64 a.1).length = n0_7 := by rw [List.length_map]; exact ln0_7
  obtain rfl : cs0 = [.slice b0_0 n0_0 c0_0, .int .i64 a0_1, .int .i64 a0_2, .int .i64 a0_3, .int .u64 a0_4, .int .u64 a0_5, .int .u64 a0_6, .slice b0_7 n0_7 c0_7] := by
    refine Go.Ax.list_of (n := 8) ecl0 rfl fun i hi => ?_
    have : i = 0 ∨ i = 1 ∨ i = 2 ∨ i = 3 ∨ i = 4 ∨ i = 5 ∨ i = 6 ∨ i = 7 := by omega
    rcases this with rfl | rfl | rfl | rfl | rfl | rfl | rfl | rfl
    · exact hc0_0
    · exact hc0_1
    · exact hc0_2
    · exact hc0_3
    · exact hc0_4
    · exact hc0_5
    · exact hc0_6
    · exact hc0_7
  subst ev0
  have hro := Go.Ax.ro_mem (W := W) (g := Go.Ax.noG) (fun _ _ _ h => by simp [Go.Ax.noG] at h)
  have g := Go.Ax.ins_law s0_0 s0_7 (by rw [l0_0]; omega) (by rw [l0_7]; omega) a0_1 a0_2 a0_3 w0_4 w0_5 w0_6
  refine (Go.Ax.entry Go.Ax.T_ok Go.Ax.mixed_ok (f := 6) rfl (args := [.agg #[argW b0_0 n0_0, .int .i64 a0_1, .int .i64 a0_2, .int .i64 a0_3, .int .u64 a0_4, .int .u64 a0_5, .int .u64 a0_6, argW b0_7 n0_7]]) _ _ hro
    (.cons (Go.Ax.vrel_agg (.cons (Go.Ax.arg_rel m0_0 e0_0 k0_0) (.cons (.int _ _) (.cons (.int _ _) (.cons (.int _ _) (.cons (.int _ _) (.cons (.int _ _) (.cons (.int _ _) (.cons (Go.Ax.arg_rel m0_7 e0_7 k0_7) (.nil _)))))))))) (.nil _)) g).mono fun e W' ⟨he, bel⟩ => ?_
  subst he
  exact ⟨_, rfl, _, _, _, [], _, [], hW', trodAll_mk1 (shut_bool Try.underlying4 _), (trodAll_cons_mk (Below.trod laidOut (by kernel_rfl) (of_decide_eq_true (by kernel_rfl)) h0 bel lt0) trodAll_mk0), rfl, bel.frame _, fun h => by cases h⟩

theorem lanesIns_holds : Rows.LanesInsSaid :=
  OpenClaim.holds_of_wide 6 Try.f6 rfl rfl rfl rfl rfl rfl rfl ⟨rfl, rfl, rfl, rfl, rfl⟩ rfl rfl rfl rfl rfl (by kernel_rfl) Try.func6 (by kernel_rfl)
    (of_decide_eq_true (by kernel_rfl)) (by unfold Func.isWrapper; first | (rw [if_pos (by decide +kernel)]; kernel_rfl) | (rw [if_neg (by decide +kernel)]; exact ⟨rfl, rfl⟩))
    (fun os started H enc _ => lanesIns_lifted os started H enc)

#print axioms lanesIns_holds
end Go.Proofs.Ytffakcgcemaokaa
