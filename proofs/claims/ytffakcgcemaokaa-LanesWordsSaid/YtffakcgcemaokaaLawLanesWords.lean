/- The law LanesWords. -/
import Derived.Test.YtffakcgcemaokaaMO
import Derived.Test.YtffakcgcemaokaaZP
import Derived.Test.YtffakcgcemaokaaRows
import Derived.ProofKit
import Derived.OpenShut
import Derived.Below
import Derived.SizedLaws
import Derived.Handed
import Derived.ShutString
namespace Go.Proofs.Ytffakcgcemaokaa
open Go.ChangeShapes Go.WideShapes Go.ChangeAt Go.RowKit
open Go.ChangeMaps (open_string shut_string)
open Go.Ax (ArgM ArgS argW memW IntOf)
set_option linter.unusedVariables false
set_option maxRecDepth 1000000

theorem own : ownKnob Try.prog.godebug = none := by kernel_rfl
theorem laidOut : laidOutB Try.prog = true := by kernel_rfl
theorem lanesWords_lifted (os : Os) (started : os.Started) (H : Type) (enc : TypeId × Value → H) :
    ReturnsInHanded {} Try.checked os 8 .any (Rows.lanesWordsSpec.pre6 enc Try.prog Try.f8 Rows.lanesWordsRow.domain false)
      (Rows.lanesWordsSpec.post enc Try.prog Try.f8 false true false false) := by
  refine returnsInHanded_of_change_sized (C := Try.checked) own started (by kernel_rfl) Try.func8
    (ChangeSpec.witness6 (enc := enc) (C := Try.checked) false ⟨#[], #[.agg #[.int .u64 0, .int .u64 0, .int .u64 0, .int .i64 0]], []⟩ 8 (by kernel_rfl) (by kernel_rfl) (by kernel_rfl) (by kernel_rfl)) ?_
  intro W base args ds gs before hval0 hW hcnd0 hsz0 _
  have hsz : (DataW.weightsEach Try.prog (Try.f8.params.toList ++ Rows.lanesWordsSpec.plain.varTypes Try.prog) (ds ++ gs)).all (· ≤ reachBytes) = true := hsz0
  have hval : ∀ (j : Nat) t v, Try.f8.params[j]? = some t → args[j]? = some v → Value.okWide Try.prog W .any base t v := hval0
  have hW' := hW
  obtain ⟨p, q, hA0, hV, rfl, hfz, hnd⟩ := hW
  have hA : DataW.TrodAll enc Try.prog W 0 (fun _ => true) true Try.f8.params.toList args.toList ds p := hA0
  rw [Try.params8] at hA hval hsz
  obtain ⟨v0, vs0, d0, ds0, p0, q0, hargs, rfl, rfl, h0, r0⟩ := trodAll_cons hA
  obtain ⟨rfl, rfl, rfl⟩ := trodAll_nil r0
  obtain rfl : args = #[v0] := by cases args; simp_all
  obtain ⟨rfl, rfl⟩ := trodVars_none hV
  have hs0 := h0
  have lt0 : ∀ x ∈ p0, x.block < W.heap.size := by obtain ⟨m, hm⟩ := hs0; exact DataW.trod_lt m _ _ _ hm
  obtain ⟨cs0, dd0, ev0, ecl0, ed0, edl0, hst0⟩ := Go.Ax.open_struct Try.underlying48 (show Try.prog.cellTypes Try.prog.depth 48 = some [22, 22, 22, 3] by kernel_rfl) rfl (by kernel_rfl) (by kernel_rfl) (hval 0 48 v0 rfl rfl) h0
  subst ed0
  have hsz0 : (DataW.weightsEach Try.prog [22, 22, 22, 3] dd0).all (· ≤ reachBytes) = true := by
    rw [List.all_eq_true] at hsz ⊢
    intro x hx
    refine hsz x (Go.Ax.weights_in (j := 0) rfl rfl Try.underlying48 hx)
  obtain ⟨q0_0, di0_0, pi0_0, nn0_0, hc0_0, hdi0_0, ho0_0, ht0_0⟩ := hst0 0 _ rfl
  obtain ⟨a0_0, ee0_0, _, w0_0⟩ := DataW.trod_int Try.underlying22 ht0_0
  obtain rfl : q0_0 = .int .u64 a0_0 := by simpa using ee0_0
  obtain ⟨q0_1, di0_1, pi0_1, nn0_1, hc0_1, hdi0_1, ho0_1, ht0_1⟩ := hst0 1 _ rfl
  obtain ⟨a0_1, ee0_1, _, w0_1⟩ := DataW.trod_int Try.underlying22 ht0_1
  obtain rfl : q0_1 = .int .u64 a0_1 := by simpa using ee0_1
  obtain ⟨q0_2, di0_2, pi0_2, nn0_2, hc0_2, hdi0_2, ho0_2, ht0_2⟩ := hst0 2 _ rfl
  obtain ⟨a0_2, ee0_2, _, w0_2⟩ := DataW.trod_int Try.underlying22 ht0_2
  obtain rfl : q0_2 = .int .u64 a0_2 := by simpa using ee0_2
  obtain ⟨q0_3, di0_3, pi0_3, nn0_3, hc0_3, hdi0_3, ho0_3, ht0_3⟩ := hst0 3 _ rfl
  obtain ⟨a0_3, ee0_3, _, w0_3⟩ := DataW.trod_int Try.underlying3 ht0_3
  obtain rfl : q0_3 = .int .i64 a0_3 := by simpa using ee0_3
  obtain rfl : cs0 = [.int .u64 a0_0, .int .u64 a0_1, .int .u64 a0_2, .int .i64 a0_3] := by
    refine Go.Ax.list_of (n := 4) ecl0 rfl fun i hi => ?_
    have : i = 0 ∨ i = 1 ∨ i = 2 ∨ i = 3 := by omega
    rcases this with rfl | rfl | rfl | rfl
    · exact hc0_0
    · exact hc0_1
    · exact hc0_2
    · exact hc0_3
  subst ev0
  have hro := Go.Ax.ro_mem (W := W) (g := Go.Ax.noG) (fun _ _ _ h => by simp [Go.Ax.noG] at h)
  have g := Go.Ax.words_law (h := Go.Ax.heap0 (Go.Ax.roBlk Go.Ax.noG (memW W))) (width := a0_3) w0_0 w0_1 w0_2
  refine (Go.Ax.entry Go.Ax.T_ok Go.Ax.mixed_ok (f := 8) rfl (args := [.agg #[.int .u64 a0_0, .int .u64 a0_1, .int .u64 a0_2, .int .i64 a0_3]]) _ _ hro
    (.cons (Go.Ax.vrel_agg (.cons (.int _ _) (.cons (.int _ _) (.cons (.int _ _) (.cons (.int _ _) (.nil _)))))) (.nil _)) g).mono fun e W' ⟨he, bel⟩ => ?_
  subst he
  exact ⟨_, rfl, _, _, _, [], _, [], hW', trodAll_mk1 (shut_bool Try.underlying4 _), (trodAll_cons_mk (Below.trod laidOut (by kernel_rfl) (of_decide_eq_true (by kernel_rfl)) h0 bel lt0) trodAll_mk0), rfl, bel.frame _, fun h => by cases h⟩

theorem lanesWords_holds : Rows.LanesWordsSaid :=
  OpenClaim.holds_of_wide 8 Try.f8 rfl rfl rfl rfl rfl rfl rfl ⟨rfl, rfl, rfl, rfl, rfl⟩ rfl rfl rfl rfl rfl (by kernel_rfl) Try.func8 (by kernel_rfl)
    (of_decide_eq_true (by kernel_rfl)) (by unfold Func.isWrapper; first | (rw [if_pos (by decide +kernel)]; kernel_rfl) | (rw [if_neg (by decide +kernel)]; exact ⟨rfl, rfl⟩))
    (fun os started H enc _ => lanesWords_lifted os started H enc)

#print axioms lanesWords_holds
end Go.Proofs.Ytffakcgcemaokaa
