/- The law ValueCompares. -/
import Derived.Test.YtpkllocdpgfboaaMO
import Derived.Test.YtpkllocdpgfboaaVL
import Derived.Test.YtpkllocdpgfboaaRows
import Derived.Test.YtpkllocdpgfboaaMZ
import Derived.ProofKit
import Derived.OpenShut
import Derived.Below
import Derived.SizedLaws
import Derived.Handed
import Derived.ShutString
namespace Go.Proofs.Ytpkllocdpgfboaa
open Go.ChangeShapes Go.WideShapes Go.ChangeAt Go.RowKit
open Go.ChangeMaps (open_string shut_string)
open Go.Ax (ArgM ArgS argW memW IntOf)
set_option linter.unusedVariables false
set_option maxRecDepth 1000000

theorem own : ownKnob Try.prog.godebug = none := by kernel_rfl
theorem laidOut : laidOutB Try.prog = true := by kernel_rfl
theorem valueCompares_lifted (os : Os) (started : os.Started) (H : Type) (enc : TypeId × Value → H) :
    ReturnsInHanded {} Try.checked os 6 .any (Rows.valueComparesSpec.pre6 enc Try.prog Try.f6 Rows.valueComparesRow.domain false)
      (Rows.valueComparesSpec.post enc Try.prog Try.f6 false true false false) := by
  refine returnsInHanded_of_change_sized (C := Try.checked) own started (by kernel_rfl) Try.func6
    (ChangeSpec.witness6 (enc := enc) (C := Try.checked) false ⟨#[], #[.agg #[.int .i64 0, .int .i64 0, .float .f64 0, .string .empty], .agg #[.int .i64 0, .int .i64 0, .float .f64 0, .string .empty]], []⟩ 8 (by kernel_rfl) (by kernel_rfl) (by kernel_rfl) (by kernel_rfl)) ?_
  intro W base args ds gs before hval0 hW hcnd0 hsz0 _
  have hsz : (DataW.weightsEach Try.prog (Try.f6.params.toList ++ Rows.valueComparesSpec.plain.varTypes Try.prog) (ds ++ gs)).all (· ≤ reachBytes) = true := hsz0
  have hval : ∀ (j : Nat) t v, Try.f6.params[j]? = some t → args[j]? = some v → Value.okWide Try.prog W .any base t v := hval0
  have hW' := hW
  obtain ⟨p, q, hA0, hV, rfl, hfz, hnd⟩ := hW
  have hA : DataW.TrodAll enc Try.prog W 0 (fun _ => true) true Try.f6.params.toList args.toList ds p := hA0
  rw [Try.params6] at hA hval hsz
  obtain ⟨v0, vs0, d0, ds0, p0, q0, hargs, rfl, rfl, h0, r0⟩ := trodAll_cons hA
  obtain ⟨v1, vs1, d1, ds1, p1, q1, rfl, rfl, rfl, h1, r1⟩ := trodAll_cons r0
  obtain ⟨rfl, rfl, rfl⟩ := trodAll_nil r1
  obtain rfl : args = #[v0, v1] := by cases args; simp_all
  obtain ⟨rfl, rfl⟩ := trodVars_none hV
  have hs0 := h0
  have lt0 : ∀ x ∈ p0, x.block < W.heap.size := by obtain ⟨m, hm⟩ := hs0; exact DataW.trod_lt m _ _ _ hm
  obtain ⟨cs0, dd0, ev0, ecl0, ed0, edl0, hst0⟩ := Go.Ax.open_struct Try.underlying24 (show Try.prog.cellTypes Try.prog.depth 24 = some [3, 2, 22, 9] by kernel_rfl) rfl (by kernel_rfl) (by kernel_rfl) (hval 0 24 v0 rfl rfl) h0
  subst ed0
  have hsz0 : (DataW.weightsEach Try.prog [3, 2, 22, 9] dd0).all (· ≤ reachBytes) = true := by
    rw [List.all_eq_true] at hsz ⊢
    intro x hx
    refine hsz x (Go.Ax.weights_in (j := 0) rfl rfl Try.underlying24 hx)
  obtain ⟨q0_0, di0_0, pi0_0, nn0_0, hc0_0, hdi0_0, ho0_0, ht0_0⟩ := hst0 0 _ rfl
  obtain ⟨a0_0, ee0_0, _, w0_0⟩ := DataW.trod_int Try.underlying3 ht0_0
  obtain rfl : q0_0 = .int .i64 a0_0 := by simpa using ee0_0
  obtain ⟨q0_1, di0_1, pi0_1, nn0_1, hc0_1, hdi0_1, ho0_1, ht0_1⟩ := hst0 1 _ rfl
  obtain ⟨a0_1, ee0_1, _, w0_1⟩ := DataW.trod_int Try.underlying2 ht0_1
  obtain rfl : q0_1 = .int .i64 a0_1 := by simpa using ee0_1
  obtain ⟨q0_2, di0_2, pi0_2, nn0_2, hc0_2, hdi0_2, ho0_2, ht0_2⟩ := hst0 2 _ rfl
  obtain ⟨a0_2, ee0_2, _, wf0_2⟩ := Go.Ax.trod_float Try.underlying22 ht0_2
  obtain rfl : q0_2 = .float .f64 a0_2 := by simpa using ee0_2
  have w0_2 : a0_2 < 18446744073709551616 := by simpa [Lit.wf] using wf0_2
  obtain ⟨q0_3, di0_3, pi0_3, nn0_3, hc0_3, hdi0_3, ho0_3, ht0_3⟩ := hst0 3 _ rfl
  obtain ⟨a0_3, ee0_3, _, w0_3⟩ := DataW.trod_string Try.underlying9 ht0_3
  obtain rfl : q0_3 = .string a0_3 := by simpa using ee0_3
  obtain ⟨b0_3, rfl⟩ := Go.Ax.str_of a0_3
  obtain rfl : cs0 = [.int .i64 a0_0, .int .i64 a0_1, .float .f64 a0_2, .string (Go.Ax.bstr b0_3)] := by
    refine Go.Ax.list_of (n := 4) ecl0 rfl fun i hi => ?_
    have : i = 0 ∨ i = 1 ∨ i = 2 ∨ i = 3 := by omega
    rcases this with rfl | rfl | rfl | rfl
    · exact hc0_0
    · exact hc0_1
    · exact hc0_2
    · exact hc0_3
  subst ev0
  have hs1 := h1
  have lt1 : ∀ x ∈ p1, x.block < W.heap.size := by obtain ⟨m, hm⟩ := hs1; exact DataW.trod_lt m _ _ _ hm
  obtain ⟨cs1, dd1, ev1, ecl1, ed1, edl1, hst1⟩ := Go.Ax.open_struct Try.underlying24 (show Try.prog.cellTypes Try.prog.depth 24 = some [3, 2, 22, 9] by kernel_rfl) rfl (by kernel_rfl) (by kernel_rfl) (hval 1 24 v1 rfl rfl) h1
  subst ed1
  have hsz1 : (DataW.weightsEach Try.prog [3, 2, 22, 9] dd1).all (· ≤ reachBytes) = true := by
    rw [List.all_eq_true] at hsz ⊢
    intro x hx
    refine hsz x (Go.Ax.weights_in (j := 1) rfl rfl Try.underlying24 hx)
  obtain ⟨q1_0, di1_0, pi1_0, nn1_0, hc1_0, hdi1_0, ho1_0, ht1_0⟩ := hst1 0 _ rfl
  obtain ⟨a1_0, ee1_0, _, w1_0⟩ := DataW.trod_int Try.underlying3 ht1_0
  obtain rfl : q1_0 = .int .i64 a1_0 := by simpa using ee1_0
  obtain ⟨q1_1, di1_1, pi1_1, nn1_1, hc1_1, hdi1_1, ho1_1, ht1_1⟩ := hst1 1 _ rfl
  obtain ⟨a1_1, ee1_1, _, w1_1⟩ := DataW.trod_int Try.underlying2 ht1_1
  obtain rfl : q1_1 = .int .i64 a1_1 := by simpa using ee1_1
  obtain ⟨q1_2, di1_2, pi1_2, nn1_2, hc1_2, hdi1_2, ho1_2, ht1_2⟩ := hst1 2 _ rfl
  obtain ⟨a1_2, ee1_2, _, wf1_2⟩ := Go.Ax.trod_float Try.underlying22 ht1_2
  obtain rfl : q1_2 = .float .f64 a1_2 := by simpa using ee1_2
  have w1_2 : a1_2 < 18446744073709551616 := by simpa [Lit.wf] using wf1_2
  obtain ⟨q1_3, di1_3, pi1_3, nn1_3, hc1_3, hdi1_3, ho1_3, ht1_3⟩ := hst1 3 _ rfl
  obtain ⟨a1_3, ee1_3, _, w1_3⟩ := DataW.trod_string Try.underlying9 ht1_3
  obtain rfl : q1_3 = .string a1_3 := by simpa using ee1_3
  obtain ⟨b1_3, rfl⟩ := Go.Ax.str_of a1_3
  obtain rfl : cs1 = [.int .i64 a1_0, .int .i64 a1_1, .float .f64 a1_2, .string (Go.Ax.bstr b1_3)] := by
    refine Go.Ax.list_of (n := 4) ecl1 rfl fun i hi => ?_
    have : i = 0 ∨ i = 1 ∨ i = 2 ∨ i = 3 := by omega
    rcases this with rfl | rfl | rfl | rfl
    · exact hc1_0
    · exact hc1_1
    · exact hc1_2
    · exact hc1_3
  subst ev1
  have hro := Go.Ax.ro_mem (W := W) (g := Go.Ax.noG) (fun _ _ _ h => by simp [Go.Ax.noG] at h)
  have g := Go.Ax.compares_spec (h := Go.Ax.heap0 (Go.Ax.roBlk Go.Ax.noG (memW W))) (k := a0_0) (i := a0_1) (bs := b0_3) (k' := a1_0) (i' := a1_1) (bs' := b1_3) w0_2 w1_2
  refine (Go.Ax.entry Go.Ax.T_ok Go.Ax.mixed_ok (f := 6) rfl (args := [.agg #[.int .i64 a0_0, .int .i64 a0_1, .float .f64 a0_2, .string (Go.Ax.bstr b0_3)], .agg #[.int .i64 a1_0, .int .i64 a1_1, .float .f64 a1_2, .string (Go.Ax.bstr b1_3)]]) _ _ hro
    (.cons (Go.Ax.vrel_agg (.cons (.int _ _) (.cons (.int _ _) (.cons (.float _ _) (.cons (.string _) (.nil _)))))) (.cons (Go.Ax.vrel_agg (.cons (.int _ _) (.cons (.int _ _) (.cons (.float _ _) (.cons (.string _) (.nil _)))))) (.nil _))) g).mono fun e W' ⟨he, bel⟩ => ?_
  subst he
  exact ⟨_, rfl, _, _, _, [], _, [], hW', trodAll_mk1 (shut_bool Try.underlying4 _), (trodAll_cons_mk (Below.trod laidOut (by kernel_rfl) (of_decide_eq_true (by kernel_rfl)) h0 bel lt0) (trodAll_cons_mk (Below.trod laidOut (by kernel_rfl) (of_decide_eq_true (by kernel_rfl)) h1 bel lt1) trodAll_mk0)), rfl, bel.frame _, fun h => by cases h⟩

theorem valueCompares_holds : Rows.ValueComparesSaid :=
  OpenClaim.holds_of_wide 6 Try.f6 rfl rfl rfl rfl rfl rfl rfl ⟨rfl, rfl, rfl, rfl, rfl⟩ rfl rfl rfl rfl rfl (by kernel_rfl) Try.func6 (by kernel_rfl)
    (of_decide_eq_true (by kernel_rfl)) (by unfold Func.isWrapper; first | (rw [if_pos (by decide +kernel)]; kernel_rfl) | (rw [if_neg (by decide +kernel)]; exact ⟨rfl, rfl⟩))
    (fun os started H enc _ => valueCompares_lifted os started H enc)

#print axioms valueCompares_holds
end Go.Proofs.Ytpkllocdpgfboaa
