/- The law ValueOrder. -/
import Derived.Test.YtjfdnmjjmbildaaGreatDoorMO
import Derived.Test.YtjfdnmjjmbildaaGreatDoorKQ
import Derived.Test.YtjfdnmjjmbildaaGreatDoorRows
import Derived.Test.YtjfdnmjjmbildaaGreatDoorJFValueOrder
import Derived.Test.YtjfdnmjjmbildaaGreatDoorKL
import Derived.Test.YtjfdnmjjmbildaaGreatDoorTie
import Derived.Test.YtjfdnmjjmbildaaGreatDoorCards
import Derived.Test.YtjfdnmjjmbildaaGreatDoorMZ
import Derived.ProofKit
import Derived.OpenShut
import Derived.Below
import Derived.SizedLaws
import Derived.Handed
import Derived.ShutString
import Derived.SevenTiedAt
namespace Go.Proofs.YtjfdnmjjmbildaaGreatDoor
open Go.ChangeShapes Go.WideShapes Go.ChangeAt Go.RowKit
open Go.ChangeMaps (open_string shut_string)
open Go.Ax (ArgM ArgS argW memW IntOf)
set_option linter.unusedVariables false
set_option maxRecDepth 1000000

theorem valueOrder_lifted (os : Os) (started : os.Started) (H : Type) (enc : TypeId × Value → H) :
    ReturnsInHanded {} Tryz.checked os 6 .any (fun w args => (Rows.valueOrderSpec.pre enc Tryz.prog Tryz.f6 Rows.valueOrderRow.domain false w args ∧ laidMet Tryz.prog Rows.valueOrderRow.laid w) ∧ sizedMet enc Tryz.prog Tryz.f6 (OpenSpec.ofChange Rows.valueOrderSpec) false w args)
      (Rows.valueOrderSpec.post enc Tryz.prog Tryz.f6 false true false false) := by
  refine returnsInHanded_of_change_and (C := Tryz.checked) (X := fun w _ => laidMet Tryz.prog Rows.valueOrderRow.laid w) (fun _ _ _ hh h => h.of_heap hh) own started (by kernel_rfl) Tryz.func6
    (ChangeSpec.witness_shaped (enc := enc) (C := Tryz.checked) (os := os) (X := fun w _ => laidMet Tryz.prog Rows.valueOrderRow.laid w) false (World.laidAll Tryz.prog os laidL) #[.agg #[.int .i64 0, .int .i64 0, .float .f64 0, .string .empty], .agg #[.int .i64 0, .int .i64 0, .float .f64 0, .string .empty], .agg #[.int .i64 0, .int .i64 0, .float .f64 0, .string .empty]] 8 (World.laidAll_os _ _ _) (World.shaped_of_ZipB (by kernel_rfl) (by kernel_rfl)) (by kernel_rfl) (by kernel_rfl) (by kernel_rfl) (laid_met os _)) ?_
  intro W base args ds gs before hval0 hW hcnd0 hsz0 hL _
  have hsz : (DataW.weightsEach Tryz.prog (Tryz.f6.params.toList ++ Rows.valueOrderSpec.plain.varTypes Tryz.prog) (ds ++ gs)).all (· ≤ reachBytes) = true := hsz0
  have hval : ∀ (j : Nat) t v, Tryz.f6.params[j]? = some t → args[j]? = some v → Value.okWide Tryz.prog W .any base t v := hval0
  have hW' := hW
  obtain ⟨p, q, hA0, hV, rfl, hfz, hnd⟩ := hW
  have hA : DataW.TrodAll enc Tryz.prog W 0 (fun _ => true) true Tryz.f6.params.toList args.toList ds p := hA0
  rw [Tryz.params6] at hA hval hsz
  obtain ⟨v0, vs0, d0, ds0, p0, q0, hargs, rfl, rfl, h0, r0⟩ := trodAll_cons hA
  obtain ⟨v1, vs1, d1, ds1, p1, q1, rfl, rfl, rfl, h1, r1⟩ := trodAll_cons r0
  obtain ⟨v2, vs2, d2, ds2, p2, q2, rfl, rfl, rfl, h2, r2⟩ := trodAll_cons r1
  obtain ⟨rfl, rfl, rfl⟩ := trodAll_nil r2
  obtain rfl : args = #[v0, v1, v2] := by cases args; simp_all
  obtain ⟨rfl, rfl⟩ := trodVars_none hV
  have hs0 := h0
  have lt0 : ∀ x ∈ p0, x.block < W.heap.size := by obtain ⟨m, hm⟩ := hs0; exact DataW.trod_lt m _ _ _ hm
  obtain ⟨cs0, dd0, ev0, ecl0, ed0, edl0, hst0⟩ := Go.Ax.open_struct Tryz.underlying26 (show Tryz.prog.cellTypes Tryz.prog.depth 26 = some [3, 2, 22, 9] by kernel_rfl) rfl (by kernel_rfl) (by kernel_rfl) (hval 0 26 v0 rfl rfl) h0
  subst ed0
  have hsz0 : (DataW.weightsEach Tryz.prog [3, 2, 22, 9] dd0).all (· ≤ reachBytes) = true := by
    rw [List.all_eq_true] at hsz ⊢
    intro x hx
    refine hsz x (Go.Ax.weights_in (j := 0) rfl rfl Tryz.underlying26 hx)
  obtain ⟨q0_0, di0_0, pi0_0, nn0_0, hc0_0, hdi0_0, ho0_0, ht0_0⟩ := hst0 0 _ rfl
  obtain ⟨a0_0, ee0_0, _, w0_0⟩ := DataW.trod_int Tryz.underlying3 ht0_0
  obtain rfl : q0_0 = .int .i64 a0_0 := by simpa using ee0_0
  obtain ⟨q0_1, di0_1, pi0_1, nn0_1, hc0_1, hdi0_1, ho0_1, ht0_1⟩ := hst0 1 _ rfl
  obtain ⟨a0_1, ee0_1, _, w0_1⟩ := DataW.trod_int Tryz.underlying2 ht0_1
  obtain rfl : q0_1 = .int .i64 a0_1 := by simpa using ee0_1
  obtain ⟨q0_2, di0_2, pi0_2, nn0_2, hc0_2, hdi0_2, ho0_2, ht0_2⟩ := hst0 2 _ rfl
  obtain ⟨a0_2, ee0_2, _, wf0_2⟩ := Go.Ax.trod_float Tryz.underlying22 ht0_2
  obtain rfl : q0_2 = .float .f64 a0_2 := by simpa using ee0_2
  have w0_2 : a0_2 < 18446744073709551616 := by simpa [Lit.wf] using wf0_2
  obtain ⟨q0_3, di0_3, pi0_3, nn0_3, hc0_3, hdi0_3, ho0_3, ht0_3⟩ := hst0 3 _ rfl
  obtain ⟨a0_3, ee0_3, ef0_3, w0_3⟩ := DataW.trod_string Tryz.underlying9 ht0_3
  obtain rfl : q0_3 = .string a0_3 := by simpa using ee0_3
  obtain ⟨b0_3, rfl⟩ := Go.Ax.str_of a0_3
  have sz0_3 : b0_3.length ≤ 140737488351232 := by
    have h1 := sized_string hsz0 (j := 3) rfl (hdi0_3.trans (congrArg some (Prod.mk.inj ef0_3).1))
    have hr : reachBytes = 140737488351232 := rfl
    simp only [Go.Ax.bstr, List.toList_toArray, List.length_map] at h1
    omega
  obtain rfl : cs0 = [.int .i64 a0_0, .int .i64 a0_1, .float .f64 a0_2, .string (Go.Ax.bstr b0_3)] := by
    refine Go.Ax.list_of (n := 4) ecl0 rfl fun i hi => ?_
    have : i = 0 ∨ i = 1 ∨ i = 2 ∨ i = 3 := by omega
    rcases this with rfl | rfl | rfl | rfl
    · exact hc0_0
    · exact hc0_1
    · exact hc0_2
    · exact hc0_3
  subst ev0
  have hs1 := h1
  have lt1 : ∀ x ∈ p1, x.block < W.heap.size := by obtain ⟨m, hm⟩ := hs1; exact DataW.trod_lt m _ _ _ hm
  obtain ⟨cs1, dd1, ev1, ecl1, ed1, edl1, hst1⟩ := Go.Ax.open_struct Tryz.underlying26 (show Tryz.prog.cellTypes Tryz.prog.depth 26 = some [3, 2, 22, 9] by kernel_rfl) rfl (by kernel_rfl) (by kernel_rfl) (hval 1 26 v1 rfl rfl) h1
  subst ed1
  have hsz1 : (DataW.weightsEach Tryz.prog [3, 2, 22, 9] dd1).all (· ≤ reachBytes) = true := by
    rw [List.all_eq_true] at hsz ⊢
    intro x hx
    refine hsz x (Go.Ax.weights_in (j := 1) rfl rfl Tryz.underlying26 hx)
  obtain ⟨q1_0, di1_0, pi1_0, nn1_0, hc1_0, hdi1_0, ho1_0, ht1_0⟩ := hst1 0 _ rfl
  obtain ⟨a1_0, ee1_0, _, w1_0⟩ := DataW.trod_int Tryz.underlying3 ht1_0
  obtain rfl : q1_0 = .int .i64 a1_0 := by simpa using ee1_0
  obtain ⟨q1_1, di1_1, pi1_1, nn1_1, hc1_1, hdi1_1, ho1_1, ht1_1⟩ := hst1 1 _ rfl
  obtain ⟨a1_1, ee1_1, _, w1_1⟩ := DataW.trod_int Tryz.underlying2 ht1_1
  obtain rfl : q1_1 = .int .i64 a1_1 := by simpa using ee1_1
  obtain ⟨q1_2, di1_2, pi1_2, nn1_2, hc1_2, hdi1_2, ho1_2, ht1_2⟩ := hst1 2 _ rfl
  obtain ⟨a1_2, ee1_2, _, wf1_2⟩ := Go.Ax.trod_float Tryz.underlying22 ht1_2
  obtain rfl : q1_2 = .float .f64 a1_2 := by simpa using ee1_2
  have w1_2 : a1_2 < 18446744073709551616 := by simpa [Lit.wf] using wf1_2
  obtain ⟨q1_3, di1_3, pi1_3, nn1_3, hc1_3, hdi1_3, ho1_3, ht1_3⟩ := hst1 3 _ rfl
  obtain ⟨a1_3, ee1_3, ef1_3, w1_3⟩ := DataW.trod_string Tryz.underlying9 ht1_3
  obtain rfl : q1_3 = .string a1_3 := by simpa using ee1_3
  obtain ⟨b1_3, rfl⟩ := Go.Ax.str_of a1_3
  have sz1_3 : b1_3.length ≤ 140737488351232 := by
    have h1 := sized_string hsz1 (j := 3) rfl (hdi1_3.trans (congrArg some (Prod.mk.inj ef1_3).1))
    have hr : reachBytes = 140737488351232 := rfl
    simp only [Go.Ax.bstr, List.toList_toArray, List.length_map] at h1
    omega
  obtain rfl : cs1 = [.int .i64 a1_0, .int .i64 a1_1, .float .f64 a1_2, .string (Go.Ax.bstr b1_3)] := by
    refine Go.Ax.list_of (n := 4) ecl1 rfl fun i hi => ?_
    have : i = 0 ∨ i = 1 ∨ i = 2 ∨ i = 3 := by omega
    rcases this with rfl | rfl | rfl | rfl
    · exact hc1_0
    · exact hc1_1
    · exact hc1_2
    · exact hc1_3
  subst ev1
  have hs2 := h2
  have lt2 : ∀ x ∈ p2, x.block < W.heap.size := by obtain ⟨m, hm⟩ := hs2; exact DataW.trod_lt m _ _ _ hm
  obtain ⟨cs2, dd2, ev2, ecl2, ed2, edl2, hst2⟩ := Go.Ax.open_struct Tryz.underlying26 (show Tryz.prog.cellTypes Tryz.prog.depth 26 = some [3, 2, 22, 9] by kernel_rfl) rfl (by kernel_rfl) (by kernel_rfl) (hval 2 26 v2 rfl rfl) h2
  subst ed2
  have hsz2 : (DataW.weightsEach Tryz.prog [3, 2, 22, 9] dd2).all (· ≤ reachBytes) = true := by
    rw [List.all_eq_true] at hsz ⊢
    intro x hx
    refine hsz x (Go.Ax.weights_in (j := 2) rfl rfl Tryz.underlying26 hx)
  obtain ⟨q2_0, di2_0, pi2_0, nn2_0, hc2_0, hdi2_0, ho2_0, ht2_0⟩ := hst2 0 _ rfl
  obtain ⟨a2_0, ee2_0, _, w2_0⟩ := DataW.trod_int Tryz.underlying3 ht2_0
  obtain rfl : q2_0 = .int .i64 a2_0 := by simpa using ee2_0
  obtain ⟨q2_1, di2_1, pi2_1, nn2_1, hc2_1, hdi2_1, ho2_1, ht2_1⟩ := hst2 1 _ rfl
  obtain ⟨a2_1, ee2_1, _, w2_1⟩ := DataW.trod_int Tryz.underlying2 ht2_1
  obtain rfl : q2_1 = .int .i64 a2_1 := by simpa using ee2_1
  obtain ⟨q2_2, di2_2, pi2_2, nn2_2, hc2_2, hdi2_2, ho2_2, ht2_2⟩ := hst2 2 _ rfl
  obtain ⟨a2_2, ee2_2, _, wf2_2⟩ := Go.Ax.trod_float Tryz.underlying22 ht2_2
  obtain rfl : q2_2 = .float .f64 a2_2 := by simpa using ee2_2
  have w2_2 : a2_2 < 18446744073709551616 := by simpa [Lit.wf] using wf2_2
  obtain ⟨q2_3, di2_3, pi2_3, nn2_3, hc2_3, hdi2_3, ho2_3, ht2_3⟩ := hst2 3 _ rfl
  obtain ⟨a2_3, ee2_3, ef2_3, w2_3⟩ := DataW.trod_string Tryz.underlying9 ht2_3
  obtain rfl : q2_3 = .string a2_3 := by simpa using ee2_3
  obtain ⟨b2_3, rfl⟩ := Go.Ax.str_of a2_3
  have sz2_3 : b2_3.length ≤ 140737488351232 := by
    have h1 := sized_string hsz2 (j := 3) rfl (hdi2_3.trans (congrArg some (Prod.mk.inj ef2_3).1))
    have hr : reachBytes = 140737488351232 := rfl
    simp only [Go.Ax.bstr, List.toList_toArray, List.length_map] at h1
    omega
  obtain rfl : cs2 = [.int .i64 a2_0, .int .i64 a2_1, .float .f64 a2_2, .string (Go.Ax.bstr b2_3)] := by
    refine Go.Ax.list_of (n := 4) ecl2 rfl fun i hi => ?_
    have : i = 0 ∨ i = 1 ∨ i = 2 ∨ i = 3 := by omega
    rcases this with rfl | rfl | rfl | rfl
    · exact hc2_0
    · exact hc2_1
    · exact hc2_2
    · exact hc2_3
  subst ev2
  obtain ⟨AA, hro⟩ := ro_laid hL
  have g := Go.Ax.order_law (k1 := a0_0) (i1 := a0_1) (b1 := b0_3) (k2 := a1_0) (i2 := a1_1) (b2 := b1_3) (k3 := a2_0) (i3 := a2_1) (b3 := b2_3)  w0_2 (Go.Ax.lit_lo w0_1) (Go.Ax.lit_hi w0_1) (by omega) w1_2 (Go.Ax.lit_lo w1_1) (Go.Ax.lit_hi w1_1) (by omega) w2_2 (Go.Ax.lit_lo w2_1) (Go.Ax.lit_hi w2_1) (by omega) 
  refine (Go.Ax.entryX Go.Ax.T_ok Go.Ax.mixed_ok (f := 6) rfl (args := [.agg #[.int .i64 a0_0, .int .i64 a0_1, .float .f64 a0_2, .string (Go.Ax.bstr b0_3)], .agg #[.int .i64 a1_0, .int .i64 a1_1, .float .f64 a1_2, .string (Go.Ax.bstr b1_3)], .agg #[.int .i64 a2_0, .int .i64 a2_1, .float .f64 a2_2, .string (Go.Ax.bstr b2_3)]]) _ _ hro
    (.cons (Go.Ax.vrel_agg (.cons (.int _ _) (.cons (.int _ _) (.cons (.float _ _) (.cons (.string _) (.nil _)))))) (.cons (Go.Ax.vrel_agg (.cons (.int _ _) (.cons (.int _ _) (.cons (.float _ _) (.cons (.string _) (.nil _)))))) (.cons (Go.Ax.vrel_agg (.cons (.int _ _) (.cons (.int _ _) (.cons (.float _ _) (.cons (.string _) (.nil _)))))) (.nil _)))) g).mono fun e W' ⟨he, bel⟩ => ?_
  subst he
  exact ⟨_, rfl, _, _, _, [], _, [], hW', trodAll_mk1 (shut_bool Tryz.underlying4 _), (trodAll_cons_mk (Below.trod laidOut (by kernel_rfl) (of_decide_eq_true (by kernel_rfl)) h0 bel lt0) (trodAll_cons_mk (Below.trod laidOut (by kernel_rfl) (of_decide_eq_true (by kernel_rfl)) h1 bel lt1) (trodAll_cons_mk (Below.trod laidOut (by kernel_rfl) (of_decide_eq_true (by kernel_rfl)) h2 bel lt2) trodAll_mk0))), rfl, bel.frame _, fun h => by cases h⟩

theorem valueOrder_holds0 : Rows.ValueOrderSaid :=
  OpenClaim.holds_of_wide 6 Tryz.f6 rfl rfl rfl rfl rfl rfl rfl ⟨rfl, rfl, rfl, rfl, rfl⟩ rfl rfl rfl rfl rfl (by kernel_rfl) Tryz.func6 valueOrder_joined
    (of_decide_eq_true (by kernel_rfl)) (by unfold Func.isWrapper; first | (rw [if_pos (by decide +kernel)]; kernel_rfl) | (rw [if_neg (by decide +kernel)]; exact ⟨rfl, rfl⟩))
    (fun os started H enc _ => valueOrder_lifted os started H enc)

theorem valueOrder_holds : Rows.ValueOrderCardSaid :=
  Claim7.holds_tied_plain_at .later [] [.data, .data, .widerDeep, .widerDeep, .data, .data, .data, .data, .data, .sentinel, .sentinel, .pinned, .pinned] true (true, "c0f1bf59770dce1571a84c21cc37602ea59ee73d98a6fd563d8972cb9b528e25") true
    valueOrder_holds0 (fun _ h => by cases h) (by kernel_rfl) (fun _ h => by cases h) valueOrder_row_tie rfl ⟨rfl, rfl⟩ (by kernel_rfl) rfl
    (fun f fn hf hfn => by
      obtain rfl : f = 6 := Option.some.inj ((show Tryz.prog.funcNamed "colonnade/colonnadelaw05.ValueOrder" = some 6 by kernel_rfl).symm.trans hf) |>.symm
      obtain rfl : fn = Tryz.f6 := (Option.some.inj (Tryz.func6.symm.trans hfn)).symm
      exact ⟨by kernel_rfl, fun j t ht => by
        rw [Tryz.params6] at ht
        rcases j with _ | _ | _ | j
        · obtain rfl : t = 26 := by simpa using ht.symm
          exact (show Tryz.prog.wantsStandIn 26 = false by kernel_rfl)
        · obtain rfl : t = 26 := by simpa using ht.symm
          exact (show Tryz.prog.wantsStandIn 26 = false by kernel_rfl)
        · obtain rfl : t = 26 := by simpa using ht.symm
          exact (show Tryz.prog.wantsStandIn 26 = false by kernel_rfl)
        · simp at ht⟩)
    (by kernel_rfl)
#print axioms valueOrder_holds
end Go.Proofs.YtjfdnmjjmbildaaGreatDoor
