/- The law SelMemory. -/
import Derived.Test.YtahllahgeldjcaaDoorMO
import Derived.Test.YtahllahgeldjcaaDoorST
import Derived.Test.YtahllahgeldjcaaDoorRows
import Derived.Test.YtahllahgeldjcaaDoorLB
import Derived.Test.YtahllahgeldjcaaDoorTie
import Derived.Test.YtahllahgeldjcaaDoorCards
import Derived.ProofKit
import Derived.OpenShut
import Derived.Below
import Derived.SizedLaws
import Derived.Handed
import Derived.ShutString
import Derived.SevenTiedAt
namespace Go.Proofs.YtahllahgeldjcaaDoor
open Go.ChangeShapes Go.WideShapes Go.ChangeAt Go.RowKit
open Go.ChangeMaps (open_string shut_string)
open Go.Ax (tabG ArgM ArgS argW memW IntOf)
set_option linter.unusedVariables false
set_option maxRecDepth 1000000

theorem selMemory_lifted (os : Os) (started : os.Started) (H : Type) (enc : TypeId × Value → H) :
    ReturnsInHanded {} Tryd.checked os 5 .any (fun w args => (Rows.selMemorySpec.pre enc Tryd.prog Tryd.f5 Rows.selMemoryRow.domain false w args ∧ laidMet Tryd.prog Rows.selMemoryRow.laid w) ∧ sizedMet enc Tryd.prog Tryd.f5 (OpenSpec.ofChange Rows.selMemorySpec) false w args)
      (Rows.selMemorySpec.post enc Tryd.prog Tryd.f5 false true false false) := by
  refine returnsInHanded_of_change_and (C := Tryd.checked) (X := fun w _ => laidMet Tryd.prog Rows.selMemoryRow.laid w) (fun _ _ _ hh h => h.of_heap hh) own started (by kernel_rfl) Tryd.func5
    (ChangeSpec.witness_at (enc := enc) (C := Tryd.checked) (os := os) (X := fun w _ => laidMet Tryd.prog Rows.selMemoryRow.laid w) false (World.laidAll Tryd.prog os laidL) #[.slice none 0 0, .slice none 0 0] 8 (World.laidAll_os _ _ _) (by kernel_rfl) (by kernel_rfl) (by kernel_rfl) (by kernel_rfl) (by kernel_rfl) (laid_met os _)) ?_
  intro W base args ds gs before hval0 hW hcnd0 hsz0 hL _
  have hsz : (DataW.weightsEach Tryd.prog (Tryd.f5.params.toList ++ Rows.selMemorySpec.plain.varTypes Tryd.prog) (ds ++ gs)).all (· ≤ reachBytes) = true := hsz0
  have hval : ∀ (j : Nat) t v, Tryd.f5.params[j]? = some t → args[j]? = some v → Value.okWide Tryd.prog W .any base t v := hval0
  have hW' := hW
  obtain ⟨p, q, hA0, hV, rfl, hfz, hnd⟩ := hW
  have hA : DataW.TrodAll enc Tryd.prog W 0 (fun _ => true) true Tryd.f5.params.toList args.toList ds p := hA0
  rw [Tryd.params5] at hA hval hsz
  obtain ⟨v0, vs0, d0, ds0, p0, q0, hargs, rfl, rfl, h0, r0⟩ := trodAll_cons hA
  obtain ⟨v1, vs1, d1, ds1, p1, q1, rfl, rfl, rfl, h1, r1⟩ := trodAll_cons r0
  obtain ⟨rfl, rfl, rfl⟩ := trodAll_nil r1
  obtain rfl : args = #[v0, v1] := by cases args; simp_all
  obtain ⟨rfl, rfl⟩ := trodVars_none hV
  have hs0 := h0
  have lt0 : ∀ x ∈ p0, x.block < W.heap.size := by obtain ⟨m, hm⟩ := hs0; exact DataW.trod_lt m _ _ _ hm
  obtain ⟨b0, n0, c0, z0, hv0, e0, k0, m0⟩ := Go.Ax.open_arg Value.bool Tryd.underlying22 (show Tryd.prog.cellsOf 4 = 1 by kernel_rfl) (Go.Ax.one_bool Tryd.underlying4) (hval 0 22 v0 rfl rfl) h0
  subst hv0
  have y0 : n0 * 1 ≤ 140737488351232 := by first | exact Go.Ax.arg_sized hsz (j := 0) rfl rfl Tryd.underlying22 (by kernel_rfl) h0
  have ln0 : z0.length = n0 := by rcases m0 with ⟨_, h1, h2⟩ | ⟨_, _, _, h2, _⟩ <;> simp_all
  have s0 : ArgS (Go.Ax.heap0 (Go.Ax.roBlk tabG (memW W))) (argW b0 n0) (z0.map Value.bool) := Go.Ax.argS_plain m0 (fun y hy => by rw [List.mem_map] at hy; obtain ⟨b, _, rfl⟩ := hy; rfl)
  have l0 : z0.length = n0 := ln0
  have hs1 := h1
  have lt1 : ∀ x ∈ p1, x.block < W.heap.size := by obtain ⟨m, hm⟩ := hs1; exact DataW.trod_lt m _ _ _ hm
  obtain ⟨b1, n1, c1, z1, hv1, e1, k1, m1⟩ := Go.Ax.open_arg Value.bool Tryd.underlying22 (show Tryd.prog.cellsOf 4 = 1 by kernel_rfl) (Go.Ax.one_bool Tryd.underlying4) (hval 1 22 v1 rfl rfl) h1
  subst hv1
  have y1 : n1 * 1 ≤ 140737488351232 := by first | exact Go.Ax.arg_sized hsz (j := 1) rfl rfl Tryd.underlying22 (by kernel_rfl) h1
  have ln1 : z1.length = n1 := by rcases m1 with ⟨_, h1, h2⟩ | ⟨_, _, _, h2, _⟩ <;> simp_all
  have s1 : ArgS (Go.Ax.heap0 (Go.Ax.roBlk tabG (memW W))) (argW b1 n1) (z1.map Value.bool) := Go.Ax.argS_plain m1 (fun y hy => by rw [List.mem_map] at hy; obtain ⟨b, _, rfl⟩ := hy; rfl)
  have l1 : z1.length = n1 := ln1
  have hro := Go.Ax.ro_mem (W := W) (g := tabG) (tab_ro hL)
  have g := Go.Ax.memory_law (memW W) s0 s1
  refine (Go.Ax.entry Go.Ax.T_ok Go.Ax.mixed_ok (f := 5) rfl (args := [argW b0 n0, argW b1 n1]) _ _ hro
    (.cons (Go.Ax.arg_rel m0 e0 k0) (.cons (Go.Ax.arg_rel m1 e1 k1) (.nil _))) g).mono fun e W' ⟨he, bel⟩ => ?_
  subst he
  exact ⟨_, rfl, _, _, _, [], _, [], hW', trodAll_mk1 (shut_bool Tryd.underlying4 _), (trodAll_cons_mk (Below.trod laidOut (by kernel_rfl) (of_decide_eq_true (by kernel_rfl)) h0 bel lt0) (trodAll_cons_mk (Below.trod laidOut (by kernel_rfl) (of_decide_eq_true (by kernel_rfl)) h1 bel lt1) trodAll_mk0)), rfl, bel.frame _, fun h => by cases h⟩

theorem selMemory_holds0 : Rows.SelMemorySaid :=
  OpenClaim.holds_of_wide 5 Tryd.f5 rfl rfl rfl rfl rfl rfl rfl ⟨rfl, rfl, rfl, rfl, rfl⟩ rfl rfl rfl rfl rfl (by kernel_rfl) Tryd.func5 (by kernel_rfl)
    (of_decide_eq_true (by kernel_rfl)) (by unfold Func.isWrapper; first | (rw [if_pos (by decide +kernel)]; kernel_rfl) | (rw [if_neg (by decide +kernel)]; exact ⟨rfl, rfl⟩))
    (fun os started H enc _ => selMemory_lifted os started H enc)

theorem selMemory_holds : Rows.SelMemoryCardSaid :=
  Claim7.holds_tied_plain_at .later [] [.data] true (true, "336d17bf63bb735509250be2e5f81c9b308594e8112454aa8323b18c492a1db9") true
    selMemory_holds0 (fun _ h => by cases h) (by kernel_rfl) (fun _ h => by cases h) selMemory_row_tie rfl ⟨rfl, rfl⟩ (by kernel_rfl) rfl
    (fun f fn hf hfn => by
      obtain rfl : f = 5 := Option.some.inj ((show Tryd.prog.funcNamed "colonnade/colonnadelaw04.SelMemory" = some 5 by kernel_rfl).symm.trans hf) |>.symm
      obtain rfl : fn = Tryd.f5 := (Option.some.inj (Tryd.func5.symm.trans hfn)).symm
      exact ⟨by kernel_rfl, fun j t ht => by
        rw [Tryd.params5] at ht
        rcases j with _ | _ | j
        · obtain rfl : t = 22 := by simpa using ht.symm
          exact (show Tryd.prog.wantsStandIn 22 = false by kernel_rfl)
        · obtain rfl : t = 22 := by simpa using ht.symm
          exact (show Tryd.prog.wantsStandIn 22 = false by kernel_rfl)
        · simp at ht⟩)
    (by kernel_rfl)
#print axioms selMemory_holds
end Go.Proofs.YtahllahgeldjcaaDoor
