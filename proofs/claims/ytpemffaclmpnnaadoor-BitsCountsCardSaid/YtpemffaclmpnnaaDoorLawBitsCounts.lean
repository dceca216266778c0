/- The law BitsCounts. -/
import Derived.Test.YtpemffaclmpnnaaDoorLA
import Derived.Test.YtpemffaclmpnnaaDoorYK
import Derived.Test.YtpemffaclmpnnaaDoorTie
import Derived.Test.YtpemffaclmpnnaaDoorCards
import Derived.SevenTiedAt
import Derived.Below
namespace Go.Proofs.YtpemffaclmpnnaaDoor
open Go.ChangeShapes Go.WideShapes Go.ChangeAt Go.RowKit
open Go.Ax (tabL tabG ArgM ArgS argV)
set_option linter.unusedVariables false
set_option maxRecDepth 1000000

theorem bitsCounts_lifted (os : Os) (started : os.Started) (H : Type) (enc : TypeId × Value → H) :
    ReturnsInHanded {} Tryd.checked os 3 .any (fun w args => (Rows.bitsCountsSpec.pre enc Tryd.prog Tryd.f3 Rows.bitsCountsRow.domain false w args ∧ laidMet Tryd.prog Rows.bitsCountsRow.laid w) ∧ sizedMet enc Tryd.prog Tryd.f3 (OpenSpec.ofChange Rows.bitsCountsSpec) false w args)
      (Rows.bitsCountsSpec.post enc Tryd.prog Tryd.f3 false true false false) := by
  refine returnsInHanded_of_change_and (C := Tryd.checked) (X := fun w _ => laidMet Tryd.prog Rows.bitsCountsRow.laid w) (fun _ _ _ hh h => h.of_heap hh) own started (by kernel_rfl) Tryd.func3
    (ChangeSpec.witness_at (enc := enc) (C := Tryd.checked) (os := os) (X := fun w _ => laidMet Tryd.prog Rows.bitsCountsRow.laid w) false (World.laidAll Tryd.prog os laidL) #[.slice none 0 0, .int .i64 0] 8 (World.laidAll_os _ _ _) (by kernel_rfl) (by kernel_rfl) (by kernel_rfl) (by kernel_rfl) (by kernel_rfl) (laid_met os _)) ?_
  intro W base args ds gs before hval0 hW hcnd0 _ hL _
  have hval : ∀ (j : Nat) t v, Tryd.f3.params[j]? = some t → args[j]? = some v → Value.okWide Tryd.prog W .any base t v := hval0
  have hW' := hW
  obtain ⟨p, q, hA0, hV, rfl, hfz, hnd⟩ := hW
  have hA : DataW.TrodAll enc Tryd.prog W 0 (fun _ => true) true Tryd.f3.params.toList args.toList ds p := hA0
  rw [Tryd.params3] at hA hval
  obtain ⟨v0, vs0, d0, ds0, p0, q0, hargs, rfl, rfl, h0, r0⟩ := trodAll_cons hA
  obtain ⟨v1, vs1, d1, ds1, p1, q1, rfl, rfl, rfl, h1, r1⟩ := trodAll_cons r0
  obtain ⟨rfl, rfl, rfl⟩ := trodAll_nil r1
  obtain rfl : args = #[v0, v1] := by cases args; simp_all
  obtain ⟨rfl, rfl⟩ := trodVars_none hV
  have c4 : Tryd.prog.cellsOf 4 = 1 := by kernel_rfl
  obtain ⟨b0, n0, c0, z0, rfl, e0, k0, m0⟩ := Go.Ax.open_arg Value.bool Tryd.underlying22 c4 (one_bool Tryd.underlying4) (hval 0 22 v0 rfl rfl) h0
  obtain ⟨i, rfl, rfl, rfl, wi⟩ := open_int Tryd.underlying3 (hval 1 3 v1 rfl rfl) h1
  have t0 := h0
  have lt0 : ∀ x ∈ p0, x.block < W.heap.size := by obtain ⟨m, hm⟩ := t0; exact DataW.trod_lt m _ _ _ hm
  let L : Nat → List Value := fun k => [z0.map Value.bool].getD k []
  let B : Nat → Addr := fun k => ([b0].getD k none).getD ⟨0, 0, none⟩
  have hro := Go.Ax.ro_plain (B := B) (g := tabG) (L := L) (tab_ro hL) (args_ro (bs := []) (lens := []) fun k l hl => by
    rcases k with _ | k
    · simp at hl; subst hl; exact ⟨b0, n0, m0, fun x hx => by simp [B, hx], plain_bools z0⟩
    · simp at hl)
  have g := Go.Ax.counts_spec L (argS_of (k := 0) m0 rfl) i
  refine (Go.Ax.entry Go.Ax.T_ok Go.Ax.mixed_ok (f := 3) rfl (args := [argV 0 b0 n0, .int .i64 i]) _ _ hro
    (.cons (Go.Ax.arg_rel (B := B) m0 e0 (fun x hx => by simp [B, hx]) k0) (.cons (.int _ _) (.nil _))) g).mono fun e W' ⟨he, bel⟩ => ?_
  subst he
  exact ⟨_, rfl, _, _, _, [], _, [], hW', trodAll_mk1 (shut_bool Tryd.underlying4 _), (trodAll_cons_mk (Below.trod laidOut (by kernel_rfl) (of_decide_eq_true (by kernel_rfl)) h0 bel lt0) (trodAll_cons_mk (shut_int Tryd.underlying3 wi) trodAll_mk0)), rfl, bel.frame _, fun h => by cases h⟩

theorem bitsCounts_holds0 : Rows.BitsCountsSaid :=
  OpenClaim.holds_of_wide 3 Tryd.f3 rfl rfl rfl rfl rfl rfl rfl ⟨rfl, rfl, rfl, rfl, rfl⟩ rfl rfl rfl rfl rfl (by kernel_rfl) Tryd.func3 (by kernel_rfl)
    (of_decide_eq_true (by kernel_rfl)) (by unfold Func.isWrapper; first | (rw [if_pos (by decide +kernel)]; kernel_rfl) | (rw [if_neg (by decide +kernel)]; exact ⟨rfl, rfl⟩))
    (fun os started H enc _ => bitsCounts_lifted os started H enc)

theorem bitsCounts_holds : Rows.BitsCountsCardSaid :=
  Claim7.holds_tied_plain_at .later [] [.data] true (true, "d6c794fc80adb808b5d5a7682138abd6c4d3757613436974613106213b9933fd") false
    bitsCounts_holds0 (fun _ h => by cases h) (by kernel_rfl) (fun _ h => by cases h) bitsCounts_row_tie rfl ⟨rfl, rfl⟩ (by kernel_rfl) rfl
    (fun f fn hf hfn => by
      obtain rfl : f = 3 := Option.some.inj ((show Tryd.prog.funcNamed "colonnade/colonnadelaw01.BitsCounts" = some 3 by kernel_rfl).symm.trans hf) |>.symm
      obtain rfl : fn = Tryd.f3 := (Option.some.inj (Tryd.func3.symm.trans hfn)).symm
      exact ⟨by kernel_rfl, fun j t ht => by
        rw [Tryd.params3] at ht
        rcases j with _ | _ | j
        · obtain rfl : t = 22 := by simpa using ht.symm
          exact (show Tryd.prog.wantsStandIn 22 = false by kernel_rfl)
        · obtain rfl : t = 3 := by simpa using ht.symm
          exact (show Tryd.prog.wantsStandIn 3 = false by kernel_rfl)
        · simp at ht⟩)
    (by kernel_rfl)
#print axioms bitsCounts_holds
end Go.Proofs.YtpemffaclmpnnaaDoor
