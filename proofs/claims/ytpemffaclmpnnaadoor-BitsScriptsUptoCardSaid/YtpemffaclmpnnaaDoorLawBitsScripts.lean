/- The law BitsScripts (the second form). -/
import Derived.Test.YtpemffaclmpnnaaDoorRO
import Derived.Test.YtpemffaclmpnnaaDoorRP
import Derived.Test.YtpemffaclmpnnaaDoorRows
import Derived.Test.YtpemffaclmpnnaaDoorLB
import Derived.Test.YtpemffaclmpnnaaDoorTie
import Derived.Test.YtpemffaclmpnnaaDoorCards
import Derived.ProofKit
import Derived.Deep.DeepHandedRow
import Derived.Lib.LaidTab
import Derived.OpenShut
import Derived.Below
import Derived.SizedLaws
import Derived.Handed
import Derived.ShutString
import Derived.SevenTiedAt
namespace Go.Proofs.YtpemffaclmpnnaaDoor
open Go.ChangeShapes Go.WideShapes Go.ChangeAt Go.RowKit
open Go.ChangeMaps (open_string shut_string)
open Go.Ax (tabG ArgM ArgS argW memW IntOf)
set_option linter.unusedVariables false
set_option maxRecDepth 1000000

theorem bitsScripts_reads (os : Os) {H : Type} (enc : TypeId × Value → H) : ∃ places, DataW.whole enc Tryd.prog ((World.laidAll Tryd.prog os laidL).forCall (fun _ _ => 0) ⟨#[], #[.slice none 0 0], []⟩).memory Tryd.f8.params.toList Rows.bitsScriptsSpec.vars false #[Value.slice none 0 0].toList 8 = some ([.nil], [], places) :=
  ⟨[], by kernel_rfl⟩

theorem bitsScripts_contract (H : Type) (enc : TypeId × Value → H) (W : World) (base : Nat) (args : Array Value) (ds gs : List (DataW H)) (before : List MemPlace)
    (hval : ∀ (j : Nat) t v, Tryd.f8.params[j]? = some t → args[j]? = some v → Value.okWide Tryd.prog W .any base t v)
    (hW : DataW.Whole enc Tryd.prog Tryd.f8.params.toList Rows.bitsScriptsSpec.vars false W args.toList ds gs before) (hb : Rows.uptoSmall H (ds ++ gs) = true) (hL : laidMet Tryd.prog laidL W) :
    Calls Tryd.prog 8 args W fun e W' => ∃ v, e = .returned v ∧ Rows.bitsScriptsSpec.post enc Tryd.prog Tryd.f8 false true false false W args v W' := by
  have hW' := hW
  obtain ⟨p, q, hA0, hV, rfl, hfz, hnd⟩ := hW
  have hA : DataW.TrodAll enc Tryd.prog W 0 (fun _ => true) true Tryd.f8.params.toList args.toList ds p := hA0
  rw [Tryd.params8] at hA hval
  obtain ⟨v0, vs0, d0, ds0, p0, q0, hargs, rfl, rfl, h0, r0⟩ := trodAll_cons hA
  obtain ⟨rfl, rfl, rfl⟩ := trodAll_nil r0
  obtain rfl : args = #[v0] := by cases args; simp_all
  obtain ⟨rfl, rfl⟩ := trodVars_none hV
  have hs0 := h0
  have lt0 : ∀ x ∈ p0, x.block < W.heap.size := by obtain ⟨m, hm⟩ := hs0; exact DataW.trod_lt m _ _ _ hm
  have hb' : Rows.uptoBulk d0 ≤ 1048576 := by
    simp [Rows.uptoSmall, Rows.uptoBulkAll] at hb
    exact hb
  have hro := Go.Ax.ro_mem (W := W) (g := tabG) (tab_ro hL)
  obtain ⟨b0, n0, c0, stp, rfl, hn, rel, look, okS⟩ := Go.Ax.open_script (hval 0 58 v0 rfl rfl) h0 hb' tabG
  obtain ⟨b1, c1, e1⟩ : ∃ b1 c1, Go.Ax.argW b0 n0 = .slice b1 n0 c1 := by
    cases b0 with
    | none =>
      cases rel
      exact ⟨_, _, rfl⟩
    | some a => exact ⟨_, _, rfl⟩
  rw [e1] at rel look
  have g := Go.Ax.scripts_law (memW W) (b := b1) (c := c1) (stp := stp) hn look okS
  refine (Go.Ax.entry Go.Ax.T_ok Go.Ax.mixed_ok (f := 8) rfl (args := [.slice b1 n0 c1]) _ _ hro (.cons rel (.nil _)) g).mono fun e W' ⟨he, bel⟩ => ?_
  subst he
  exact ⟨_, rfl, _, _, _, [], _, [], hW', trodAll_mk1 (shut_bool Tryd.underlying4 _), trodAll_cons_mk (Below.trod laidOut (by kernel_rfl) (of_decide_eq_true (by kernel_rfl)) h0 bel lt0) trodAll_mk0, rfl, bel.frame _, fun h => by cases h⟩

theorem bitsScripts_lifted (os : Os) (started : os.Started) (H : Type) (enc : TypeId × Value → H) (F : Stop.Interp) :
    ReturnsInHanded {} Tryd.checked os 8 .any ((Rows.OpenSpec.upto Rows.bitsScriptsSpec).preRow enc Tryd.prog Tryd.f8 Rows.bitsScriptsUptoRow.domain false Rows.bitsScriptsUptoRow.laid) (((Rows.OpenSpec.upto Rows.bitsScriptsSpec).at F).post enc Tryd.prog Tryd.f8 false true false false) := by
  obtain ⟨places, hx⟩ := bitsScripts_reads os enc
  refine returnsInHanded_of_row (C := Tryd.checked) (s := Rows.OpenSpec.upto Rows.bitsScriptsSpec) own started (by kernel_rfl) Tryd.func8
    (witness_row_at (enc := enc) (C := Tryd.checked) false (World.laidAll Tryd.prog os laidL) #[.slice none 0 0] (World.laidAll_os _ _ _) (by kernel_rfl) (by kernel_rfl) (by kernel_rfl)
      (OpenSpec.preRow_of_cond 8 hx (by kernel_rfl) (fun k hk => by cases hk; kernel_rfl) (by kernel_rfl) (laid_met os _))) ?_
  intro W base args ds gs before hval hW _ hcond _ hL _ _
  exact bitsScripts_contract H enc W base args ds gs before hval hW (hcond _ rfl) hL

theorem bitsScripts_holds0 : Rows.BitsScriptsUptoSaid :=
  OpenClaim.holds_of_cond 8 Tryd.f8 rfl rfl rfl rfl rfl rfl rfl ⟨rfl, rfl, rfl, rfl, rfl⟩ rfl rfl rfl rfl rfl (by kernel_rfl) Tryd.func8 (by kernel_rfl)
    (of_decide_eq_true (by kernel_rfl)) (by unfold Func.isWrapper; first | (rw [if_pos (by decide +kernel)]; kernel_rfl) | (rw [if_neg (by decide +kernel)]; exact ⟨rfl, rfl⟩))
    (fun os started H enc _ F => by rw [OpenClaim.pre_eq_preRow]; exact bitsScripts_lifted os started H enc F)

theorem bitsScripts_holds : Rows.BitsScriptsUptoCardSaid :=
  Claim7.holds_tied_plain_at .later [] _ _ _ _
    bitsScripts_holds0 (fun _ h => by cases h) (by kernel_rfl) (fun _ h => by cases h) bitsScriptsUpto_row_tie rfl ⟨rfl, rfl⟩ (by kernel_rfl) rfl
    (fun f fn hf hfn => by
      obtain rfl : f = 8 := Option.some.inj ((show Tryd.prog.funcNamed "colonnade/colonnadelaw01.BitsScripts" = some 8 by kernel_rfl).symm.trans hf) |>.symm
      obtain rfl : fn = Tryd.f8 := (Option.some.inj (Tryd.func8.symm.trans hfn)).symm
      exact ⟨by kernel_rfl, fun j t ht => by
        rw [Tryd.params8] at ht
        rcases j with _ | j
        · obtain rfl : t = 58 := by simpa using ht.symm
          exact (show Tryd.prog.wantsStandIn 58 = false by kernel_rfl)
        · simp at ht⟩)
    (by kernel_rfl)
#print axioms bitsScripts_holds
end Go.Proofs.YtpemffaclmpnnaaDoor
