/- The law BitsNames. -/
import Derived.Test.YtpemffaclmpnnaaDoorLB
import Derived.Test.YtpemffaclmpnnaaDoorTie
import Derived.Test.YtpemffaclmpnnaaDoorCards
import Derived.SevenTiedAt
namespace Go.Proofs.YtpemffaclmpnnaaDoor
open Go.ChangeShapes Go.WideShapes Go.ChangeAt Go.RowKit
set_option linter.unusedVariables false
set_option maxRecDepth 1000000

theorem names_run : (Go.Ax.acallN Go.Ax.P Go.Ax.T 40 (.fn Go.Ax.F_colonnadelaw01_BitsNames) [] (Go.Ax.heap0 fun _ _ => none)).map (·.1) = some (.bool true) := by kernel_rfl

theorem names_gives : Go.Ax.Gives Go.Ax.P Go.Ax.T (.fn Go.Ax.F_colonnadelaw01_BitsNames) [] (Go.Ax.heap0 fun _ _ => none) fun v _ => v = .bool true := by
  have h := names_run
  rw [Option.map_eq_some_iff] at h
  obtain ⟨r, h1, h2⟩ := h
  exact Go.Ax.gives_closed h1 h2

theorem bitsNames_lifted (os : Os) (started : os.Started) (H : Type) (enc : TypeId × Value → H) :
    ReturnsInHanded {} Tryd.checked os 6 .any (fun w args => (Rows.bitsNamesSpec.pre enc Tryd.prog Tryd.f6 Rows.bitsNamesRow.domain false w args ∧ laidMet Tryd.prog Rows.bitsNamesRow.laid w) ∧ sizedMet enc Tryd.prog Tryd.f6 (OpenSpec.ofChange Rows.bitsNamesSpec) false w args)
      (Rows.bitsNamesSpec.post enc Tryd.prog Tryd.f6 false true false false) := by
  refine returnsInHanded_of_change_and (C := Tryd.checked) (X := fun w _ => laidMet Tryd.prog Rows.bitsNamesRow.laid w) (fun _ _ _ hh h => h.of_heap hh) own started (by kernel_rfl) Tryd.func6
    (ChangeSpec.witness_at (enc := enc) (C := Tryd.checked) (os := os) (X := fun w _ => laidMet Tryd.prog Rows.bitsNamesRow.laid w) false (World.laidAll Tryd.prog os laidL) #[] 8 (World.laidAll_os _ _ _) (by kernel_rfl) (by kernel_rfl) (by kernel_rfl) (by kernel_rfl) (by kernel_rfl) (laid_met os _)) ?_
  intro W base args ds gs before hval0 hW hcnd0 _ hL _
  have hW' := hW
  obtain ⟨p, q, hA0, hV, rfl, hfz, hnd⟩ := hW
  have hA : DataW.TrodAll enc Tryd.prog W 0 (fun _ => true) true Tryd.f6.params.toList args.toList ds p := hA0
  rw [Tryd.params6] at hA
  obtain ⟨hargs, rfl, rfl⟩ := trodAll_nil hA
  obtain rfl : args = #[] := by cases args; simp_all
  obtain ⟨rfl, rfl⟩ := trodVars_none hV
  refine (Go.Ax.entry Go.Ax.T_ok Go.Ax.mixed_ok (f := 6) rfl (args := []) (args' := #[]) (fun _ => ⟨0, 0, none⟩) (fun _ _ => none) (fun b o x h => by cases h) (Go.Ax.LR.nil _) names_gives).mono fun e W' ⟨he, bel⟩ => ?_
  subst he
  exact ⟨_, rfl, _, _, _, [], [], [], hW', trodAll_mk1 (shut_bool Tryd.underlying4 _), trodAll_mk0, rfl, bel.frame _, fun h => by cases h⟩

theorem bitsNames_holds0 : Rows.BitsNamesSaid :=
  OpenClaim.holds_of_wide 6 Tryd.f6 rfl rfl rfl rfl rfl rfl rfl ⟨rfl, rfl, rfl, rfl, rfl⟩ rfl rfl rfl rfl rfl (by kernel_rfl) Tryd.func6 (by kernel_rfl)
    (of_decide_eq_true (by kernel_rfl)) (by unfold Func.isWrapper; first | (rw [if_pos (by decide +kernel)]; kernel_rfl) | (rw [if_neg (by decide +kernel)]; exact ⟨rfl, rfl⟩))
    (fun os started H enc _ => bitsNames_lifted os started H enc)

theorem bitsNames_holds : Rows.BitsNamesCardSaid :=
  Claim7.holds_tied_plain_at .later [] [.data] true (true, "d6c794fc80adb808b5d5a7682138abd6c4d3757613436974613106213b9933fd") false
    bitsNames_holds0 (fun _ h => by cases h) (by kernel_rfl) (fun _ h => by cases h) bitsNames_row_tie rfl ⟨rfl, rfl⟩ (by kernel_rfl) rfl
    (fun f fn hf hfn => by
      obtain rfl : f = 6 := Option.some.inj ((show Tryd.prog.funcNamed "colonnade/colonnadelaw01.BitsNames" = some 6 by kernel_rfl).symm.trans hf) |>.symm
      obtain rfl : fn = Tryd.f6 := (Option.some.inj (Tryd.func6.symm.trans hfn)).symm
      exact ⟨by kernel_rfl, fun j t ht => by
        rw [Tryd.params6] at ht
        simp at ht⟩)
    (by kernel_rfl)
#print axioms bitsNames_holds
end Go.Proofs.YtpemffaclmpnnaaDoor
