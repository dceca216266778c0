/- The law ValueTexts. -/
import Derived.Test.YtjfdnmjjmbildaaGreatDoorMO
import Derived.Test.YtjfdnmjjmbildaaGreatDoorKT
import Derived.Test.YtjfdnmjjmbildaaGreatDoorRows
import Derived.Test.YtjfdnmjjmbildaaGreatDoorKL
import Derived.Test.YtjfdnmjjmbildaaGreatDoorTie
import Derived.Test.YtjfdnmjjmbildaaGreatDoorCards
import Derived.Test.YtjfdnmjjmbildaaGreatDoorMZ
import Derived.ProofKit
import Derived.OpenShut
import Derived.Below
import Derived.SizedLaws
import Derived.Handed
import Derived.ShutString
import Derived.SevenTiedAt
namespace Go.Proofs.YtjfdnmjjmbildaaGreatDoor
open Go.ChangeShapes Go.WideShapes Go.ChangeAt Go.RowKit
open Go.ChangeMaps (open_string shut_string)
open Go.Ax (ArgM ArgS argW memW IntOf)
set_option linter.unusedVariables false
set_option maxRecDepth 1000000

theorem valueTexts_lifted (os : Os) (started : os.Started) (H : Type) (enc : TypeId × Value → H) :
    ReturnsInHanded {} Tryz.checked os 4 .any (fun w args => (Rows.valueTextsSpec.pre enc Tryz.prog Tryz.f4 Rows.valueTextsRow.domain false w args ∧ laidMet Tryz.prog Rows.valueTextsRow.laid w) ∧ sizedMet enc Tryz.prog Tryz.f4 (OpenSpec.ofChange Rows.valueTextsSpec) false w args)
      (Rows.valueTextsSpec.post enc Tryz.prog Tryz.f4 false true false false) := by
  refine returnsInHanded_of_change_and (C := Tryz.checked) (X := fun w _ => laidMet Tryz.prog Rows.valueTextsRow.laid w) (fun _ _ _ hh h => h.of_heap hh) own started (by kernel_rfl) Tryz.func4
    (ChangeSpec.witness_shaped (enc := enc) (C := Tryz.checked) (os := os) (X := fun w _ => laidMet Tryz.prog Rows.valueTextsRow.laid w) false (World.laidAll Tryz.prog os laidL) #[.string .empty, .string .empty, .string .empty] 8 (World.laidAll_os _ _ _) (World.shaped_of_ZipB (by kernel_rfl) (by kernel_rfl)) (by kernel_rfl) (by kernel_rfl) (by kernel_rfl) (laid_met os _)) ?_
  intro W base args ds gs before hval0 hW hcnd0 hsz0 hL _
  have hsz : (DataW.weightsEach Tryz.prog (Tryz.f4.params.toList ++ Rows.valueTextsSpec.plain.varTypes Tryz.prog) (ds ++ gs)).all (· ≤ reachBytes) = true := hsz0
  have hval : ∀ (j : Nat) t v, Tryz.f4.params[j]? = some t → args[j]? = some v → Value.okWide Tryz.prog W .any base t v := hval0
  have hW' := hW
  obtain ⟨p, q, hA0, hV, rfl, hfz, hnd⟩ := hW
  have hA : DataW.TrodAll enc Tryz.prog W 0 (fun _ => true) true Tryz.f4.params.toList args.toList ds p := hA0
  rw [Tryz.params4] at hA hval hsz
  obtain ⟨v0, vs0, d0, ds0, p0, q0, hargs, rfl, rfl, h0, r0⟩ := trodAll_cons hA
  obtain ⟨v1, vs1, d1, ds1, p1, q1, rfl, rfl, rfl, h1, r1⟩ := trodAll_cons r0
  obtain ⟨v2, vs2, d2, ds2, p2, q2, rfl, rfl, rfl, h2, r2⟩ := trodAll_cons r1
  obtain ⟨rfl, rfl, rfl⟩ := trodAll_nil r2
  obtain rfl : args = #[v0, v1, v2] := by cases args; simp_all
  obtain ⟨rfl, rfl⟩ := trodVars_none hV
  obtain ⟨a0, rfl, rfl, rfl, w0⟩ := open_string Tryz.underlying9 (hval 0 9 v0 rfl rfl) h0
  obtain ⟨a1, rfl, rfl, rfl, w1⟩ := open_string Tryz.underlying9 (hval 1 9 v1 rfl rfl) h1
  obtain ⟨a2, rfl, rfl, rfl, w2⟩ := open_string Tryz.underlying9 (hval 2 9 v2 rfl rfl) h2
  have s0 : a0.data.toList.length ≤ 140737488355328 := by
    have := sized_string hsz (j := 0) rfl rfl
    have hr : reachBytes = 140737488351232 := rfl
    omega
  have s1 : a1.data.toList.length ≤ 140737488355328 := by
    have := sized_string hsz (j := 1) rfl rfl
    have hr : reachBytes = 140737488351232 := rfl
    omega
  have s2 : a2.data.toList.length ≤ 140737488355328 := by
    have := sized_string hsz (j := 2) rfl rfl
    have hr : reachBytes = 140737488351232 := rfl
    omega
  obtain ⟨AA, hro⟩ := ro_laid hL
  have g := (by obtain ⟨x0, e0⟩ := Go.Ax.str_of a0; obtain ⟨x1, e1⟩ := Go.Ax.str_of a1; obtain ⟨x2, e2⟩ := Go.Ax.str_of a2; rw [e0, e1, e2]; rw [e0] at s0; rw [e1] at s1; rw [e2] at s2; exact Go.Ax.texts_law (by simpa [Go.Ax.bstr] using s0) (by simpa [Go.Ax.bstr] using s1) (by simpa [Go.Ax.bstr] using s2) : Go.Ax.Gives Go.Ax.P Go.Ax.T (.fn Go.Ax.F_colonnadelaw05_ValueTexts) [.string a0, .string a1, .string a2] (Go.Ax.heap0 Go.Ax.roV) fun v _ => v = .bool true)
  refine (Go.Ax.entryX Go.Ax.T_ok Go.Ax.mixed_ok (f := 4) rfl (args := [.string a0, .string a1, .string a2]) _ _ hro
    (.cons (.string _) (.cons (.string _) (.cons (.string _) (.nil _)))) g).mono fun e W' ⟨he, bel⟩ => ?_
  subst he
  exact ⟨_, rfl, _, _, _, [], _, [], hW', trodAll_mk1 (shut_bool Tryz.underlying4 _), (trodAll_cons_mk (shut_string Tryz.underlying9 w0) (trodAll_cons_mk (shut_string Tryz.underlying9 w1) (trodAll_cons_mk (shut_string Tryz.underlying9 w2) trodAll_mk0))), rfl, bel.frame _, fun h => by cases h⟩

theorem valueTexts_holds0 : Rows.ValueTextsSaid :=
  OpenClaim.holds_of_wide 4 Tryz.f4 rfl rfl rfl rfl rfl rfl rfl ⟨rfl, rfl, rfl, rfl, rfl⟩ rfl rfl rfl rfl rfl (by kernel_rfl) Tryz.func4 (by kernel_rfl)
    (of_decide_eq_true (by kernel_rfl)) (by unfold Func.isWrapper; first | (rw [if_pos (by decide +kernel)]; kernel_rfl) | (rw [if_neg (by decide +kernel)]; exact ⟨rfl, rfl⟩))
    (fun os started H enc _ => valueTexts_lifted os started H enc)

theorem valueTexts_holds : Rows.ValueTextsCardSaid :=
  Claim7.holds_tied_plain_at .later [] [.data, .data, .widerDeep, .widerDeep, .data, .data, .data, .data, .data, .sentinel, .sentinel, .pinned, .pinned] true (true, "c0f1bf59770dce1571a84c21cc37602ea59ee73d98a6fd563d8972cb9b528e25") true
    valueTexts_holds0 (fun _ h => by cases h) (by kernel_rfl) (fun _ h => by cases h) valueTexts_row_tie rfl ⟨rfl, rfl⟩ (by kernel_rfl) rfl
    (fun f fn hf hfn => by
      obtain rfl : f = 4 := Option.some.inj ((show Tryz.prog.funcNamed "colonnade/colonnadelaw05.ValueTexts" = some 4 by kernel_rfl).symm.trans hf) |>.symm
      obtain rfl : fn = Tryz.f4 := (Option.some.inj (Tryz.func4.symm.trans hfn)).symm
      exact ⟨by kernel_rfl, fun j t ht => by
        rw [Tryz.params4] at ht
        rcases j with _ | _ | _ | j
        · obtain rfl : t = 9 := by simpa using ht.symm
          exact (show Tryz.prog.wantsStandIn 9 = false by kernel_rfl)
        · obtain rfl : t = 9 := by simpa using ht.symm
          exact (show Tryz.prog.wantsStandIn 9 = false by kernel_rfl)
        · obtain rfl : t = 9 := by simpa using ht.symm
          exact (show Tryz.prog.wantsStandIn 9 = false by kernel_rfl)
        · simp at ht⟩)
    (by kernel_rfl)
#print axioms valueTexts_holds
end Go.Proofs.YtjfdnmjjmbildaaGreatDoor
