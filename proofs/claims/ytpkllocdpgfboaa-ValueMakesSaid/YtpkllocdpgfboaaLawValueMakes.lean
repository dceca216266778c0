/- The law ValueMakes. -/
import Derived.Test.YtpkllocdpgfboaaMO
import Derived.Test.YtpkllocdpgfboaaVN
import Derived.Test.YtpkllocdpgfboaaRows
import Derived.Test.YtpkllocdpgfboaaMZ
import Derived.ProofKit
import Derived.OpenShut
import Derived.Below
import Derived.SizedLaws
import Derived.Handed
import Derived.ShutString
namespace Go.Proofs.Ytpkllocdpgfboaa
open Go.ChangeShapes Go.WideShapes Go.ChangeAt Go.RowKit
open Go.ChangeMaps (open_string shut_string)
open Go.Ax (ArgM ArgS argW memW IntOf)
set_option linter.unusedVariables false
set_option maxRecDepth 1000000

theorem own : ownKnob Try.prog.godebug = none := by kernel_rfl
theorem laidOut : laidOutB Try.prog = true := by kernel_rfl
theorem valueMakes_lifted (os : Os) (started : os.Started) (H : Type) (enc : TypeId × Value → H) :
    ReturnsInHanded {} Try.checked os 3 .any (Rows.valueMakesSpec.pre6 enc Try.prog Try.f3 Rows.valueMakesRow.domain false)
      (Rows.valueMakesSpec.post enc Try.prog Try.f3 false true false false) := by
  refine returnsInHanded_of_change_sized (C := Try.checked) own started (by kernel_rfl) Try.func3
    (ChangeSpec.witness6 (enc := enc) (C := Try.checked) false ⟨#[], #[.int .i64 0, .string .empty, .float .f64 0], []⟩ 8 (by kernel_rfl) (by kernel_rfl) (by kernel_rfl) (by kernel_rfl)) ?_
  intro W base args ds gs before hval0 hW hcnd0 hsz0 _
  have hsz : (DataW.weightsEach Try.prog (Try.f3.params.toList ++ Rows.valueMakesSpec.plain.varTypes Try.prog) (ds ++ gs)).all (· ≤ reachBytes) = true := hsz0
  have hval : ∀ (j : Nat) t v, Try.f3.params[j]? = some t → args[j]? = some v → Value.okWide Try.prog W .any base t v := hval0
  have hW' := hW
  obtain ⟨p, q, hA0, hV, rfl, hfz, hnd⟩ := hW
  have hA : DataW.TrodAll enc Try.prog W 0 (fun _ => true) true Try.f3.params.toList args.toList ds p := hA0
  rw [Try.params3] at hA hval hsz
  obtain ⟨v0, vs0, d0, ds0, p0, q0, hargs, rfl, rfl, h0, r0⟩ := trodAll_cons hA
  obtain ⟨v1, vs1, d1, ds1, p1, q1, rfl, rfl, rfl, h1, r1⟩ := trodAll_cons r0
  obtain ⟨v2, vs2, d2, ds2, p2, q2, rfl, rfl, rfl, h2, r2⟩ := trodAll_cons r1
  obtain ⟨rfl, rfl, rfl⟩ := trodAll_nil r2
  obtain rfl : args = #[v0, v1, v2] := by cases args; simp_all
  obtain ⟨rfl, rfl⟩ := trodVars_none hV
  obtain ⟨a0, rfl, rfl, rfl, w0⟩ := open_int Try.underlying2 (hval 0 2 v0 rfl rfl) h0
  obtain ⟨a1, rfl, rfl, rfl, w1⟩ := open_string Try.underlying9 (hval 1 9 v1 rfl rfl) h1
  obtain ⟨a2, rfl, rfl, rfl, w2⟩ := Go.Ax.open_f64 Try.underlying22 (hval 2 22 v2 rfl rfl) h2
  have hro := Go.Ax.ro_mem (W := W) (g := Go.Ax.noG) (fun _ _ _ h => by simp [Go.Ax.noG] at h)
  have g := (by obtain ⟨b, e⟩ := Go.Ax.str_of a1; rw [e]; exact Go.Ax.makes_spec w2 : Go.Ax.Gives Go.Ax.P Go.Ax.T (.fn Go.Ax.F_colonnadelaw05_ValueMakes) [.int .i64 a0, .string a1, .float .f64 a2] (Go.Ax.heap0 (Go.Ax.roBlk Go.Ax.noG (memW W))) fun v _ => v = .bool true)
  refine (Go.Ax.entry Go.Ax.T_ok Go.Ax.mixed_ok (f := 3) rfl (args := [.int .i64 a0, .string a1, .float .f64 a2]) _ _ hro
    (.cons (.int _ _) (.cons (.string _) (.cons (.float _ _) (.nil _)))) g).mono fun e W' ⟨he, bel⟩ => ?_
  subst he
  exact ⟨_, rfl, _, _, _, [], _, [], hW', trodAll_mk1 (shut_bool Try.underlying4 _), (trodAll_cons_mk (shut_int Try.underlying2 w0) (trodAll_cons_mk (shut_string Try.underlying9 w1) (trodAll_cons_mk (Go.Ax.shut_f64 Try.underlying22 w2) trodAll_mk0))), rfl, bel.frame _, fun h => by cases h⟩

theorem valueMakes_holds : Rows.ValueMakesSaid :=
  OpenClaim.holds_of_wide 3 Try.f3 rfl rfl rfl rfl rfl rfl rfl ⟨rfl, rfl, rfl, rfl, rfl⟩ rfl rfl rfl rfl rfl (by kernel_rfl) Try.func3 (by kernel_rfl)
    (of_decide_eq_true (by kernel_rfl)) (by unfold Func.isWrapper; first | (rw [if_pos (by decide +kernel)]; kernel_rfl) | (rw [if_neg (by decide +kernel)]; exact ⟨rfl, rfl⟩))
    (fun os started H enc _ => valueMakes_lifted os started H enc)

#print axioms valueMakes_holds
end Go.Proofs.Ytpkllocdpgfboaa
