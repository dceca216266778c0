/- Every Lift and every Drop of the program is the reference's. No condition: every input. -/
import Derived.Test.YthfgelbbcdgopaaSx1
import Derived.Test.YthfgelbbcdgopaaVB
set_option linter.unusedVariables false
set_option linter.unusedSimpArgs false
namespace Go.Proofs.Ythfgelbbcdgopaa.Pure
open Go.RowKit Go.Proofs.Ythfgelbbcdgopaa.S Go.Proofs.YthfgelbbcdgopaaV Go.Proofs.YthfgelbbcdgopaaW.PrintWords Go.Proofs.YthfgelbbcdgopaaW.PrintLast Go.Proofs.YthfgelbbcdgopaaW.PrintMore

theorem FrameLifts : colonnadelaw11_FrameLifts.Pure := by
  intro a c v ha hc hv
  have ha := wf_i64.1 ha
  have hc := wf_u64.1 hc
  have hv := wf_i64.1 hv
  unfold colonnadelaw11_FrameLifts.f frame_Lift.f colonnaderef11_Lift.f colonnaderef11_above.f
  have hd : frame_Drop.f a v = colonnaderef11_Drop.f a v := rfl
  rw [hd]
  have hl : wrap64 (a + wrap64 c) = wrap64 (IntKind.u64.wrap (IntKind.u64.wrap a + c)) := by
    rw [wrap_u64, wrap_u64]
    unfold wrap64
    omega
  unfold colonnaderef11_Drop.f
  by_cases h : v < a
  · rw [if_pos h]; simp [hl]
  · rw [if_neg h]; simp [hl]
end Go.Proofs.Ythfgelbbcdgopaa.Pure
