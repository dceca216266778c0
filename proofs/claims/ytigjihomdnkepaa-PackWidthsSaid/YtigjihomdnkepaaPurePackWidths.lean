/- Every Width and every Bytes of the program is the reference's. No condition: every input. -/
import Derived.Test.YtigjihomdnkepaaSx1
import Derived.Test.YtigjihomdnkepaaQWidth
namespace Go.Proofs.Ytigjihomdnkepaa.Pure
open Go.RowKit Go.Proofs.Ytigjihomdnkepaa.S Go.Proofs.YtigjihomdnkepaaV Go.Proofs.YtigjihomdnkepaaW.PrintWords Go.Proofs.YtigjihomdnkepaaW.PrintLast

theorem PackWidths : colonnadelaw02_PackWidths.Pure := by
  intro v n w hv hn hw
  obtain ⟨h0, h1⟩ := wf_u64.1 hv
  obtain ⟨v, rfl⟩ := Int.eq_ofNat_of_zero_le h0
  refine ⟨66, ?_⟩
  unfold colonnadelaw02_PackWidths.f colonnadelaw02_num.f
  have hb : pack_Bytes.f n w = colonnaderef02_Bytes.f n w := by
    unfold pack_Bytes.f colonnaderef02_Bytes.f pack_may.f colonnaderef02_May.f
    rfl
  rw [hb]
  cases hr : colonnaderef02_Bytes.f n w with
  | none =>
    exfalso
    revert hr
    unfold colonnaderef02_Bytes.f colonnaderef02_May.f
    (repeat' split) <;> simp <;> (repeat' split) <;> simp
  | some r =>
    simp only [Option.bind_some]
    rw [width_is 65 v (by omega), rwidth_is v (by omega) 66 (by omega)]
    simp
end Go.Proofs.Ytigjihomdnkepaa.Pure
