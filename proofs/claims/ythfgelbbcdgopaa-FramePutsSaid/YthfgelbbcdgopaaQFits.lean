/- Fits: the reference's word on widths. -/
import Derived.Test.YthfgelbbcdgopaaSx1
import Derived.Test.YthfgelbbcdgopaaQWidth
namespace Go.Proofs.Ythfgelbbcdgopaa.S
open Go.RowKit Go.Proofs.YthfgelbbcdgopaaV Go.Proofs.YthfgelbbcdgopaaW.PrintWords Go.Proofs.YthfgelbbcdgopaaW.PrintLast Go.Proofs.YthfgelbbcdgopaaW.PrintMore

theorem fits_is (v w : Nat) (hw : w ≤ 64) (hv : v < 2 ^ 64) : colonnaderef02_Fits.f (v : Int) (w : Int) = some (decide (wid v ≤ w)) := by
  unfold colonnaderef02_Fits.f
  by_cases h : (w : Int) ≥ 64
  · rw [if_pos h]
    have : wid v ≤ w := wid_le.2 (Nat.lt_of_lt_of_le hv (Nat.pow_le_pow_right (by decide) (by omega)))
    simp [this]
  · rw [if_neg h, wrap_u64, if_pos (by omega), show (w : Int) % 18446744073709551616 = ((w : Nat) : Int) by omega, shr_u64' (by omega)]
    congr 1
    rw [Bool.eq_iff_iff, decide_eq_true_eq, wid_le, beq_iff_eq]
    have := Nat.div_eq_zero_iff (a := v) (b := 2 ^ w)
    have hp := Nat.two_pow_pos w
    omega
end Go.Proofs.Ythfgelbbcdgopaa.S
