/- Lift, Drop of the program. -/
import Derived.Test.YthfgelbbcdgopaaSx1
import Derived.Test.YthfgelbbcdgopaaVB
set_option linter.unusedVariables false
set_option linter.unusedSimpArgs false
namespace Go.Proofs.Ythfgelbbcdgopaa.S
open Go.RowKit Go.Proofs.YthfgelbbcdgopaaV Go.Proofs.YthfgelbbcdgopaaW.PrintWords Go.Proofs.YthfgelbbcdgopaaW.PrintLast Go.Proofs.YthfgelbbcdgopaaW.PrintMore

def I64 (n : Int) : Prop := -9223372036854775808 ≤ n ∧ n ≤ 9223372036854775807
theorem drop_is {a v : Int} (ha : I64 a) (hv : I64 v) : frame_Drop.f a v = some (if v < a then (0, false) else (v - a, true)) := by
  obtain ⟨h1, h2⟩ := ha
  obtain ⟨h3, h4⟩ := hv
  unfold frame_Drop.f
  by_cases h : v < a
  · rw [if_pos h, if_pos h]
  · rw [if_neg h, if_neg h, wrap_u64, wrap_u64, wrap_u64]
    congr 2
    omega
theorem lift_is {a c : Int} (ha : I64 a) (h0 : 0 ≤ c) (h1 : c < 18446744073709551616) : frame_Lift.f a c = some (if c ≤ 9223372036854775807 - a then a + c else a + c - 18446744073709551616) := by
  obtain ⟨h2, h3⟩ := ha
  unfold frame_Lift.f wrap64
  congr 1
  split <;> omega
end Go.Proofs.Ythfgelbbcdgopaa.S
