/- Codes stand as the numbers do; Lift and Drop turn each other back. No condition: every input. -/
import Derived.Test.YthfgelbbcdgopaaSx4
import Derived.Test.YthfgelbbcdgopaaQFrame
set_option linter.unusedVariables false
set_option linter.unusedSimpArgs false
namespace Go.Proofs.Ythfgelbbcdgopaa.Pure
open Go.RowKit Go.Proofs.Ythfgelbbcdgopaa.S Go.Proofs.YthfgelbbcdgopaaV Go.Proofs.YthfgelbbcdgopaaW.PrintWords Go.Proofs.YthfgelbbcdgopaaW.PrintLast Go.Proofs.YthfgelbbcdgopaaW.PrintMore

theorem order_j2 (a code : Int) (ha : I64 a) (h0 : 0 ≤ code) (h1 : code < 18446744073709551616) (k : Nat) : colonnadelaw11_FrameOrder.j2 (k + 1) a code false = some true := by
  have h2 := ha.1
  have h3 := ha.2
  rw [colonnadelaw11_FrameOrder.j2, if_neg (by decide), lift_is ha h0 h1]
  simp only [Option.bind_some]
  have hr : IntKind.u64.wrap (9223372036854775807 - IntKind.u64.wrap a) = 9223372036854775807 - a := by rw [wrap_u64, wrap_u64]; omega
  rw [hr]
  by_cases h : code ≤ 9223372036854775807 - a
  · rw [if_pos h, drop_is ha ⟨by omega, by omega⟩, if_neg (by omega)]
    simp only [Option.bind_some]
    rw [if_pos h]
    simp only [if_true]
    rw [show a + code - a = code by omega]
    simp
  · rw [if_neg h, drop_is ha ⟨by omega, by omega⟩, if_pos (by omega)]
    simp only [Option.bind_some]
    rw [if_neg h, if_pos (by omega)]
    simp
theorem order_j1 (a v w code : Int) (ha : I64 a) (hv : I64 v) (hw : I64 w) (h0 : 0 ≤ code) (h1 : code < 18446744073709551616) (k : Nat) :
    colonnadelaw11_FrameOrder.j1 (k + 2) a v w code (if v < a then ((0 : Int), false) else (v - a, true)).1 (if v < a then ((0 : Int), false) else (v - a, true)).2 (if w < a then ((0 : Int), false) else (w - a, true)).1 (if w < a then ((0 : Int), false) else (w - a, true)).2 false = some true := by
  have hj := order_j2 a code ha h0 h1 k
  rw [colonnadelaw11_FrameOrder.j1, if_neg (by decide)]
  by_cases h : v < a
  · simp only [h, if_true]
    rw [if_neg (by decide)]; exact hj
  · simp only [h, if_false, if_true]
    by_cases h2 : w < a
    · simp only [h2, if_true]
      rw [if_neg (by decide)]; exact hj
    · simp only [h2, if_false, if_true]
      have he : (decide (v - a < w - a) != decide (v < w)) = false := by
        have : (v - a < w - a) ↔ (v < w) := by omega
        simp [this]
      rw [he]; exact hj
theorem FrameOrder : colonnadelaw11_FrameOrder.Pure := by
  intro a v w code ha hv hw hc
  have ha : I64 a := wf_i64.1 ha
  have hv : I64 v := wf_i64.1 hv
  have hw : I64 w := wf_i64.1 hw
  have hc := wf_u64.1 hc
  refine ⟨100, ?_⟩
  have hj := order_j1 a v w code ha hv hw hc.1 hc.2 97
  unfold colonnadelaw11_FrameOrder.f
  rw [awake_is 100 (by omega), drop_is ha hv, drop_is ha hw]
  simp only [Option.bind_some, if_true]
  have e1 : ((if v < a then ((0 : Int), false) else (v - a, true)).2 != decide (v ≥ a)) = false := by
    by_cases h : v < a
    · have : ¬ v ≥ a := by omega
      simp [h, this]
    · have : v ≥ a := by omega
      simp [h, this]
  have e2 : ((if w < a then ((0 : Int), false) else (w - a, true)).2 != decide (w ≥ a)) = false := by
    by_cases h : w < a
    · have : ¬ w ≥ a := by omega
      simp [h, this]
    · have : w ≥ a := by omega
      simp [h, this]
  rw [e1, if_neg (by decide), e2, if_neg (by decide)]
  by_cases h : v < a
  · simp only [h, if_true] at hj ⊢
    rw [if_neg (by decide), show ((0 : Int) != 0) = false from rfl, colonnadelaw11_FrameOrder.j0, if_neg (by decide), if_neg (by decide)]
    exact hj
  · simp only [h, if_false, if_true] at hj ⊢
    have hb1 := ha.1
    have hb2 := ha.2
    have hb3 := hv.1
    have hb4 := hv.2
    rw [colonnadelaw11_FrameOrder.j0, if_neg (by decide), if_pos rfl, lift_is ha (by omega) (by omega), if_pos (by omega)]
    simp only [Option.bind_some]
    rw [show (a + (v - a) != v) = false by simp; omega]
    exact hj
end Go.Proofs.Ythfgelbbcdgopaa.Pure
