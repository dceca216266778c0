/- Seat sel: what is closed. -/
import Derived.Test.YtahllahgeldjcaaDoorYT
import Derived.Test.YtahllahgeldjcaaDoorMH
import Derived.Test.YtahllahgeldjcaaDoorXK
namespace Go.Ax
set_option linter.unusedVariables false
set_option linter.unusedSimpArgs false
set_option maxRecDepth 1000000

theorem awake_run (L : Nat → Nat → Option Value) : (acallN P T 60 (.fn F_colonnadelaw04_awake) [] (heap0 (roBlk tabG L))).map (fun r => (r.1, r.2.ro)) = some (.bool true, roBlk tabG L) := by kernel_rfl

theorem awake_spec (L : Nat → Nat → Option Value) : Gives P T (.fn F_colonnadelaw04_awake) [] (heap0 (roBlk tabG L)) fun v h' => v = .bool true ∧ h'.ro = roBlk tabG L := by
  have h := awake_run L
  rw [Option.map_eq_some_iff] at h
  obtain ⟨r, h1, h2⟩ := h
  simp only [Prod.mk.injEq] at h2
  exact gives_closed h1 h2

end Go.Ax
