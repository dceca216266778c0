/- Seat valuec: what is closed: the laws' first calls. -/
import Derived.Test.YtjfdnmjjmbildaaGreatDoorXK
import Derived.Test.YtjfdnmjjmbildaaGreatDoorKA
import Derived.Test.YtjfdnmjjmbildaaGreatDoorMK
import Derived.KernelRfl
namespace Go.Ax
set_option linter.unusedVariables false
set_option maxRecDepth 1000000

theorem awake_run : (acallE P T 60 F_colonnadelaw05_awake [] (heap0 roV)).map (fun r => (r.1, r.2.ro)) = some (.bool true, roV) := by kernel_rfl

theorem awake_spec : Gives P T (.fn F_colonnadelaw05_awake) [] (heap0 roV) fun v h' => v = .bool true ∧ h'.ro = roV := by
  have h := awake_run
  rw [Option.map_eq_some_iff] at h
  obtain ⟨r, h1, h2⟩ := h
  simp only [Prod.mk.injEq] at h2
  exact gives_closed (acallE_ok h1) h2

end Go.Ax
