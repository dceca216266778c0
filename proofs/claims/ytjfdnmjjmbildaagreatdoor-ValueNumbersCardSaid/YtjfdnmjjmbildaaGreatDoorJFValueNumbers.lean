/- The law ValueNumbers: what is closed of its row. -/
import Derived.Test.YtjfdnmjjmbildaaGreatDoorRows
import Derived.ProofKit
import Derived.Handed
namespace Go.Proofs.YtjfdnmjjmbildaaGreatDoor
set_option maxRecDepth 1000000
theorem valueNumbers_joined : joinedFacts Tryz.pinned.checked.prog 3 Tryz.f3 Rows.valueNumbersSpec Rows.valueNumbersRow = true := by kernel_rfl
end Go.Proofs.YtjfdnmjjmbildaaGreatDoor
