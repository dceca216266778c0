/- The law ValueOrder: what is closed of its row. -/
import Derived.Test.YtjfdnmjjmbildaaGreatDoorRows
import Derived.ProofKit
import Derived.Handed
namespace Go.Proofs.YtjfdnmjjmbildaaGreatDoor
set_option maxRecDepth 1000000
theorem valueOrder_joined : joinedFacts Tryz.pinned.checked.prog 6 Tryz.f6 Rows.valueOrderSpec Rows.valueOrderRow = true := by kernel_rfl
end Go.Proofs.YtjfdnmjjmbildaaGreatDoor
