/- Seat bits: the law BitsCounts, over the abstract machine. -/
import Derived.Test.YtahllahgeldjcaaDoorYJ
import Derived.Test.YtahllahgeldjcaaDoorYG
namespace Go.Ax
set_option linter.unusedVariables false
set_option linter.unusedSimpArgs false

def keptB : List Nat := [38, 39, 40, 41, 42, 58, 59, 81, 82, 83, 84, 85, 86, 89, 90, 93, 96, 97, 98, 99, 102, 103, 104, 105, 106, 107, 108, 113, 114, 115, 116, 117, 118, 119, 120, 121, 124, 125, 126, 127, 128, 129, 130, 131, 132, 133, 134, 135, 136, 137, 138, 139]

/-- What holds at the head of the law's loop. -/
def CInv (v0 : Value) (i : Int) (p n : Nat) (ws : List (BitVec 64)) (h1 : Heap) (m : Nat) (t : List Value) (h2 : Heap) : Prop :=
  ∃ (j c : Nat) (e : List (Nat × Value)), m = n - j ∧ j ≤ n ∧ t = envT 141 ((0, v0) :: (1, .int .i64 i) :: (5, ptr p) :: (6, .int .i64 c) :: (7, .int .i64 j) :: e) ∧ c = cnt (bit ws) j ∧ h2 = h1

theorem CInv.mk' {v0 : Value} {i : Int} {p n : Nat} {ws : List (BitVec 64)} {h1 : Heap} {j c : Nat} {l : List (Nat × Value)} (hj : j ≤ n) (hc : c = cnt (bit ws) j) (q0 : slot l 0 = v0) (q1 : slot l 1 = .int .i64 i) (q5 : slot l 5 = ptr p) (q6 : slot l 6 = .int .i64 c) (q7 : slot l 7 = .int .i64 j) :
    CInv v0 i p n ws h1 (n - j) (forget 1393780614432787650394534137574572184043747 (envT 141 l)) h1 := by
  obtain ⟨e, he⟩ := forget_some [0, 1, 5, 6, 7] keptB (keep := 1393780614432787650394534137574572184043747) (N := 141) (by decide) l
  refine ⟨j, c, e, rfl, hj, he.trans ?_, hc, rfl⟩
  simp [q0, q1, q5, q6, q7]

end Go.Ax
