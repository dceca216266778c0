/- Seat bits: three, awake. -/
import Derived.Test.YtahllahgeldjcaaDoorYF
import Derived.Test.YtahllahgeldjcaaDoorYT
import Derived.Test.YtahllahgeldjcaaDoorMH
namespace Go.Ax
set_option linter.unusedVariables false
set_option linter.unusedSimpArgs false
set_option maxRecDepth 1000000

theorem mm_min3 {h : Heap} {a b c : Int} : mmR P h false [.int .i64 a, .int .i64 b, .int .i64 c] = some (.int .i64 (min (min a b) c), h) := by
  have : pures P (Builtin.min_ #[] 0 #[.int .i64 a, .int .i64 b, .int .i64 c]) = some (.int .i64 (min (min a b) c)) := by
    have e : Builtin.min_ #[] 0 #[.int .i64 a, .int .i64 b, .int .i64 c] = Sem.pure (.int .i64 (min (min a b) c)) := by
      simp only [Builtin.min_, List.foldlM, Builtin.min2]
      show Sem.pure _ = Sem.pure _
      congr 2
      split <;> split <;> omega
    rw [e]; rfl
  simp [mmR, this, plain, plainN]

end Go.Ax
