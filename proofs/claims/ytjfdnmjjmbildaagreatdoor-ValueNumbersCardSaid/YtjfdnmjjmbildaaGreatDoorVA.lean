/- Seat value: floats over the abstract machine. -/
import Derived.Test.YtjfdnmjjmbildaaGreatDoorMX
import Derived.Test.YtjfdnmjjmbildaaGreatDoorXK
namespace Go.Ax
open Go.Proofs
set_option linter.unusedVariables false
set_option linter.unusedSimpArgs false

/-- How two words of 64 bits stand to each other as numbers. -/
def ford (a b : Nat) : Option Ordering := Ieee.double.order a b

section
variable {h : Heap} {ty : TypeId} {x y : Operand} {a b : Nat}

@[simp] theorem f_lss : abinop P h .lss ty .other x y (.float .f64 a) (.float .f64 b) = some (.bool (ford a b == some .lt)) := rfl
@[simp] theorem f_leq : abinop P h .leq ty .other x y (.float .f64 a) (.float .f64 b) = some (.bool (ford a b == some .lt || ford a b == some .eq)) := rfl
@[simp] theorem f_gtr : abinop P h .gtr ty .other x y (.float .f64 a) (.float .f64 b) = some (.bool (ford a b == some .gt)) := rfl
@[simp] theorem f_geq : abinop P h .geq ty .other x y (.float .f64 a) (.float .f64 b) = some (.bool (ford a b == some .gt || ford a b == some .eq)) := rfl
@[simp] theorem f_eql : abinop P h .eql ty .other x y (.float .f64 a) (.float .f64 b) = some (.bool (ford a b == some .eq)) := rfl
@[simp] theorem f_neq : abinop P h .neq ty .other x y (.float .f64 a) (.float .f64 b) = some (.bool (ford a b != some .eq)) := rfl
end

theorem bits_spec {h : Heap} {a : Nat} : Gives P T (.fn 33) [.float .f64 a] h fun v h' => v = .int .u64 a ∧ h' = h := by
  refine gives_ext rfl (v := .int .u64 a) ?_ ⟨rfl, rfl⟩
  kernel_rfl

theorem frombits_spec {h : Heap} {a : Int} : Gives P T (.fn 60) [.int .u64 a] h fun v h' => v = .float .f64 a.toNat ∧ h' = h := by
  refine gives_ext rfl (v := .float .f64 a.toNat) ?_ ⟨rfl, rfl⟩
  kernel_rfl

end Go.Ax
