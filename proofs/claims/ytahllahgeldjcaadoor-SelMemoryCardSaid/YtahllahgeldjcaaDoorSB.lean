/- Seat sel: methods called through an interface; what kind stands in one. -/
import Derived.Test.YtahllahgeldjcaaDoorMX
import Derived.Test.YtahllahgeldjcaaDoorYU
namespace Go.Ax
open Go.Proofs
set_option linter.unusedVariables false
set_option linter.unusedSimpArgs false
set_option maxRecDepth 1000000

def inv (P : Program) (h : Heap) (name : String) : Value → List Value → Option ARes
  | .iface ty v, args => match amethod P h ty v name with | some (f, rv) => some (.call (.fn f) (rv :: args)) | none => none
  | _, _ => none

section
variable {cf : CF} {t : List Value} {h : Heap}
@[simp] theorem op_invoke {r : Operand} {name : String} {args : List Operand} : runOp P cf (.invoke r name args) t h = callR cf h (inv P h name (evalT t r) (args.map (evalT t))) := by
  unfold runOp callR inv; simp only [aop]
  cases evalT t r with
  | iface ty v =>
    dsimp only
    generalize amethod P h ty v name = m
    cases m with
    | none => rfl
    | some q => rfl
  | _ => rfl

@[simp] theorem asrt_hit {x : Operand} {t' : TypeId} {zero v : Value} (hx : evalT t x = .iface t' v) : runOp P cf (.asrt x t' none zero true) t h = some (.tuple #[v, .bool true], h) := by
  unfold runOp; simp only [aop, hx]; simp
@[simp] theorem asrt_miss {x : Operand} {t' s : TypeId} {zero v : Value} (hx : evalT t x = .iface s v) (hs : s ≠ t') : runOp P cf (.asrt x t' none zero true) t h = some (.tuple #[zero, .bool false], h) := by
  unfold runOp; simp only [aop, hx]; simp [hs]
end

abbrev denseC (p : Nat) : Value := .agg #[ptr p]
abbrev sparseC (n : Nat) (sl : Value) : Value := .agg #[.int .i64 n, sl]

section
variable {h : Heap} {p n : Nat} {sl : Value} {args : List Value}
@[simp] theorem d_len : inv P h "Len" (.iface 53 (.agg #[.pointer (some ⟨p, 0, some 0⟩)])) args = some (.call (.fn F_bits_Set_Len) (ptr p :: args)) := by kernel_rfl
@[simp] theorem d_count : inv P h "Count" (.iface 53 (.agg #[.pointer (some ⟨p, 0, some 0⟩)])) args = some (.call (.fn F_bits_Set_Count) (ptr p :: args)) := by kernel_rfl
@[simp] theorem d_bits : inv P h "Bits" (.iface 53 (.agg #[.pointer (some ⟨p, 0, some 0⟩)])) args = some (.call (.fn F_sel_Dense_Bits) (denseC p :: args)) := by kernel_rfl
@[simp] theorem d_list : inv P h "List" (.iface 53 (.agg #[.pointer (some ⟨p, 0, some 0⟩)])) args = some (.call (.fn F_sel_Dense_List) (denseC p :: args)) := by kernel_rfl
@[simp] theorem d_has : inv P h "Has" (.iface 53 (.agg #[.pointer (some ⟨p, 0, some 0⟩)])) args = some (.call (.fn F_sel_Dense_Has) (denseC p :: args)) := by kernel_rfl
@[simp] theorem d_all : inv P h "All" (.iface 53 (.agg #[.pointer (some ⟨p, 0, some 0⟩)])) args = some (.call (.fn F_bits_Set_All) (ptr p :: args)) := by kernel_rfl
@[simp] theorem s_len : inv P h "Len" (.iface 80 (.agg #[.int .i64 n, sl])) args = some (.call (.fn F_sel_Sparse_Len) (sparseC n sl :: args)) := by kernel_rfl
@[simp] theorem s_count : inv P h "Count" (.iface 80 (.agg #[.int .i64 n, sl])) args = some (.call (.fn F_sel_Sparse_Count) (sparseC n sl :: args)) := by kernel_rfl
@[simp] theorem s_bits : inv P h "Bits" (.iface 80 (.agg #[.int .i64 n, sl])) args = some (.call (.fn F_sel_Sparse_Bits) (sparseC n sl :: args)) := by kernel_rfl
@[simp] theorem s_list : inv P h "List" (.iface 80 (.agg #[.int .i64 n, sl])) args = some (.call (.fn F_sel_Sparse_List) (sparseC n sl :: args)) := by kernel_rfl
@[simp] theorem s_has : inv P h "Has" (.iface 80 (.agg #[.int .i64 n, sl])) args = some (.call (.fn F_sel_Sparse_Has) (sparseC n sl :: args)) := by kernel_rfl
@[simp] theorem s_all : inv P h "All" (.iface 80 (.agg #[.int .i64 n, sl])) args = some (.call (.fn F_sel_Sparse_All) (sparseC n sl :: args)) := by kernel_rfl
end

end Go.Ax
