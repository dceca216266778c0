/- The machine: strings made into bytes, strings cut. -/
import Derived.Test.YtpemffaclmpnnaaDoorMW
namespace Go.Ax
set_option linter.unusedVariables false
set_option linter.unusedSimpArgs false

section
variable {P : Program} {cf : CF} {t : List Value} {h : Heap}

def s2bR (h : Heap) : Value → Option (Value × Heap)
  | .string s => some (.slice (some (hnext h)) s.size gcap, hnew h (byteCells s.data.toList) 1)
  | _ => none

@[simp] theorem op_s2b {x : Operand} : runOp P cf (.s2b x) t h = s2bR h (evalT t x) := by
  unfold runOp s2bR; simp only [aop]
  generalize evalT t x = u
  cases u <;> rfl

def cutSR (h : Heap) (lo hi : Option Value) : Value → Option (Value × Heap)
  | .string s =>
    match optBound hi s.size s.size with
    | none => none
    | some u =>
      match optBound lo u 0 with
      | none => none
      | some l => some (.string (s.extract l u), h)
  | _ => none

@[simp] theorem op_slcStr {ty : TypeId} {x : Operand} {lo hi : Option Operand} : runOp P cf (.slcStr ty x lo hi) t h = cutSR h (lo.map (evalT t)) (hi.map (evalT t)) (evalT t x) := by
  unfold runOp cutSR; simp only [aop]
  generalize evalT t x = u
  cases u with
  | string s =>
    simp only
    cases optBound (hi.map (evalT t)) s.size s.size with
    | none => rfl
    | some a =>
      simp only
      cases optBound (lo.map (evalT t)) a 0 <;> rfl
  | _ => rfl

theorem byteCells_bstr (bs : List (BitVec 8)) : byteCells (bstr bs).data.toList = bs.map bv := by
  unfold byteCells bstr
  simp only [List.toList_toArray, List.map_map]
  apply List.map_congr_left
  intro x _
  simp [bv, bi]

/-- Bytes made of a string: memory of its own. -/
theorem s2b_bstr {bs : List (BitVec 8)} : ∃ v h1, s2bR h (.string (bstr bs)) = some (v, h1) ∧ Own h1 v h.dyn.length (bs.map bv) ∧ Grow h h1 ∧ h1.dyn.length = h.dyn.length + 1 ∧ v ≠ nilS := by
  refine ⟨_, _, rfl, .inr (.inl ⟨0, ?_, ?_⟩), ?_, ?_, by simp [nilS]⟩
  · rw [bstr_size]; simp
  · rw [byteCells_bstr]; exact RowAt.new _ _ _
  · exact Grow.new _ _ _
  · simp

theorem cut_bstr {bs : List (BitVec 8)} {k : Nat} (hk : k ≤ bs.length) : cutSR h (some (.int .i64 k)) none (.string (bstr bs)) = some (.string (bstr (bs.drop k)), h) := by
  have hs := bstr_size bs
  simp only [cutSR, optBound, asliceBound, hs]
  rw [if_pos (by omega)]
  simp only [Int.toNat_natCast]
  congr 3
  unfold bstr
  apply ByteArray.ext
  apply Array.ext'
  simp
  rw [List.take_of_length_le (by simp)]

theorem useHeap_b2s {x : Operand} : useHeap (.b2s x) = true := by simp [useHeap, isEff]
theorem useHeap_slcStr {ty : TypeId} {x : Operand} {lo hi : Option Operand} : useHeap (.slcStr ty x lo hi) = false := by simp [useHeap, isEff]

end
end Go.Ax
