/- Seat valuec: a string's copy, by the library's proved summary. -/
import Derived.Test.YtjfdnmjjmbildaaGreatDoorXKf
import Derived.Test.YtjfdnmjjmbildaaGreatDoorMH
import Derived.Shelf.Pu.Clone
namespace Go.Ax
open Go.Proofs Go.Shelf
set_option linter.unusedVariables false
set_option linter.unusedSimpArgs false
set_option maxRecDepth 1000000

/-- What a string's copy comes to: that string. -/
def c_cloneS : AFn := ⟨.seq (.ops [⟨some 2, .lenS (.tmp 0), none, false, 0, 0⟩, ⟨some 3, .bin .leq 3 .other (.tmp 2) (.const (.int .i64 281474976710656)), none, false, 0, 0⟩]) (.cond (.tmp 3) .ret .bad), 1048576, [.tmp 0]⟩

def renC : Ren := ⟨fun n => if n = 25 then 89 else n, fun n => if n = 37 then 73 else if n = 47 then 137 else n, fun n => n⟩

theorem laysC : LaysPu.n25 P renC where
  mixed := by kernel_rfl
  f25 := by kernel_rfl
  t0 := Tryz.underlying0
  a0 := Tryz.isAgg0
  z0 := Tryz.sizeOf0
  v0 := Tryz.zeroValue0
  i0 := by kernel_rfl
  t3 := Tryz.underlying3
  a3 := Tryz.isAgg3
  z3 := Tryz.sizeOf3
  v3 := Tryz.zeroValue3
  i3 := by kernel_rfl
  t4 := Tryz.underlying4
  a4 := Tryz.isAgg4
  z4 := Tryz.sizeOf4
  v4 := Tryz.zeroValue4
  i4 := by kernel_rfl
  t5 := Tryz.underlying5
  a5 := Tryz.isAgg5
  z5 := Tryz.sizeOf5
  v5 := Tryz.zeroValue5
  i5 := by kernel_rfl
  t9 := Tryz.underlying9
  a9 := Tryz.isAgg9
  z9 := Tryz.sizeOf9
  v9 := Tryz.zeroValue9
  i9 := by kernel_rfl
  t37 := Tryz.underlying73
  a37 := Tryz.isAgg73
  z37 := Tryz.sizeOf73
  v37 := Tryz.zeroValue73
  i37 := by kernel_rfl
  t47 := Tryz.underlying137
  a47 := Tryz.isAgg137
  z47 := Tryz.sizeOf137
  v47 := Tryz.zeroValue137
  i47 := by kernel_rfl

theorem run_clone {cf : CF} {n : Nat} {args : List Value} {h : Heap} {v : Value} {h' : Heap} (hr : runFn P cf n c_cloneS args h = some (v, h')) : ∃ s, args = [.string s] ∧ s.size ≤ 281474976710656 ∧ v = .string s ∧ h' = h := by
  unfold runFn at hr
  rw [if_neg (by simp [c_cloneS, specN])] at hr
  split at hr
  case isFalse => simp at hr
  rename_i hl
  obtain ⟨x, rfl⟩ := List.length_eq_one_iff.1 hl
  unfold runBody at hr
  cases x with
  | string s =>
    by_cases hs : s.size ≤ 281474976710656
    · have h1 : decide ((s.size : Int) ≤ 281474976710656) = true := decide_eq_true (by omega)
      simp [c_cloneS, aexec, runOps, runOp, aop, evalT, wantedA, putT, abinop, abin, h1, resVals, oneOf, plain, plainN, toVal] at hr
      exact ⟨s, rfl, hs, hr.1.symm, hr.2.symm⟩
    · have h1 : decide ((s.size : Int) ≤ 281474976710656) = false := decide_eq_false (by omega)
      simp [c_cloneS, aexec, runOps, runOp, aop, evalT, wantedA, putT, abinop, abin, h1, plain, plainN, toVal] at hr
  | _ => simp [c_cloneS, aexec, runOps, runOp, aop, evalT, wantedA, plain, plainN, toVal] at hr

theorem clone_ok : FnOk P 89 c_cloneS := by
  intro B cf n args h v h' hr g w args' R hl
  obtain ⟨s, rfl, hs, rfl, rfl⟩ := run_clone hr
  have hsz := hl.1
  have e : args' = #[.string s] := by
    apply Array.toList_inj.1
    have h1 : args'.toList.length = 1 := by simpa using hsz.symm
    obtain ⟨y, hy⟩ := List.length_eq_one_iff.1 h1
    have h2 := hl.2 0 (.string s) y rfl (by rw [hy]; rfl)
    rw [hy]
    cases h2
    rfl
  subst e
  refine callsIn_wide.2 ((AnyPu.stringslite_Clone (P := P) (ρ := renC) laysC s w hs).mono ?_)
  rintro e w' ⟨rfl, b⟩
  obtain ⟨R', E'⟩ := R.below b
  exact ⟨.string s, g, rfl, .string s, R', E'⟩

end Go.Ax
