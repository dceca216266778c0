/- What the program's functions come to (written by a program of mine, mkac.py). -/
import Derived.Test.YtpkllocdpgfboaaXK0
namespace Go.Ax
set_option linter.unusedVariables false
set_option maxRecDepth 100000
open Go.Proofs
def T : Table := fun f => match f with
  | 3 => some c_colonnadelaw05_ValueMakes
  | 4 => some c_colonnadelaw05_ValueTruths
  | 5 => some c_colonnadelaw05_ValueMays
  | 6 => some c_colonnadelaw05_ValueCompares
  | 7 => some c_value_Int
  | 8 => some c_value_Text
  | 9 => some c_colonnaderef05_Same
  | 10 => some c_value_Real
  | 11 => some c_colonnaderef05_Real
  | 12 => some c_value_None
  | 13 => some c_value_And
  | 14 => some c_value_Or
  | 15 => some c_colonnaderef05_And
  | 16 => some c_colonnaderef05_Or
  | 17 => some c_value_Not
  | 18 => some c_colonnaderef05_Not
  | 19 => some c_value_May
  | 20 => some c_colonnaderef05_May
  | 21 => some c_value_Fits
  | 22 => some c_colonnaderef05_Fits
  | 23 => some c_value_Compare
  | 24 => some c_colonnaderef05_Compare
  | 26 => some c_math_IsNaN
  | 27 => some c_math_IsInf
  | 28 => some c_math_Abs
  | 29 => some c_colonnaderef05_sign
  | 30 => some c_value_most
  | 31 => some c_colonnaderef05_rank
  | 32 => some c_colonnaderef05_truth
  | 33 => some c_colonnaderef05_plus
  | 34 => some c_math_Signbit
  | 35 => some c_cmp_Compare_int
  | 36 => some c_value_class
  | 37 => some c_strings_Compare
  | 38 => some c_cmp_Compare_int64
  | 39 => some c_cmp_Compare_float64
  | 40 => some c_cmp_Or_int
  | 41 => some c_value_against
  | 42 => some c_colonnaderef05_class
  | 43 => some c_colonnaderef05_less
  | 44 => some c_colonnaderef05_texts
  | 45 => some c_colonnaderef05_numbers
  | 47 => some c_value_rank
  | 48 => some c_cmp_isNaN_int
  | 49 => some c_internal_bytealg_CompareString
  | 50 => some c_cmp_isNaN_int64
  | 51 => some c_cmp_isNaN_float64
  | 52 => some c_colonnaderef05_ints
  | 53 => some c_math_Trunc
  | 56 => some c_math_trunc
  | 57 => some c_math_Copysign
  | _ => none
theorem t_colonnadelaw05_ValueMakes : T F_colonnadelaw05_ValueMakes = some c_colonnadelaw05_ValueMakes := rfl
theorem t_colonnadelaw05_ValueTruths : T F_colonnadelaw05_ValueTruths = some c_colonnadelaw05_ValueTruths := rfl
theorem t_colonnadelaw05_ValueMays : T F_colonnadelaw05_ValueMays = some c_colonnadelaw05_ValueMays := rfl
theorem t_colonnadelaw05_ValueCompares : T F_colonnadelaw05_ValueCompares = some c_colonnadelaw05_ValueCompares := rfl
theorem t_value_Int : T F_value_Int = some c_value_Int := rfl
theorem t_value_Text : T F_value_Text = some c_value_Text := rfl
theorem t_colonnaderef05_Same : T F_colonnaderef05_Same = some c_colonnaderef05_Same := rfl
theorem t_value_Real : T F_value_Real = some c_value_Real := rfl
theorem t_colonnaderef05_Real : T F_colonnaderef05_Real = some c_colonnaderef05_Real := rfl
theorem t_value_None : T F_value_None = some c_value_None := rfl
theorem t_value_And : T F_value_And = some c_value_And := rfl
theorem t_value_Or : T F_value_Or = some c_value_Or := rfl
theorem t_colonnaderef05_And : T F_colonnaderef05_And = some c_colonnaderef05_And := rfl
theorem t_colonnaderef05_Or : T F_colonnaderef05_Or = some c_colonnaderef05_Or := rfl
theorem t_value_Not : T F_value_Not = some c_value_Not := rfl
theorem t_colonnaderef05_Not : T F_colonnaderef05_Not = some c_colonnaderef05_Not := rfl
theorem t_value_May : T F_value_May = some c_value_May := rfl
theorem t_colonnaderef05_May : T F_colonnaderef05_May = some c_colonnaderef05_May := rfl
theorem t_value_Fits : T F_value_Fits = some c_value_Fits := rfl
theorem t_colonnaderef05_Fits : T F_colonnaderef05_Fits = some c_colonnaderef05_Fits := rfl
theorem t_value_Compare : T F_value_Compare = some c_value_Compare := rfl
theorem t_colonnaderef05_Compare : T F_colonnaderef05_Compare = some c_colonnaderef05_Compare := rfl
theorem t_math_IsNaN : T F_math_IsNaN = some c_math_IsNaN := rfl
theorem t_math_IsInf : T F_math_IsInf = some c_math_IsInf := rfl
theorem t_math_Abs : T F_math_Abs = some c_math_Abs := rfl
theorem t_colonnaderef05_sign : T F_colonnaderef05_sign = some c_colonnaderef05_sign := rfl
theorem t_value_most : T F_value_most = some c_value_most := rfl
theorem t_colonnaderef05_rank : T F_colonnaderef05_rank = some c_colonnaderef05_rank := rfl
theorem t_colonnaderef05_truth : T F_colonnaderef05_truth = some c_colonnaderef05_truth := rfl
theorem t_colonnaderef05_plus : T F_colonnaderef05_plus = some c_colonnaderef05_plus := rfl
theorem t_math_Signbit : T F_math_Signbit = some c_math_Signbit := rfl
theorem t_cmp_Compare_int : T F_cmp_Compare_int = some c_cmp_Compare_int := rfl
theorem t_value_class : T F_value_class = some c_value_class := rfl
theorem t_strings_Compare : T F_strings_Compare = some c_strings_Compare := rfl
theorem t_cmp_Compare_int64 : T F_cmp_Compare_int64 = some c_cmp_Compare_int64 := rfl
theorem t_cmp_Compare_float64 : T F_cmp_Compare_float64 = some c_cmp_Compare_float64 := rfl
theorem t_cmp_Or_int : T F_cmp_Or_int = some c_cmp_Or_int := rfl
theorem t_value_against : T F_value_against = some c_value_against := rfl
theorem t_colonnaderef05_class : T F_colonnaderef05_class = some c_colonnaderef05_class := rfl
theorem t_colonnaderef05_less : T F_colonnaderef05_less = some c_colonnaderef05_less := rfl
theorem t_colonnaderef05_texts : T F_colonnaderef05_texts = some c_colonnaderef05_texts := rfl
theorem t_colonnaderef05_numbers : T F_colonnaderef05_numbers = some c_colonnaderef05_numbers := rfl
theorem t_value_rank : T F_value_rank = some c_value_rank := rfl
theorem t_cmp_isNaN_int : T F_cmp_isNaN_int = some c_cmp_isNaN_int := rfl
theorem t_internal_bytealg_CompareString : T F_internal_bytealg_CompareString = some c_internal_bytealg_CompareString := rfl
theorem t_cmp_isNaN_int64 : T F_cmp_isNaN_int64 = some c_cmp_isNaN_int64 := rfl
theorem t_cmp_isNaN_float64 : T F_cmp_isNaN_float64 = some c_cmp_isNaN_float64 := rfl
theorem t_colonnaderef05_ints : T F_colonnaderef05_ints = some c_colonnaderef05_ints := rfl
theorem t_math_Trunc : T F_math_Trunc = some c_math_Trunc := rfl
theorem t_math_trunc : T F_math_trunc = some c_math_trunc := rfl
theorem t_math_Copysign : T F_math_Copysign = some c_math_Copysign := rfl
theorem T_ok : TableOk P T := by
  intro f a h
  unfold T at h
  split at h
  · obtain rfl := Option.some.inj h; exact ⟨Try.f3, Try.func3, k_colonnadelaw05_ValueMakes, by kernel_rfl, by kernel_rfl⟩
  · obtain rfl := Option.some.inj h; exact ⟨Try.f4, Try.func4, k_colonnadelaw05_ValueTruths, by kernel_rfl, by kernel_rfl⟩
  · obtain rfl := Option.some.inj h; exact ⟨Try.f5, Try.func5, k_colonnadelaw05_ValueMays, by kernel_rfl, by kernel_rfl⟩
  · obtain rfl := Option.some.inj h; exact ⟨Try.f6, Try.func6, k_colonnadelaw05_ValueCompares, by kernel_rfl, by kernel_rfl⟩
  · obtain rfl := Option.some.inj h; exact ⟨Try.f7, Try.func7, k_value_Int, by kernel_rfl, by kernel_rfl⟩
  · obtain rfl := Option.some.inj h; exact ⟨Try.f8, Try.func8, k_value_Text, by kernel_rfl, by kernel_rfl⟩
  · obtain rfl := Option.some.inj h; exact ⟨Try.f9, Try.func9, k_colonnaderef05_Same, by kernel_rfl, by kernel_rfl⟩
  · obtain rfl := Option.some.inj h; exact ⟨Try.f10, Try.func10, k_value_Real, by kernel_rfl, by kernel_rfl⟩
  · obtain rfl := Option.some.inj h; exact ⟨Try.f11, Try.func11, k_colonnaderef05_Real, by kernel_rfl, by kernel_rfl⟩
  · obtain rfl := Option.some.inj h; exact ⟨Try.f12, Try.func12, k_value_None, by kernel_rfl, by kernel_rfl⟩
  · obtain rfl := Option.some.inj h; exact ⟨Try.f13, Try.func13, k_value_And, by kernel_rfl, by kernel_rfl⟩
  · obtain rfl := Option.some.inj h; exact ⟨Try.f14, Try.func14, k_value_Or, by kernel_rfl, by kernel_rfl⟩
  · obtain rfl := Option.some.inj h; exact ⟨Try.f15, Try.func15, k_colonnaderef05_And, by kernel_rfl, by kernel_rfl⟩
  · obtain rfl := Option.some.inj h; exact ⟨Try.f16, Try.func16, k_colonnaderef05_Or, by kernel_rfl, by kernel_rfl⟩
  · obtain rfl := Option.some.inj h; exact ⟨Try.f17, Try.func17, k_value_Not, by kernel_rfl, by kernel_rfl⟩
  · obtain rfl := Option.some.inj h; exact ⟨Try.f18, Try.func18, k_colonnaderef05_Not, by kernel_rfl, by kernel_rfl⟩
  · obtain rfl := Option.some.inj h; exact ⟨Try.f19, Try.func19, k_value_May, by kernel_rfl, by kernel_rfl⟩
  · obtain rfl := Option.some.inj h; exact ⟨Try.f20, Try.func20, k_colonnaderef05_May, by kernel_rfl, by kernel_rfl⟩
  · obtain rfl := Option.some.inj h; exact ⟨Try.f21, Try.func21, k_value_Fits, by kernel_rfl, by kernel_rfl⟩
  · obtain rfl := Option.some.inj h; exact ⟨Try.f22, Try.func22, k_colonnaderef05_Fits, by kernel_rfl, by kernel_rfl⟩
  · obtain rfl := Option.some.inj h; exact ⟨Try.f23, Try.func23, k_value_Compare, by kernel_rfl, by kernel_rfl⟩
  · obtain rfl := Option.some.inj h; exact ⟨Try.f24, Try.func24, k_colonnaderef05_Compare, by kernel_rfl, by kernel_rfl⟩
  · obtain rfl := Option.some.inj h; exact ⟨Try.f26, Try.func26, k_math_IsNaN, by kernel_rfl, by kernel_rfl⟩
  · obtain rfl := Option.some.inj h; exact ⟨Try.f27, Try.func27, k_math_IsInf, by kernel_rfl, by kernel_rfl⟩
  · obtain rfl := Option.some.inj h; exact ⟨Try.f28, Try.func28, k_math_Abs, by kernel_rfl, by kernel_rfl⟩
  · obtain rfl := Option.some.inj h; exact ⟨Try.f29, Try.func29, k_colonnaderef05_sign, by kernel_rfl, by kernel_rfl⟩
  · obtain rfl := Option.some.inj h; exact ⟨Try.f30, Try.func30, k_value_most, by kernel_rfl, by kernel_rfl⟩
  · obtain rfl := Option.some.inj h; exact ⟨Try.f31, Try.func31, k_colonnaderef05_rank, by kernel_rfl, by kernel_rfl⟩
  · obtain rfl := Option.some.inj h; exact ⟨Try.f32, Try.func32, k_colonnaderef05_truth, by kernel_rfl, by kernel_rfl⟩
  · obtain rfl := Option.some.inj h; exact ⟨Try.f33, Try.func33, k_colonnaderef05_plus, by kernel_rfl, by kernel_rfl⟩
  · obtain rfl := Option.some.inj h; exact ⟨Try.f34, Try.func34, k_math_Signbit, by kernel_rfl, by kernel_rfl⟩
  · obtain rfl := Option.some.inj h; exact ⟨Try.f35, Try.func35, k_cmp_Compare_int, by kernel_rfl, by kernel_rfl⟩
  · obtain rfl := Option.some.inj h; exact ⟨Try.f36, Try.func36, k_value_class, by kernel_rfl, by kernel_rfl⟩
  · obtain rfl := Option.some.inj h; exact ⟨Try.f37, Try.func37, k_strings_Compare, by kernel_rfl, by kernel_rfl⟩
  · obtain rfl := Option.some.inj h; exact ⟨Try.f38, Try.func38, k_cmp_Compare_int64, by kernel_rfl, by kernel_rfl⟩
  · obtain rfl := Option.some.inj h; exact ⟨Try.f39, Try.func39, k_cmp_Compare_float64, by kernel_rfl, by kernel_rfl⟩
  · obtain rfl := Option.some.inj h; exact ⟨Try.f40, Try.func40, k_cmp_Or_int, by kernel_rfl, by kernel_rfl⟩
  · obtain rfl := Option.some.inj h; exact ⟨Try.f41, Try.func41, k_value_against, by kernel_rfl, by kernel_rfl⟩
  · obtain rfl := Option.some.inj h; exact ⟨Try.f42, Try.func42, k_colonnaderef05_class, by kernel_rfl, by kernel_rfl⟩
  · obtain rfl := Option.some.inj h; exact ⟨Try.f43, Try.func43, k_colonnaderef05_less, by kernel_rfl, by kernel_rfl⟩
  · obtain rfl := Option.some.inj h; exact ⟨Try.f44, Try.func44, k_colonnaderef05_texts, by kernel_rfl, by kernel_rfl⟩
  · obtain rfl := Option.some.inj h; exact ⟨Try.f45, Try.func45, k_colonnaderef05_numbers, by kernel_rfl, by kernel_rfl⟩
  · obtain rfl := Option.some.inj h; exact ⟨Try.f47, Try.func47, k_value_rank, by kernel_rfl, by kernel_rfl⟩
  · obtain rfl := Option.some.inj h; exact ⟨Try.f48, Try.func48, k_cmp_isNaN_int, by kernel_rfl, by kernel_rfl⟩
  · obtain rfl := Option.some.inj h; exact ⟨Try.f49, Try.func49, k_internal_bytealg_CompareString, by kernel_rfl, by kernel_rfl⟩
  · obtain rfl := Option.some.inj h; exact ⟨Try.f50, Try.func50, k_cmp_isNaN_int64, by kernel_rfl, by kernel_rfl⟩
  · obtain rfl := Option.some.inj h; exact ⟨Try.f51, Try.func51, k_cmp_isNaN_float64, by kernel_rfl, by kernel_rfl⟩
  · obtain rfl := Option.some.inj h; exact ⟨Try.f52, Try.func52, k_colonnaderef05_ints, by kernel_rfl, by kernel_rfl⟩
  · obtain rfl := Option.some.inj h; exact ⟨Try.f53, Try.func53, k_math_Trunc, by kernel_rfl, by kernel_rfl⟩
  · obtain rfl := Option.some.inj h; exact ⟨Try.f56, Try.func56, k_math_trunc, by kernel_rfl, by kernel_rfl⟩
  · obtain rfl := Option.some.inj h; exact ⟨Try.f57, Try.func57, k_math_Copysign, by kernel_rfl, by kernel_rfl⟩
  · simp at h
theorem mixed_ok : P.follows .mixedOrders = true := by kernel_rfl
end Go.Ax
