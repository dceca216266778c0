/- What the program's functions come to (written by a program of mine, mkac.py). -/
import Derived.Test.YtahllahgeldjcaaDoorXK0
import Derived.Test.YtahllahgeldjcaaDoorXK1
namespace Go.Ax
set_option linter.unusedVariables false
set_option maxRecDepth 100000
open Go.Proofs
def T : Table := fun f => match f with
  | 3 => some c_colonnadelaw04_SelAlgebra
  | 4 => some c_colonnadelaw04_SelNames
  | 5 => some c_colonnadelaw04_SelMemory
  | 6 => some c_colonnadelaw04_SelScripts
  | 7 => some c_colonnadelaw04_SelForms
  | 8 => some c_colonnadelaw04_awake
  | 9 => some c_sel_Make
  | 10 => some c_bits_Of
  | 11 => some c_sel_Meet
  | 12 => some c_sel_Join
  | 13 => some c_sel_Less
  | 14 => some c_sel_Not
  | 15 => some c_sel_At
  | 16 => some c_colonnadelaw04_alike
  | 17 => some c_sel_None
  | 18 => some c_sel_Whole
  | 19 => some c_sel_Cut
  | 20 => some c_sel_Same
  | 21 => some c_bits_Set_Words
  | 22 => some c_colonnadelaw04_sameInts
  | 23 => some c_colonnadelaw04_sameWords
  | 24 => some c_colonnadelaw04_apart
  | 25 => some c_bits_Set_Put
  | 26 => some c_bits_Set_Get
  | 27 => some c_colonnadelaw04_again
  | 28 => some c_colonnaderef01_New
  | 29 => some c_colonnadelaw04_world_told
  | 30 => some c_colonnadelaw04_world_made
  | 31 => some c_colonnadelaw04_says
  | 32 => some c_colonnadelaw04_formed
  | 33 => some c_colonnadelaw04_pick
  | 34 => some c_colonnadelaw04_twins
  | 35 => some c_colonnadelaw04_thinned
  | 36 => some c_colonnadelaw04_walked
  | 37 => some c_bits_Set_Count
  | 38 => some c_sel_own
  | 39 => some c_bits_Set_Clone
  | 40 => some c_bits_New
  | 41 => some c_sel_look
  | 42 => some c_bits_Set_And
  | 43 => some c_sel_set
  | 44 => some c_bits_Set_Or
  | 45 => some c_bits_Set_Less
  | 46 => some c_bits_Set_Not
  | 47 => some c_bits_Set_Slice
  | 48 => some c_slices_Equal_int_int
  | 49 => some c_slices_Clone_uint64_uint64
  | 50 => some c_bits_Set_Len
  | 51 => some c_colonnaderef01_Put
  | 52 => some c_colonnaderef04_Same
  | 53 => some c_colonnaderef01_All
  | 54 => some c_colonnaderef01_Get
  | 55 => some c_colonnaderef01_Of
  | 56 => some c_colonnaderef04_At
  | 57 => some c_colonnaderef04_Whole
  | 58 => some c_colonnadelaw04_world_several
  | 59 => some c_colonnaderef04_Meet
  | 60 => some c_colonnadelaw04_world_kept
  | 61 => some c_colonnaderef04_Join
  | 62 => some c_colonnaderef04_Less
  | 63 => some c_colonnaderef01_Not
  | 64 => some c_colonnaderef01_Slice
  | 65 => some c_colonnaderef01_Words
  | 66 => some c_colonnaderef04_Sparse
  | 67 => some c_bits_Set_Rank
  | 68 => some c_sel_few
  | 69 => some c_slices_Collect_int
  | 70 => some c_bits_Set_All
  | 71 => some c_bits_words
  | 72 => some c_slices_Contains_sel_Sel_sel_Sel
  | 73 => some c_bits_Set_both
  | 74 => some c_bits_Set_And_1
  | 75 => some c_bits_Set_Or_1
  | 76 => some c_bits_Set_Less_1
  | 77 => some c_bits_Set_trim
  | 78 => some c_colonnaderef01_Clone
  | 79 => some c_colonnaderef04_many
  | 80 => some c_colonnaderef01_clamp
  | 81 => some c_math_bits_OnesCount64
  | 82 => some c_slices_AppendSeq_int_int
  | 83 => some c_bits_Set_All_1
  | 84 => some c_math_bits_TrailingZeros64
  | 85 => some c_slices_Index_sel_Sel_sel_Sel
  | 86 => some c_colonnaderef01_Both
  | 104 => some c_sel_Dense_Bits
  | 105 => some c_sel_Dense_Has
  | 106 => some c_sel_Dense_List
  | 107 => some c_sel_Sparse_All
  | 108 => some c_sel_Sparse_Bits
  | 109 => some c_sel_Sparse_Count
  | 110 => some c_sel_Sparse_Has
  | 111 => some c_sel_Sparse_Len
  | 112 => some c_sel_Sparse_List
  | 113 => some c_slices_Values_int_int
  | 114 => some c_slices_BinarySearch_int_int
  | 115 => some c_slices_Clone_int_int
  | 116 => some c_slices_Values_int_int_1
  | 117 => some c_cmp_Less_int
  | 118 => some c_slices_isNaN_int
  | 119 => some c_cmp_isNaN_int
  | _ => none
theorem t_colonnadelaw04_SelAlgebra : T F_colonnadelaw04_SelAlgebra = some c_colonnadelaw04_SelAlgebra := rfl
theorem t_colonnadelaw04_SelNames : T F_colonnadelaw04_SelNames = some c_colonnadelaw04_SelNames := rfl
theorem t_colonnadelaw04_SelMemory : T F_colonnadelaw04_SelMemory = some c_colonnadelaw04_SelMemory := rfl
theorem t_colonnadelaw04_SelScripts : T F_colonnadelaw04_SelScripts = some c_colonnadelaw04_SelScripts := rfl
theorem t_colonnadelaw04_SelForms : T F_colonnadelaw04_SelForms = some c_colonnadelaw04_SelForms := rfl
theorem t_colonnadelaw04_awake : T F_colonnadelaw04_awake = some c_colonnadelaw04_awake := rfl
theorem t_sel_Make : T F_sel_Make = some c_sel_Make := rfl
theorem t_bits_Of : T F_bits_Of = some c_bits_Of := rfl
theorem t_sel_Meet : T F_sel_Meet = some c_sel_Meet := rfl
theorem t_sel_Join : T F_sel_Join = some c_sel_Join := rfl
theorem t_sel_Less : T F_sel_Less = some c_sel_Less := rfl
theorem t_sel_Not : T F_sel_Not = some c_sel_Not := rfl
theorem t_sel_At : T F_sel_At = some c_sel_At := rfl
theorem t_colonnadelaw04_alike : T F_colonnadelaw04_alike = some c_colonnadelaw04_alike := rfl
theorem t_sel_None : T F_sel_None = some c_sel_None := rfl
theorem t_sel_Whole : T F_sel_Whole = some c_sel_Whole := rfl
theorem t_sel_Cut : T F_sel_Cut = some c_sel_Cut := rfl
theorem t_sel_Same : T F_sel_Same = some c_sel_Same := rfl
theorem t_bits_Set_Words : T F_bits_Set_Words = some c_bits_Set_Words := rfl
theorem t_colonnadelaw04_sameInts : T F_colonnadelaw04_sameInts = some c_colonnadelaw04_sameInts := rfl
theorem t_colonnadelaw04_sameWords : T F_colonnadelaw04_sameWords = some c_colonnadelaw04_sameWords := rfl
theorem t_colonnadelaw04_apart : T F_colonnadelaw04_apart = some c_colonnadelaw04_apart := rfl
theorem t_bits_Set_Put : T F_bits_Set_Put = some c_bits_Set_Put := rfl
theorem t_bits_Set_Get : T F_bits_Set_Get = some c_bits_Set_Get := rfl
theorem t_colonnadelaw04_again : T F_colonnadelaw04_again = some c_colonnadelaw04_again := rfl
theorem t_colonnaderef01_New : T F_colonnaderef01_New = some c_colonnaderef01_New := rfl
theorem t_colonnadelaw04_world_told : T F_colonnadelaw04_world_told = some c_colonnadelaw04_world_told := rfl
theorem t_colonnadelaw04_world_made : T F_colonnadelaw04_world_made = some c_colonnadelaw04_world_made := rfl
theorem t_colonnadelaw04_says : T F_colonnadelaw04_says = some c_colonnadelaw04_says := rfl
theorem t_colonnadelaw04_formed : T F_colonnadelaw04_formed = some c_colonnadelaw04_formed := rfl
theorem t_colonnadelaw04_pick : T F_colonnadelaw04_pick = some c_colonnadelaw04_pick := rfl
theorem t_colonnadelaw04_twins : T F_colonnadelaw04_twins = some c_colonnadelaw04_twins := rfl
theorem t_colonnadelaw04_thinned : T F_colonnadelaw04_thinned = some c_colonnadelaw04_thinned := rfl
theorem t_colonnadelaw04_walked : T F_colonnadelaw04_walked = some c_colonnadelaw04_walked := rfl
theorem t_bits_Set_Count : T F_bits_Set_Count = some c_bits_Set_Count := rfl
theorem t_sel_own : T F_sel_own = some c_sel_own := rfl
theorem t_bits_Set_Clone : T F_bits_Set_Clone = some c_bits_Set_Clone := rfl
theorem t_bits_New : T F_bits_New = some c_bits_New := rfl
theorem t_sel_look : T F_sel_look = some c_sel_look := rfl
theorem t_bits_Set_And : T F_bits_Set_And = some c_bits_Set_And := rfl
theorem t_sel_set : T F_sel_set = some c_sel_set := rfl
theorem t_bits_Set_Or : T F_bits_Set_Or = some c_bits_Set_Or := rfl
theorem t_bits_Set_Less : T F_bits_Set_Less = some c_bits_Set_Less := rfl
theorem t_bits_Set_Not : T F_bits_Set_Not = some c_bits_Set_Not := rfl
theorem t_bits_Set_Slice : T F_bits_Set_Slice = some c_bits_Set_Slice := rfl
theorem t_slices_Equal_int_int : T F_slices_Equal_int_int = some c_slices_Equal_int_int := rfl
theorem t_slices_Clone_uint64_uint64 : T F_slices_Clone_uint64_uint64 = some c_slices_Clone_uint64_uint64 := rfl
theorem t_bits_Set_Len : T F_bits_Set_Len = some c_bits_Set_Len := rfl
theorem t_colonnaderef01_Put : T F_colonnaderef01_Put = some c_colonnaderef01_Put := rfl
theorem t_colonnaderef04_Same : T F_colonnaderef04_Same = some c_colonnaderef04_Same := rfl
theorem t_colonnaderef01_All : T F_colonnaderef01_All = some c_colonnaderef01_All := rfl
theorem t_colonnaderef01_Get : T F_colonnaderef01_Get = some c_colonnaderef01_Get := rfl
theorem t_colonnaderef01_Of : T F_colonnaderef01_Of = some c_colonnaderef01_Of := rfl
theorem t_colonnaderef04_At : T F_colonnaderef04_At = some c_colonnaderef04_At := rfl
theorem t_colonnaderef04_Whole : T F_colonnaderef04_Whole = some c_colonnaderef04_Whole := rfl
theorem t_colonnadelaw04_world_several : T F_colonnadelaw04_world_several = some c_colonnadelaw04_world_several := rfl
theorem t_colonnaderef04_Meet : T F_colonnaderef04_Meet = some c_colonnaderef04_Meet := rfl
theorem t_colonnadelaw04_world_kept : T F_colonnadelaw04_world_kept = some c_colonnadelaw04_world_kept := rfl
theorem t_colonnaderef04_Join : T F_colonnaderef04_Join = some c_colonnaderef04_Join := rfl
theorem t_colonnaderef04_Less : T F_colonnaderef04_Less = some c_colonnaderef04_Less := rfl
theorem t_colonnaderef01_Not : T F_colonnaderef01_Not = some c_colonnaderef01_Not := rfl
theorem t_colonnaderef01_Slice : T F_colonnaderef01_Slice = some c_colonnaderef01_Slice := rfl
theorem t_colonnaderef01_Words : T F_colonnaderef01_Words = some c_colonnaderef01_Words := rfl
theorem t_colonnaderef04_Sparse : T F_colonnaderef04_Sparse = some c_colonnaderef04_Sparse := rfl
theorem t_bits_Set_Rank : T F_bits_Set_Rank = some c_bits_Set_Rank := rfl
theorem t_sel_few : T F_sel_few = some c_sel_few := rfl
theorem t_slices_Collect_int : T F_slices_Collect_int = some c_slices_Collect_int := rfl
theorem t_bits_Set_All : T F_bits_Set_All = some c_bits_Set_All := rfl
theorem t_bits_words : T F_bits_words = some c_bits_words := rfl
theorem t_slices_Contains_sel_Sel_sel_Sel : T F_slices_Contains_sel_Sel_sel_Sel = some c_slices_Contains_sel_Sel_sel_Sel := rfl
theorem t_bits_Set_both : T F_bits_Set_both = some c_bits_Set_both := rfl
theorem t_bits_Set_And_1 : T F_bits_Set_And_1 = some c_bits_Set_And_1 := rfl
theorem t_bits_Set_Or_1 : T F_bits_Set_Or_1 = some c_bits_Set_Or_1 := rfl
theorem t_bits_Set_Less_1 : T F_bits_Set_Less_1 = some c_bits_Set_Less_1 := rfl
theorem t_bits_Set_trim : T F_bits_Set_trim = some c_bits_Set_trim := rfl
theorem t_colonnaderef01_Clone : T F_colonnaderef01_Clone = some c_colonnaderef01_Clone := rfl
theorem t_colonnaderef04_many : T F_colonnaderef04_many = some c_colonnaderef04_many := rfl
theorem t_colonnaderef01_clamp : T F_colonnaderef01_clamp = some c_colonnaderef01_clamp := rfl
theorem t_math_bits_OnesCount64 : T F_math_bits_OnesCount64 = some c_math_bits_OnesCount64 := rfl
theorem t_slices_AppendSeq_int_int : T F_slices_AppendSeq_int_int = some c_slices_AppendSeq_int_int := rfl
theorem t_bits_Set_All_1 : T F_bits_Set_All_1 = some c_bits_Set_All_1 := rfl
theorem t_math_bits_TrailingZeros64 : T F_math_bits_TrailingZeros64 = some c_math_bits_TrailingZeros64 := rfl
theorem t_slices_Index_sel_Sel_sel_Sel : T F_slices_Index_sel_Sel_sel_Sel = some c_slices_Index_sel_Sel_sel_Sel := rfl
theorem t_colonnaderef01_Both : T F_colonnaderef01_Both = some c_colonnaderef01_Both := rfl
theorem t_sel_Dense_Bits : T F_sel_Dense_Bits = some c_sel_Dense_Bits := rfl
theorem t_sel_Dense_Has : T F_sel_Dense_Has = some c_sel_Dense_Has := rfl
theorem t_sel_Dense_List : T F_sel_Dense_List = some c_sel_Dense_List := rfl
theorem t_sel_Sparse_All : T F_sel_Sparse_All = some c_sel_Sparse_All := rfl
theorem t_sel_Sparse_Bits : T F_sel_Sparse_Bits = some c_sel_Sparse_Bits := rfl
theorem t_sel_Sparse_Count : T F_sel_Sparse_Count = some c_sel_Sparse_Count := rfl
theorem t_sel_Sparse_Has : T F_sel_Sparse_Has = some c_sel_Sparse_Has := rfl
theorem t_sel_Sparse_Len : T F_sel_Sparse_Len = some c_sel_Sparse_Len := rfl
theorem t_sel_Sparse_List : T F_sel_Sparse_List = some c_sel_Sparse_List := rfl
theorem t_slices_Values_int_int : T F_slices_Values_int_int = some c_slices_Values_int_int := rfl
theorem t_slices_BinarySearch_int_int : T F_slices_BinarySearch_int_int = some c_slices_BinarySearch_int_int := rfl
theorem t_slices_Clone_int_int : T F_slices_Clone_int_int = some c_slices_Clone_int_int := rfl
theorem t_slices_Values_int_int_1 : T F_slices_Values_int_int_1 = some c_slices_Values_int_int_1 := rfl
theorem t_cmp_Less_int : T F_cmp_Less_int = some c_cmp_Less_int := rfl
theorem t_slices_isNaN_int : T F_slices_isNaN_int = some c_slices_isNaN_int := rfl
theorem t_cmp_isNaN_int : T F_cmp_isNaN_int = some c_cmp_isNaN_int := rfl
theorem T_ok : TableOk P T := by
  intro f a h
  unfold T at h
  split at h
  · obtain rfl := Option.some.inj h; exact ⟨Tryd.f3, Tryd.func3, k_colonnadelaw04_SelAlgebra, by kernel_rfl, by kernel_rfl⟩
  · obtain rfl := Option.some.inj h; exact ⟨Tryd.f4, Tryd.func4, k_colonnadelaw04_SelNames, by kernel_rfl, by kernel_rfl⟩
  · obtain rfl := Option.some.inj h; exact ⟨Tryd.f5, Tryd.func5, k_colonnadelaw04_SelMemory, by kernel_rfl, by kernel_rfl⟩
  · obtain rfl := Option.some.inj h; exact ⟨Tryd.f6, Tryd.func6, k_colonnadelaw04_SelScripts, by kernel_rfl, by kernel_rfl⟩
  · obtain rfl := Option.some.inj h; exact ⟨Tryd.f7, Tryd.func7, k_colonnadelaw04_SelForms, by kernel_rfl, by kernel_rfl⟩
  · obtain rfl := Option.some.inj h; exact ⟨Tryd.f8, Tryd.func8, k_colonnadelaw04_awake, by kernel_rfl, by kernel_rfl⟩
  · obtain rfl := Option.some.inj h; exact ⟨Tryd.f9, Tryd.func9, k_sel_Make, by kernel_rfl, by kernel_rfl⟩
  · obtain rfl := Option.some.inj h; exact ⟨Tryd.f10, Tryd.func10, k_bits_Of, by kernel_rfl, by kernel_rfl⟩
  · obtain rfl := Option.some.inj h; exact ⟨Tryd.f11, Tryd.func11, k_sel_Meet, by kernel_rfl, by kernel_rfl⟩
  · obtain rfl := Option.some.inj h; exact ⟨Tryd.f12, Tryd.func12, k_sel_Join, by kernel_rfl, by kernel_rfl⟩
  · obtain rfl := Option.some.inj h; exact ⟨Tryd.f13, Tryd.func13, k_sel_Less, by kernel_rfl, by kernel_rfl⟩
  · obtain rfl := Option.some.inj h; exact ⟨Tryd.f14, Tryd.func14, k_sel_Not, by kernel_rfl, by kernel_rfl⟩
  · obtain rfl := Option.some.inj h; exact ⟨Tryd.f15, Tryd.func15, k_sel_At, by kernel_rfl, by kernel_rfl⟩
  · obtain rfl := Option.some.inj h; exact ⟨Tryd.f16, Tryd.func16, k_colonnadelaw04_alike, by kernel_rfl, by kernel_rfl⟩
  · obtain rfl := Option.some.inj h; exact ⟨Tryd.f17, Tryd.func17, k_sel_None, by kernel_rfl, by kernel_rfl⟩
  · obtain rfl := Option.some.inj h; exact ⟨Tryd.f18, Tryd.func18, k_sel_Whole, by kernel_rfl, by kernel_rfl⟩
  · obtain rfl := Option.some.inj h; exact ⟨Tryd.f19, Tryd.func19, k_sel_Cut, by kernel_rfl, by kernel_rfl⟩
  · obtain rfl := Option.some.inj h; exact ⟨Tryd.f20, Tryd.func20, k_sel_Same, by kernel_rfl, by kernel_rfl⟩
  · obtain rfl := Option.some.inj h; exact ⟨Tryd.f21, Tryd.func21, k_bits_Set_Words, by kernel_rfl, by kernel_rfl⟩
  · obtain rfl := Option.some.inj h; exact ⟨Tryd.f22, Tryd.func22, k_colonnadelaw04_sameInts, by kernel_rfl, by kernel_rfl⟩
  · obtain rfl := Option.some.inj h; exact ⟨Tryd.f23, Tryd.func23, k_colonnadelaw04_sameWords, by kernel_rfl, by kernel_rfl⟩
  · obtain rfl := Option.some.inj h; exact ⟨Tryd.f24, Tryd.func24, k_colonnadelaw04_apart, by kernel_rfl, by kernel_rfl⟩
  · obtain rfl := Option.some.inj h; exact ⟨Tryd.f25, Tryd.func25, k_bits_Set_Put, by kernel_rfl, by kernel_rfl⟩
  · obtain rfl := Option.some.inj h; exact ⟨Tryd.f26, Tryd.func26, k_bits_Set_Get, by kernel_rfl, by kernel_rfl⟩
  · obtain rfl := Option.some.inj h; exact ⟨Tryd.f27, Tryd.func27, k_colonnadelaw04_again, by kernel_rfl, by kernel_rfl⟩
  · obtain rfl := Option.some.inj h; exact ⟨Tryd.f28, Tryd.func28, k_colonnaderef01_New, by kernel_rfl, by kernel_rfl⟩
  · obtain rfl := Option.some.inj h; exact ⟨Tryd.f29, Tryd.func29, k_colonnadelaw04_world_told, by kernel_rfl, by kernel_rfl⟩
  · obtain rfl := Option.some.inj h; exact ⟨Tryd.f30, Tryd.func30, k_colonnadelaw04_world_made, by kernel_rfl, by kernel_rfl⟩
  · obtain rfl := Option.some.inj h; exact ⟨Tryd.f31, Tryd.func31, k_colonnadelaw04_says, by kernel_rfl, by kernel_rfl⟩
  · obtain rfl := Option.some.inj h; exact ⟨Tryd.f32, Tryd.func32, k_colonnadelaw04_formed, by kernel_rfl, by kernel_rfl⟩
  · obtain rfl := Option.some.inj h; exact ⟨Tryd.f33, Tryd.func33, k_colonnadelaw04_pick, by kernel_rfl, by kernel_rfl⟩
  · obtain rfl := Option.some.inj h; exact ⟨Tryd.f34, Tryd.func34, k_colonnadelaw04_twins, by kernel_rfl, by kernel_rfl⟩
  · obtain rfl := Option.some.inj h; exact ⟨Tryd.f35, Tryd.func35, k_colonnadelaw04_thinned, by kernel_rfl, by kernel_rfl⟩
  · obtain rfl := Option.some.inj h; exact ⟨Tryd.f36, Tryd.func36, k_colonnadelaw04_walked, by kernel_rfl, by kernel_rfl⟩
  · obtain rfl := Option.some.inj h; exact ⟨Tryd.f37, Tryd.func37, k_bits_Set_Count, by kernel_rfl, by kernel_rfl⟩
  · obtain rfl := Option.some.inj h; exact ⟨Tryd.f38, Tryd.func38, k_sel_own, by kernel_rfl, by kernel_rfl⟩
  · obtain rfl := Option.some.inj h; exact ⟨Tryd.f39, Tryd.func39, k_bits_Set_Clone, by kernel_rfl, by kernel_rfl⟩
  · obtain rfl := Option.some.inj h; exact ⟨Tryd.f40, Tryd.func40, k_bits_New, by kernel_rfl, by kernel_rfl⟩
  · obtain rfl := Option.some.inj h; exact ⟨Tryd.f41, Tryd.func41, k_sel_look, by kernel_rfl, by kernel_rfl⟩
  · obtain rfl := Option.some.inj h; exact ⟨Tryd.f42, Tryd.func42, k_bits_Set_And, by kernel_rfl, by kernel_rfl⟩
  · obtain rfl := Option.some.inj h; exact ⟨Tryd.f43, Tryd.func43, k_sel_set, by kernel_rfl, by kernel_rfl⟩
  · obtain rfl := Option.some.inj h; exact ⟨Tryd.f44, Tryd.func44, k_bits_Set_Or, by kernel_rfl, by kernel_rfl⟩
  · obtain rfl := Option.some.inj h; exact ⟨Tryd.f45, Tryd.func45, k_bits_Set_Less, by kernel_rfl, by kernel_rfl⟩
  · obtain rfl := Option.some.inj h; exact ⟨Tryd.f46, Tryd.func46, k_bits_Set_Not, by kernel_rfl, by kernel_rfl⟩
  · obtain rfl := Option.some.inj h; exact ⟨Tryd.f47, Tryd.func47, k_bits_Set_Slice, by kernel_rfl, by kernel_rfl⟩
  · obtain rfl := Option.some.inj h; exact ⟨Tryd.f48, Tryd.func48, k_slices_Equal_int_int, by kernel_rfl, by kernel_rfl⟩
  · obtain rfl := Option.some.inj h; exact ⟨Tryd.f49, Tryd.func49, k_slices_Clone_uint64_uint64, by kernel_rfl, by kernel_rfl⟩
  · obtain rfl := Option.some.inj h; exact ⟨Tryd.f50, Tryd.func50, k_bits_Set_Len, by kernel_rfl, by kernel_rfl⟩
  · obtain rfl := Option.some.inj h; exact ⟨Tryd.f51, Tryd.func51, k_colonnaderef01_Put, by kernel_rfl, by kernel_rfl⟩
  · obtain rfl := Option.some.inj h; exact ⟨Tryd.f52, Tryd.func52, k_colonnaderef04_Same, by kernel_rfl, by kernel_rfl⟩
  · obtain rfl := Option.some.inj h; exact ⟨Tryd.f53, Tryd.func53, k_colonnaderef01_All, by kernel_rfl, by kernel_rfl⟩
  · obtain rfl := Option.some.inj h; exact ⟨Tryd.f54, Tryd.func54, k_colonnaderef01_Get, by kernel_rfl, by kernel_rfl⟩
  · obtain rfl := Option.some.inj h; exact ⟨Tryd.f55, Tryd.func55, k_colonnaderef01_Of, by kernel_rfl, by kernel_rfl⟩
  · obtain rfl := Option.some.inj h; exact ⟨Tryd.f56, Tryd.func56, k_colonnaderef04_At, by kernel_rfl, by kernel_rfl⟩
  · obtain rfl := Option.some.inj h; exact ⟨Tryd.f57, Tryd.func57, k_colonnaderef04_Whole, by kernel_rfl, by kernel_rfl⟩
  · obtain rfl := Option.some.inj h; exact ⟨Tryd.f58, Tryd.func58, k_colonnadelaw04_world_several, by kernel_rfl, by kernel_rfl⟩
  · obtain rfl := Option.some.inj h; exact ⟨Tryd.f59, Tryd.func59, k_colonnaderef04_Meet, by kernel_rfl, by kernel_rfl⟩
  · obtain rfl := Option.some.inj h; exact ⟨Tryd.f60, Tryd.func60, k_colonnadelaw04_world_kept, by kernel_rfl, by kernel_rfl⟩
  · obtain rfl := Option.some.inj h; exact ⟨Tryd.f61, Tryd.func61, k_colonnaderef04_Join, by kernel_rfl, by kernel_rfl⟩
  · obtain rfl := Option.some.inj h; exact ⟨Tryd.f62, Tryd.func62, k_colonnaderef04_Less, by kernel_rfl, by kernel_rfl⟩
  · obtain rfl := Option.some.inj h; exact ⟨Tryd.f63, Tryd.func63, k_colonnaderef01_Not, by kernel_rfl, by kernel_rfl⟩
  · obtain rfl := Option.some.inj h; exact ⟨Tryd.f64, Tryd.func64, k_colonnaderef01_Slice, by kernel_rfl, by kernel_rfl⟩
  · obtain rfl := Option.some.inj h; exact ⟨Tryd.f65, Tryd.func65, k_colonnaderef01_Words, by kernel_rfl, by kernel_rfl⟩
  · obtain rfl := Option.some.inj h; exact ⟨Tryd.f66, Tryd.func66, k_colonnaderef04_Sparse, by kernel_rfl, by kernel_rfl⟩
  · obtain rfl := Option.some.inj h; exact ⟨Tryd.f67, Tryd.func67, k_bits_Set_Rank, by kernel_rfl, by kernel_rfl⟩
  · obtain rfl := Option.some.inj h; exact ⟨Tryd.f68, Tryd.func68, k_sel_few, by kernel_rfl, by kernel_rfl⟩
  · obtain rfl := Option.some.inj h; exact ⟨Tryd.f69, Tryd.func69, k_slices_Collect_int, by kernel_rfl, by kernel_rfl⟩
  · obtain rfl := Option.some.inj h; exact ⟨Tryd.f70, Tryd.func70, k_bits_Set_All, by kernel_rfl, by kernel_rfl⟩
  · obtain rfl := Option.some.inj h; exact ⟨Tryd.f71, Tryd.func71, k_bits_words, by kernel_rfl, by kernel_rfl⟩
  · obtain rfl := Option.some.inj h; exact ⟨Tryd.f72, Tryd.func72, k_slices_Contains_sel_Sel_sel_Sel, by kernel_rfl, by kernel_rfl⟩
  · obtain rfl := Option.some.inj h; exact ⟨Tryd.f73, Tryd.func73, k_bits_Set_both, by kernel_rfl, by kernel_rfl⟩
  · obtain rfl := Option.some.inj h; exact ⟨Tryd.f74, Tryd.func74, k_bits_Set_And_1, by kernel_rfl, by kernel_rfl⟩
  · obtain rfl := Option.some.inj h; exact ⟨Tryd.f75, Tryd.func75, k_bits_Set_Or_1, by kernel_rfl, by kernel_rfl⟩
  · obtain rfl := Option.some.inj h; exact ⟨Tryd.f76, Tryd.func76, k_bits_Set_Less_1, by kernel_rfl, by kernel_rfl⟩
  · obtain rfl := Option.some.inj h; exact ⟨Tryd.f77, Tryd.func77, k_bits_Set_trim, by kernel_rfl, by kernel_rfl⟩
  · obtain rfl := Option.some.inj h; exact ⟨Tryd.f78, Tryd.func78, k_colonnaderef01_Clone, by kernel_rfl, by kernel_rfl⟩
  · obtain rfl := Option.some.inj h; exact ⟨Tryd.f79, Tryd.func79, k_colonnaderef04_many, by kernel_rfl, by kernel_rfl⟩
  · obtain rfl := Option.some.inj h; exact ⟨Tryd.f80, Tryd.func80, k_colonnaderef01_clamp, by kernel_rfl, by kernel_rfl⟩
  · obtain rfl := Option.some.inj h; exact ⟨Tryd.f81, Tryd.func81, k_math_bits_OnesCount64, by kernel_rfl, by kernel_rfl⟩
  · obtain rfl := Option.some.inj h; exact ⟨Tryd.f82, Tryd.func82, k_slices_AppendSeq_int_int, by kernel_rfl, by kernel_rfl⟩
  · obtain rfl := Option.some.inj h; exact ⟨Tryd.f83, Tryd.func83, k_bits_Set_All_1, by kernel_rfl, by kernel_rfl⟩
  · obtain rfl := Option.some.inj h; exact ⟨Tryd.f84, Tryd.func84, k_math_bits_TrailingZeros64, by kernel_rfl, by kernel_rfl⟩
  · obtain rfl := Option.some.inj h; exact ⟨Tryd.f85, Tryd.func85, k_slices_Index_sel_Sel_sel_Sel, by kernel_rfl, by kernel_rfl⟩
  · obtain rfl := Option.some.inj h; exact ⟨Tryd.f86, Tryd.func86, k_colonnaderef01_Both, by kernel_rfl, by kernel_rfl⟩
  · obtain rfl := Option.some.inj h; exact ⟨Tryd.f104, Tryd.func104, k_sel_Dense_Bits, by kernel_rfl, by kernel_rfl⟩
  · obtain rfl := Option.some.inj h; exact ⟨Tryd.f105, Tryd.func105, k_sel_Dense_Has, by kernel_rfl, by kernel_rfl⟩
  · obtain rfl := Option.some.inj h; exact ⟨Tryd.f106, Tryd.func106, k_sel_Dense_List, by kernel_rfl, by kernel_rfl⟩
  · obtain rfl := Option.some.inj h; exact ⟨Tryd.f107, Tryd.func107, k_sel_Sparse_All, by kernel_rfl, by kernel_rfl⟩
  · obtain rfl := Option.some.inj h; exact ⟨Tryd.f108, Tryd.func108, k_sel_Sparse_Bits, by kernel_rfl, by kernel_rfl⟩
  · obtain rfl := Option.some.inj h; exact ⟨Tryd.f109, Tryd.func109, k_sel_Sparse_Count, by kernel_rfl, by kernel_rfl⟩
  · obtain rfl := Option.some.inj h; exact ⟨Tryd.f110, Tryd.func110, k_sel_Sparse_Has, by kernel_rfl, by kernel_rfl⟩
  · obtain rfl := Option.some.inj h; exact ⟨Tryd.f111, Tryd.func111, k_sel_Sparse_Len, by kernel_rfl, by kernel_rfl⟩
  · obtain rfl := Option.some.inj h; exact ⟨Tryd.f112, Tryd.func112, k_sel_Sparse_List, by kernel_rfl, by kernel_rfl⟩
  · obtain rfl := Option.some.inj h; exact ⟨Tryd.f113, Tryd.func113, k_slices_Values_int_int, by kernel_rfl, by kernel_rfl⟩
  · obtain rfl := Option.some.inj h; exact ⟨Tryd.f114, Tryd.func114, k_slices_BinarySearch_int_int, by kernel_rfl, by kernel_rfl⟩
  · obtain rfl := Option.some.inj h; exact ⟨Tryd.f115, Tryd.func115, k_slices_Clone_int_int, by kernel_rfl, by kernel_rfl⟩
  · obtain rfl := Option.some.inj h; exact ⟨Tryd.f116, Tryd.func116, k_slices_Values_int_int_1, by kernel_rfl, by kernel_rfl⟩
  · obtain rfl := Option.some.inj h; exact ⟨Tryd.f117, Tryd.func117, k_cmp_Less_int, by kernel_rfl, by kernel_rfl⟩
  · obtain rfl := Option.some.inj h; exact ⟨Tryd.f118, Tryd.func118, k_slices_isNaN_int, by kernel_rfl, by kernel_rfl⟩
  · obtain rfl := Option.some.inj h; exact ⟨Tryd.f119, Tryd.func119, k_cmp_isNaN_int, by kernel_rfl, by kernel_rfl⟩
  · simp at h
theorem mixed_ok : P.follows .mixedOrders = true := by kernel_rfl
end Go.Ax
