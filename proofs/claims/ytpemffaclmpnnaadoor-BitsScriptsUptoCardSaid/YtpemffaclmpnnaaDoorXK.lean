/- What the program's functions come to (written by a program of mine, mkac.py). -/
import Derived.Test.YtpemffaclmpnnaaDoorXK0
import Derived.Test.YtpemffaclmpnnaaDoorXK1
namespace Go.Ax
set_option linter.unusedVariables false
set_option maxRecDepth 100000
open Go.Proofs
def T : Table := fun f => match f with
  | 3 => some c_colonnadelaw01_BitsCounts
  | 4 => some c_colonnadelaw01_BitsWalks
  | 5 => some c_colonnadelaw01_BitsPieces
  | 6 => some c_colonnadelaw01_BitsNames
  | 7 => some c_colonnadelaw01_BitsAlgebra
  | 8 => some c_colonnadelaw01_BitsScripts
  | 9 => some c_colonnadelaw01_BitsMemory
  | 10 => some c_colonnadelaw01_awake
  | 11 => some c_bits_Of
  | 12 => some c_bits_Set_Get
  | 13 => some c_bits_Set_Rank
  | 14 => some c_bits_Set_Select
  | 15 => some c_bits_Set_Count
  | 16 => some c_bits_Set_All
  | 17 => some c_colonnadelaw01_pick
  | 18 => some c_bits_Set_Put
  | 19 => some c_colonnadelaw01_sameInts
  | 20 => some c_bits_Load
  | 21 => some c_bits_Set_Words
  | 22 => some c_colonnadelaw01_alike
  | 23 => some c_bits_Set_Slice
  | 24 => some c_bits_Join
  | 25 => some c_bits_Set_Len
  | 26 => some c_bits_Set_And
  | 27 => some c_bits_New
  | 28 => some c_bits_Set_Or
  | 29 => some c_bits_Set_Xor
  | 30 => some c_colonnadelaw01_walked
  | 31 => some c_bits_Set_Clone
  | 32 => some c_bits_Set_Not
  | 33 => some c_colonnadelaw01_three
  | 34 => some c_bits_Set_Less
  | 35 => some c_colonnaderef01_New
  | 36 => some c_colonnadelaw01_world_made
  | 37 => some c_colonnadelaw01_is
  | 38 => some c_colonnadelaw01_world_told
  | 39 => some c_colonnadelaw01_apart
  | 40 => some c_colonnadelaw01_sameWords
  | 41 => some c_colonnadelaw01_again
  | 42 => some c_math_bits_OnesCount64
  | 43 => some c_math_bits_TrailingZeros64
  | 44 => some c_bits_Set_All_1
  | 45 => some c_bits_words
  | 46 => some c_slices_Clone_uint64_uint64
  | 47 => some c_bits_Set_trim
  | 48 => some c_bits_Set_both
  | 49 => some c_bits_Set_And_1
  | 50 => some c_bits_Set_Or_1
  | 51 => some c_bits_Set_Xor_1
  | 52 => some c_bits_Set_Less_1
  | 53 => some c_colonnaderef01_Of
  | 54 => some c_colonnadelaw01_lentWords
  | 55 => some c_colonnaderef01_Load
  | 56 => some c_colonnadelaw01_keptWords
  | 57 => some c_colonnaderef01_Clone
  | 58 => some c_colonnaderef01_Both
  | 59 => some c_colonnadelaw01_both
  | 60 => some c_colonnaderef01_Not
  | 61 => some c_colonnaderef01_Slice
  | 62 => some c_colonnaderef01_Join
  | 63 => some c_colonnaderef01_Words
  | 64 => some c_colonnaderef01_Put
  | 65 => some c_colonnaderef01_All
  | 66 => some c_colonnaderef01_Rank
  | 67 => some c_colonnaderef01_Select
  | 68 => some c_colonnaderef01_Get
  | 69 => some c_colonnaderef01_clamp
  | _ => none
theorem t_colonnadelaw01_BitsCounts : T F_colonnadelaw01_BitsCounts = some c_colonnadelaw01_BitsCounts := rfl
theorem t_colonnadelaw01_BitsWalks : T F_colonnadelaw01_BitsWalks = some c_colonnadelaw01_BitsWalks := rfl
theorem t_colonnadelaw01_BitsPieces : T F_colonnadelaw01_BitsPieces = some c_colonnadelaw01_BitsPieces := rfl
theorem t_colonnadelaw01_BitsNames : T F_colonnadelaw01_BitsNames = some c_colonnadelaw01_BitsNames := rfl
theorem t_colonnadelaw01_BitsAlgebra : T F_colonnadelaw01_BitsAlgebra = some c_colonnadelaw01_BitsAlgebra := rfl
theorem t_colonnadelaw01_BitsScripts : T F_colonnadelaw01_BitsScripts = some c_colonnadelaw01_BitsScripts := rfl
theorem t_colonnadelaw01_BitsMemory : T F_colonnadelaw01_BitsMemory = some c_colonnadelaw01_BitsMemory := rfl
theorem t_colonnadelaw01_awake : T F_colonnadelaw01_awake = some c_colonnadelaw01_awake := rfl
theorem t_bits_Of : T F_bits_Of = some c_bits_Of := rfl
theorem t_bits_Set_Get : T F_bits_Set_Get = some c_bits_Set_Get := rfl
theorem t_bits_Set_Rank : T F_bits_Set_Rank = some c_bits_Set_Rank := rfl
theorem t_bits_Set_Select : T F_bits_Set_Select = some c_bits_Set_Select := rfl
theorem t_bits_Set_Count : T F_bits_Set_Count = some c_bits_Set_Count := rfl
theorem t_bits_Set_All : T F_bits_Set_All = some c_bits_Set_All := rfl
theorem t_colonnadelaw01_pick : T F_colonnadelaw01_pick = some c_colonnadelaw01_pick := rfl
theorem t_bits_Set_Put : T F_bits_Set_Put = some c_bits_Set_Put := rfl
theorem t_colonnadelaw01_sameInts : T F_colonnadelaw01_sameInts = some c_colonnadelaw01_sameInts := rfl
theorem t_bits_Load : T F_bits_Load = some c_bits_Load := rfl
theorem t_bits_Set_Words : T F_bits_Set_Words = some c_bits_Set_Words := rfl
theorem t_colonnadelaw01_alike : T F_colonnadelaw01_alike = some c_colonnadelaw01_alike := rfl
theorem t_bits_Set_Slice : T F_bits_Set_Slice = some c_bits_Set_Slice := rfl
theorem t_bits_Join : T F_bits_Join = some c_bits_Join := rfl
theorem t_bits_Set_Len : T F_bits_Set_Len = some c_bits_Set_Len := rfl
theorem t_bits_Set_And : T F_bits_Set_And = some c_bits_Set_And := rfl
theorem t_bits_New : T F_bits_New = some c_bits_New := rfl
theorem t_bits_Set_Or : T F_bits_Set_Or = some c_bits_Set_Or := rfl
theorem t_bits_Set_Xor : T F_bits_Set_Xor = some c_bits_Set_Xor := rfl
theorem t_colonnadelaw01_walked : T F_colonnadelaw01_walked = some c_colonnadelaw01_walked := rfl
theorem t_bits_Set_Clone : T F_bits_Set_Clone = some c_bits_Set_Clone := rfl
theorem t_bits_Set_Not : T F_bits_Set_Not = some c_bits_Set_Not := rfl
theorem t_colonnadelaw01_three : T F_colonnadelaw01_three = some c_colonnadelaw01_three := rfl
theorem t_bits_Set_Less : T F_bits_Set_Less = some c_bits_Set_Less := rfl
theorem t_colonnaderef01_New : T F_colonnaderef01_New = some c_colonnaderef01_New := rfl
theorem t_colonnadelaw01_world_made : T F_colonnadelaw01_world_made = some c_colonnadelaw01_world_made := rfl
theorem t_colonnadelaw01_is : T F_colonnadelaw01_is = some c_colonnadelaw01_is := rfl
theorem t_colonnadelaw01_world_told : T F_colonnadelaw01_world_told = some c_colonnadelaw01_world_told := rfl
theorem t_colonnadelaw01_apart : T F_colonnadelaw01_apart = some c_colonnadelaw01_apart := rfl
theorem t_colonnadelaw01_sameWords : T F_colonnadelaw01_sameWords = some c_colonnadelaw01_sameWords := rfl
theorem t_colonnadelaw01_again : T F_colonnadelaw01_again = some c_colonnadelaw01_again := rfl
theorem t_math_bits_OnesCount64 : T F_math_bits_OnesCount64 = some c_math_bits_OnesCount64 := rfl
theorem t_math_bits_TrailingZeros64 : T F_math_bits_TrailingZeros64 = some c_math_bits_TrailingZeros64 := rfl
theorem t_bits_Set_All_1 : T F_bits_Set_All_1 = some c_bits_Set_All_1 := rfl
theorem t_bits_words : T F_bits_words = some c_bits_words := rfl
theorem t_slices_Clone_uint64_uint64 : T F_slices_Clone_uint64_uint64 = some c_slices_Clone_uint64_uint64 := rfl
theorem t_bits_Set_trim : T F_bits_Set_trim = some c_bits_Set_trim := rfl
theorem t_bits_Set_both : T F_bits_Set_both = some c_bits_Set_both := rfl
theorem t_bits_Set_And_1 : T F_bits_Set_And_1 = some c_bits_Set_And_1 := rfl
theorem t_bits_Set_Or_1 : T F_bits_Set_Or_1 = some c_bits_Set_Or_1 := rfl
theorem t_bits_Set_Xor_1 : T F_bits_Set_Xor_1 = some c_bits_Set_Xor_1 := rfl
theorem t_bits_Set_Less_1 : T F_bits_Set_Less_1 = some c_bits_Set_Less_1 := rfl
theorem t_colonnaderef01_Of : T F_colonnaderef01_Of = some c_colonnaderef01_Of := rfl
theorem t_colonnadelaw01_lentWords : T F_colonnadelaw01_lentWords = some c_colonnadelaw01_lentWords := rfl
theorem t_colonnaderef01_Load : T F_colonnaderef01_Load = some c_colonnaderef01_Load := rfl
theorem t_colonnadelaw01_keptWords : T F_colonnadelaw01_keptWords = some c_colonnadelaw01_keptWords := rfl
theorem t_colonnaderef01_Clone : T F_colonnaderef01_Clone = some c_colonnaderef01_Clone := rfl
theorem t_colonnaderef01_Both : T F_colonnaderef01_Both = some c_colonnaderef01_Both := rfl
theorem t_colonnadelaw01_both : T F_colonnadelaw01_both = some c_colonnadelaw01_both := rfl
theorem t_colonnaderef01_Not : T F_colonnaderef01_Not = some c_colonnaderef01_Not := rfl
theorem t_colonnaderef01_Slice : T F_colonnaderef01_Slice = some c_colonnaderef01_Slice := rfl
theorem t_colonnaderef01_Join : T F_colonnaderef01_Join = some c_colonnaderef01_Join := rfl
theorem t_colonnaderef01_Words : T F_colonnaderef01_Words = some c_colonnaderef01_Words := rfl
theorem t_colonnaderef01_Put : T F_colonnaderef01_Put = some c_colonnaderef01_Put := rfl
theorem t_colonnaderef01_All : T F_colonnaderef01_All = some c_colonnaderef01_All := rfl
theorem t_colonnaderef01_Rank : T F_colonnaderef01_Rank = some c_colonnaderef01_Rank := rfl
theorem t_colonnaderef01_Select : T F_colonnaderef01_Select = some c_colonnaderef01_Select := rfl
theorem t_colonnaderef01_Get : T F_colonnaderef01_Get = some c_colonnaderef01_Get := rfl
theorem t_colonnaderef01_clamp : T F_colonnaderef01_clamp = some c_colonnaderef01_clamp := rfl
theorem T_ok : TableOk P T := by
  intro f a h
  unfold T at h
  split at h
  · obtain rfl := Option.some.inj h; exact ⟨Tryd.f3, Tryd.func3, k_colonnadelaw01_BitsCounts, by kernel_rfl, by kernel_rfl⟩
  · obtain rfl := Option.some.inj h; exact ⟨Tryd.f4, Tryd.func4, k_colonnadelaw01_BitsWalks, by kernel_rfl, by kernel_rfl⟩
  · obtain rfl := Option.some.inj h; exact ⟨Tryd.f5, Tryd.func5, k_colonnadelaw01_BitsPieces, by kernel_rfl, by kernel_rfl⟩
  · obtain rfl := Option.some.inj h; exact ⟨Tryd.f6, Tryd.func6, k_colonnadelaw01_BitsNames, by kernel_rfl, by kernel_rfl⟩
  · obtain rfl := Option.some.inj h; exact ⟨Tryd.f7, Tryd.func7, k_colonnadelaw01_BitsAlgebra, by kernel_rfl, by kernel_rfl⟩
  · obtain rfl := Option.some.inj h; exact ⟨Tryd.f8, Tryd.func8, k_colonnadelaw01_BitsScripts, by kernel_rfl, by kernel_rfl⟩
  · obtain rfl := Option.some.inj h; exact ⟨Tryd.f9, Tryd.func9, k_colonnadelaw01_BitsMemory, by kernel_rfl, by kernel_rfl⟩
  · obtain rfl := Option.some.inj h; exact ⟨Tryd.f10, Tryd.func10, k_colonnadelaw01_awake, by kernel_rfl, by kernel_rfl⟩
  · obtain rfl := Option.some.inj h; exact ⟨Tryd.f11, Tryd.func11, k_bits_Of, by kernel_rfl, by kernel_rfl⟩
  · obtain rfl := Option.some.inj h; exact ⟨Tryd.f12, Tryd.func12, k_bits_Set_Get, by kernel_rfl, by kernel_rfl⟩
  · obtain rfl := Option.some.inj h; exact ⟨Tryd.f13, Tryd.func13, k_bits_Set_Rank, by kernel_rfl, by kernel_rfl⟩
  · obtain rfl := Option.some.inj h; exact ⟨Tryd.f14, Tryd.func14, k_bits_Set_Select, by kernel_rfl, by kernel_rfl⟩
  · obtain rfl := Option.some.inj h; exact ⟨Tryd.f15, Tryd.func15, k_bits_Set_Count, by kernel_rfl, by kernel_rfl⟩
  · obtain rfl := Option.some.inj h; exact ⟨Tryd.f16, Tryd.func16, k_bits_Set_All, by kernel_rfl, by kernel_rfl⟩
  · obtain rfl := Option.some.inj h; exact ⟨Tryd.f17, Tryd.func17, k_colonnadelaw01_pick, by kernel_rfl, by kernel_rfl⟩
  · obtain rfl := Option.some.inj h; exact ⟨Tryd.f18, Tryd.func18, k_bits_Set_Put, by kernel_rfl, by kernel_rfl⟩
  · obtain rfl := Option.some.inj h; exact ⟨Tryd.f19, Tryd.func19, k_colonnadelaw01_sameInts, by kernel_rfl, by kernel_rfl⟩
  · obtain rfl := Option.some.inj h; exact ⟨Tryd.f20, Tryd.func20, k_bits_Load, by kernel_rfl, by kernel_rfl⟩
  · obtain rfl := Option.some.inj h; exact ⟨Tryd.f21, Tryd.func21, k_bits_Set_Words, by kernel_rfl, by kernel_rfl⟩
  · obtain rfl := Option.some.inj h; exact ⟨Tryd.f22, Tryd.func22, k_colonnadelaw01_alike, by kernel_rfl, by kernel_rfl⟩
  · obtain rfl := Option.some.inj h; exact ⟨Tryd.f23, Tryd.func23, k_bits_Set_Slice, by kernel_rfl, by kernel_rfl⟩
  · obtain rfl := Option.some.inj h; exact ⟨Tryd.f24, Tryd.func24, k_bits_Join, by kernel_rfl, by kernel_rfl⟩
  · obtain rfl := Option.some.inj h; exact ⟨Tryd.f25, Tryd.func25, k_bits_Set_Len, by kernel_rfl, by kernel_rfl⟩
  · obtain rfl := Option.some.inj h; exact ⟨Tryd.f26, Tryd.func26, k_bits_Set_And, by kernel_rfl, by kernel_rfl⟩
  · obtain rfl := Option.some.inj h; exact ⟨Tryd.f27, Tryd.func27, k_bits_New, by kernel_rfl, by kernel_rfl⟩
  · obtain rfl := Option.some.inj h; exact ⟨Tryd.f28, Tryd.func28, k_bits_Set_Or, by kernel_rfl, by kernel_rfl⟩
  · obtain rfl := Option.some.inj h; exact ⟨Tryd.f29, Tryd.func29, k_bits_Set_Xor, by kernel_rfl, by kernel_rfl⟩
  · obtain rfl := Option.some.inj h; exact ⟨Tryd.f30, Tryd.func30, k_colonnadelaw01_walked, by kernel_rfl, by kernel_rfl⟩
  · obtain rfl := Option.some.inj h; exact ⟨Tryd.f31, Tryd.func31, k_bits_Set_Clone, by kernel_rfl, by kernel_rfl⟩
  · obtain rfl := Option.some.inj h; exact ⟨Tryd.f32, Tryd.func32, k_bits_Set_Not, by kernel_rfl, by kernel_rfl⟩
  · obtain rfl := Option.some.inj h; exact ⟨Tryd.f33, Tryd.func33, k_colonnadelaw01_three, by kernel_rfl, by kernel_rfl⟩
  · obtain rfl := Option.some.inj h; exact ⟨Tryd.f34, Tryd.func34, k_bits_Set_Less, by kernel_rfl, by kernel_rfl⟩
  · obtain rfl := Option.some.inj h; exact ⟨Tryd.f35, Tryd.func35, k_colonnaderef01_New, by kernel_rfl, by kernel_rfl⟩
  · obtain rfl := Option.some.inj h; exact ⟨Tryd.f36, Tryd.func36, k_colonnadelaw01_world_made, by kernel_rfl, by kernel_rfl⟩
  · obtain rfl := Option.some.inj h; exact ⟨Tryd.f37, Tryd.func37, k_colonnadelaw01_is, by kernel_rfl, by kernel_rfl⟩
  · obtain rfl := Option.some.inj h; exact ⟨Tryd.f38, Tryd.func38, k_colonnadelaw01_world_told, by kernel_rfl, by kernel_rfl⟩
  · obtain rfl := Option.some.inj h; exact ⟨Tryd.f39, Tryd.func39, k_colonnadelaw01_apart, by kernel_rfl, by kernel_rfl⟩
  · obtain rfl := Option.some.inj h; exact ⟨Tryd.f40, Tryd.func40, k_colonnadelaw01_sameWords, by kernel_rfl, by kernel_rfl⟩
  · obtain rfl := Option.some.inj h; exact ⟨Tryd.f41, Tryd.func41, k_colonnadelaw01_again, by kernel_rfl, by kernel_rfl⟩
  · obtain rfl := Option.some.inj h; exact ⟨Tryd.f42, Tryd.func42, k_math_bits_OnesCount64, by kernel_rfl, by kernel_rfl⟩
  · obtain rfl := Option.some.inj h; exact ⟨Tryd.f43, Tryd.func43, k_math_bits_TrailingZeros64, by kernel_rfl, by kernel_rfl⟩
  · obtain rfl := Option.some.inj h; exact ⟨Tryd.f44, Tryd.func44, k_bits_Set_All_1, by kernel_rfl, by kernel_rfl⟩
  · obtain rfl := Option.some.inj h; exact ⟨Tryd.f45, Tryd.func45, k_bits_words, by kernel_rfl, by kernel_rfl⟩
  · obtain rfl := Option.some.inj h; exact ⟨Tryd.f46, Tryd.func46, k_slices_Clone_uint64_uint64, by kernel_rfl, by kernel_rfl⟩
  · obtain rfl := Option.some.inj h; exact ⟨Tryd.f47, Tryd.func47, k_bits_Set_trim, by kernel_rfl, by kernel_rfl⟩
  · obtain rfl := Option.some.inj h; exact ⟨Tryd.f48, Tryd.func48, k_bits_Set_both, by kernel_rfl, by kernel_rfl⟩
  · obtain rfl := Option.some.inj h; exact ⟨Tryd.f49, Tryd.func49, k_bits_Set_And_1, by kernel_rfl, by kernel_rfl⟩
  · obtain rfl := Option.some.inj h; exact ⟨Tryd.f50, Tryd.func50, k_bits_Set_Or_1, by kernel_rfl, by kernel_rfl⟩
  · obtain rfl := Option.some.inj h; exact ⟨Tryd.f51, Tryd.func51, k_bits_Set_Xor_1, by kernel_rfl, by kernel_rfl⟩
  · obtain rfl := Option.some.inj h; exact ⟨Tryd.f52, Tryd.func52, k_bits_Set_Less_1, by kernel_rfl, by kernel_rfl⟩
  · obtain rfl := Option.some.inj h; exact ⟨Tryd.f53, Tryd.func53, k_colonnaderef01_Of, by kernel_rfl, by kernel_rfl⟩
  · obtain rfl := Option.some.inj h; exact ⟨Tryd.f54, Tryd.func54, k_colonnadelaw01_lentWords, by kernel_rfl, by kernel_rfl⟩
  · obtain rfl := Option.some.inj h; exact ⟨Tryd.f55, Tryd.func55, k_colonnaderef01_Load, by kernel_rfl, by kernel_rfl⟩
  · obtain rfl := Option.some.inj h; exact ⟨Tryd.f56, Tryd.func56, k_colonnadelaw01_keptWords, by kernel_rfl, by kernel_rfl⟩
  · obtain rfl := Option.some.inj h; exact ⟨Tryd.f57, Tryd.func57, k_colonnaderef01_Clone, by kernel_rfl, by kernel_rfl⟩
  · obtain rfl := Option.some.inj h; exact ⟨Tryd.f58, Tryd.func58, k_colonnaderef01_Both, by kernel_rfl, by kernel_rfl⟩
  · obtain rfl := Option.some.inj h; exact ⟨Tryd.f59, Tryd.func59, k_colonnadelaw01_both, by kernel_rfl, by kernel_rfl⟩
  · obtain rfl := Option.some.inj h; exact ⟨Tryd.f60, Tryd.func60, k_colonnaderef01_Not, by kernel_rfl, by kernel_rfl⟩
  · obtain rfl := Option.some.inj h; exact ⟨Tryd.f61, Tryd.func61, k_colonnaderef01_Slice, by kernel_rfl, by kernel_rfl⟩
  · obtain rfl := Option.some.inj h; exact ⟨Tryd.f62, Tryd.func62, k_colonnaderef01_Join, by kernel_rfl, by kernel_rfl⟩
  · obtain rfl := Option.some.inj h; exact ⟨Tryd.f63, Tryd.func63, k_colonnaderef01_Words, by kernel_rfl, by kernel_rfl⟩
  · obtain rfl := Option.some.inj h; exact ⟨Tryd.f64, Tryd.func64, k_colonnaderef01_Put, by kernel_rfl, by kernel_rfl⟩
  · obtain rfl := Option.some.inj h; exact ⟨Tryd.f65, Tryd.func65, k_colonnaderef01_All, by kernel_rfl, by kernel_rfl⟩
  · obtain rfl := Option.some.inj h; exact ⟨Tryd.f66, Tryd.func66, k_colonnaderef01_Rank, by kernel_rfl, by kernel_rfl⟩
  · obtain rfl := Option.some.inj h; exact ⟨Tryd.f67, Tryd.func67, k_colonnaderef01_Select, by kernel_rfl, by kernel_rfl⟩
  · obtain rfl := Option.some.inj h; exact ⟨Tryd.f68, Tryd.func68, k_colonnaderef01_Get, by kernel_rfl, by kernel_rfl⟩
  · obtain rfl := Option.some.inj h; exact ⟨Tryd.f69, Tryd.func69, k_colonnaderef01_clamp, by kernel_rfl, by kernel_rfl⟩
  · simp at h
theorem mixed_ok : P.follows .mixedOrders = true := by kernel_rfl
end Go.Ax
