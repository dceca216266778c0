/- What the program's functions come to (written by a program of mine, mkac.py). -/
import Derived.Test.YtffakcgcemaokaaXK0
import Derived.Test.YtffakcgcemaokaaXK1
namespace Go.Ax
set_option linter.unusedVariables false
set_option maxRecDepth 100000
open Go.Proofs
def T : Table := fun f => match f with
  | 3 => some c_colonnadelaw03_LanesSpreads
  | 4 => some c_colonnadelaw03_LanesMarks
  | 5 => some c_colonnadelaw03_LanesTests
  | 6 => some c_colonnadelaw03_LanesIns
  | 7 => some c_colonnadelaw03_LanesHolds
  | 8 => some c_colonnadelaw03_LanesWords
  | 9 => some c_colonnadelaw03_LanesSums
  | 10 => some c_colonnadelaw03_LanesBetweens
  | 11 => some c_colonnadelaw03_LanesEmpty
  | 12 => some c_colonnadelaw03_LanesWidths
  | 13 => some c_colonnadelaw03_LanesAlgebra
  | 14 => some c_colonnadelaw03_LanesPacked
  | 15 => some c_colonnadelaw03_LanesOwn
  | 16 => some c_colonnaderef03_Spread
  | 17 => some c_lanes_Spread
  | 18 => some c_colonnadelaw03_known
  | 19 => some c_colonnaderef03_Marks
  | 20 => some c_lanes_Marks
  | 21 => some c_colonnadelaw03_large
  | 22 => some c_colonnaderef03_Test
  | 23 => some c_lanes_Test
  | 24 => some c_colonnadelaw03_twin
  | 25 => some c_colonnadelaw03_like
  | 26 => some c_colonnaderef03_In
  | 27 => some c_lanes_In
  | 28 => some c_colonnaderef03_Held
  | 29 => some c_lanes_Equal
  | 30 => some c_lanes_Below
  | 31 => some c_colonnadelaw03_lane
  | 32 => some c_colonnadelaw03_alone
  | 33 => some c_colonnaderef03_Sum
  | 34 => some c_lanes_Sum
  | 35 => some c_colonnaderef03_Ends
  | 36 => some c_lanes_Ends
  | 37 => some c_colonnaderef03_Between
  | 38 => some c_lanes_Between
  | 39 => some c_bits_Set_Len
  | 40 => some c_bits_Set_Count
  | 41 => some c_colonnadelaw03_fit
  | 42 => some c_pack_Pack_uint64
  | 43 => some c_colonnadelaw03_same
  | 44 => some c_colonnadelaw03_count
  | 45 => some c_bits_Set_Get
  | 46 => some c_colonnadelaw03_listed
  | 47 => some c_colonnadelaw03_said
  | 48 => some c_colonnadelaw03_turned
  | 49 => some c_colonnaderef03_fits
  | 50 => some c_lanes_wide
  | 51 => some c_lanes_spread
  | 52 => some c_colonnaderef03_Bit
  | 53 => some c_colonnaderef03_word
  | 54 => some c_lanes_marks
  | 55 => some c_colonnaderef03_Fault
  | 56 => some c_colonnaderef03_Numbers
  | 57 => some c_colonnaderef03_Stands
  | 58 => some c_lanes_fault
  | 59 => some c_lanes_all
  | 60 => some c_lanes_gather
  | 61 => some c_lanes_stands
  | 62 => some c_bits_New
  | 63 => some c_bits_Set_Or
  | 64 => some c_colonnaderef03_Lane
  | 65 => some c_lanes_equal
  | 66 => some c_lanes_tops
  | 67 => some c_lanes_below
  | 69 => some c_lanes_at
  | 70 => some c_bits_Set_And
  | 71 => some c_bits_Set_Rank
  | 72 => some c_pack_Bytes
  | 73 => some c_pack_Width
  | 74 => some c_bits_Set_Put
  | 75 => some c_bits_Set_Not
  | 76 => some c_pack_Word
  | 77 => some c_bits_Load
  | 78 => some c_lanes_stands_1
  | 79 => some c_bits_words
  | 80 => some c_bits_Set_both
  | 81 => some c_bits_Set_Or_1
  | 82 => some c_lanes_used
  | 83 => some c_bits_Set_And_1
  | 84 => some c_math_bits_OnesCount64
  | 85 => some c_pack_may
  | 86 => some c_math_bits_Len64
  | 87 => some c_bits_Set_Clone
  | 88 => some c_bits_Set_trim
  | 89 => some c_slices_Clone_uint64_uint64
  | _ => none
theorem t_colonnadelaw03_LanesSpreads : T F_colonnadelaw03_LanesSpreads = some c_colonnadelaw03_LanesSpreads := rfl
theorem t_colonnadelaw03_LanesMarks : T F_colonnadelaw03_LanesMarks = some c_colonnadelaw03_LanesMarks := rfl
theorem t_colonnadelaw03_LanesTests : T F_colonnadelaw03_LanesTests = some c_colonnadelaw03_LanesTests := rfl
theorem t_colonnadelaw03_LanesIns : T F_colonnadelaw03_LanesIns = some c_colonnadelaw03_LanesIns := rfl
theorem t_colonnadelaw03_LanesHolds : T F_colonnadelaw03_LanesHolds = some c_colonnadelaw03_LanesHolds := rfl
theorem t_colonnadelaw03_LanesWords : T F_colonnadelaw03_LanesWords = some c_colonnadelaw03_LanesWords := rfl
theorem t_colonnadelaw03_LanesSums : T F_colonnadelaw03_LanesSums = some c_colonnadelaw03_LanesSums := rfl
theorem t_colonnadelaw03_LanesBetweens : T F_colonnadelaw03_LanesBetweens = some c_colonnadelaw03_LanesBetweens := rfl
theorem t_colonnadelaw03_LanesEmpty : T F_colonnadelaw03_LanesEmpty = some c_colonnadelaw03_LanesEmpty := rfl
theorem t_colonnadelaw03_LanesWidths : T F_colonnadelaw03_LanesWidths = some c_colonnadelaw03_LanesWidths := rfl
theorem t_colonnadelaw03_LanesAlgebra : T F_colonnadelaw03_LanesAlgebra = some c_colonnadelaw03_LanesAlgebra := rfl
theorem t_colonnadelaw03_LanesPacked : T F_colonnadelaw03_LanesPacked = some c_colonnadelaw03_LanesPacked := rfl
theorem t_colonnadelaw03_LanesOwn : T F_colonnadelaw03_LanesOwn = some c_colonnadelaw03_LanesOwn := rfl
theorem t_colonnaderef03_Spread : T F_colonnaderef03_Spread = some c_colonnaderef03_Spread := rfl
theorem t_lanes_Spread : T F_lanes_Spread = some c_lanes_Spread := rfl
theorem t_colonnadelaw03_known : T F_colonnadelaw03_known = some c_colonnadelaw03_known := rfl
theorem t_colonnaderef03_Marks : T F_colonnaderef03_Marks = some c_colonnaderef03_Marks := rfl
theorem t_lanes_Marks : T F_lanes_Marks = some c_lanes_Marks := rfl
theorem t_colonnadelaw03_large : T F_colonnadelaw03_large = some c_colonnadelaw03_large := rfl
theorem t_colonnaderef03_Test : T F_colonnaderef03_Test = some c_colonnaderef03_Test := rfl
theorem t_lanes_Test : T F_lanes_Test = some c_lanes_Test := rfl
theorem t_colonnadelaw03_twin : T F_colonnadelaw03_twin = some c_colonnadelaw03_twin := rfl
theorem t_colonnadelaw03_like : T F_colonnadelaw03_like = some c_colonnadelaw03_like := rfl
theorem t_colonnaderef03_In : T F_colonnaderef03_In = some c_colonnaderef03_In := rfl
theorem t_lanes_In : T F_lanes_In = some c_lanes_In := rfl
theorem t_colonnaderef03_Held : T F_colonnaderef03_Held = some c_colonnaderef03_Held := rfl
theorem t_lanes_Equal : T F_lanes_Equal = some c_lanes_Equal := rfl
theorem t_lanes_Below : T F_lanes_Below = some c_lanes_Below := rfl
theorem t_colonnadelaw03_lane : T F_colonnadelaw03_lane = some c_colonnadelaw03_lane := rfl
theorem t_colonnadelaw03_alone : T F_colonnadelaw03_alone = some c_colonnadelaw03_alone := rfl
theorem t_colonnaderef03_Sum : T F_colonnaderef03_Sum = some c_colonnaderef03_Sum := rfl
theorem t_lanes_Sum : T F_lanes_Sum = some c_lanes_Sum := rfl
theorem t_colonnaderef03_Ends : T F_colonnaderef03_Ends = some c_colonnaderef03_Ends := rfl
theorem t_lanes_Ends : T F_lanes_Ends = some c_lanes_Ends := rfl
theorem t_colonnaderef03_Between : T F_colonnaderef03_Between = some c_colonnaderef03_Between := rfl
theorem t_lanes_Between : T F_lanes_Between = some c_lanes_Between := rfl
theorem t_bits_Set_Len : T F_bits_Set_Len = some c_bits_Set_Len := rfl
theorem t_bits_Set_Count : T F_bits_Set_Count = some c_bits_Set_Count := rfl
theorem t_colonnadelaw03_fit : T F_colonnadelaw03_fit = some c_colonnadelaw03_fit := rfl
theorem t_pack_Pack_uint64 : T F_pack_Pack_uint64 = some c_pack_Pack_uint64 := rfl
theorem t_colonnadelaw03_same : T F_colonnadelaw03_same = some c_colonnadelaw03_same := rfl
theorem t_colonnadelaw03_count : T F_colonnadelaw03_count = some c_colonnadelaw03_count := rfl
theorem t_bits_Set_Get : T F_bits_Set_Get = some c_bits_Set_Get := rfl
theorem t_colonnadelaw03_listed : T F_colonnadelaw03_listed = some c_colonnadelaw03_listed := rfl
theorem t_colonnadelaw03_said : T F_colonnadelaw03_said = some c_colonnadelaw03_said := rfl
theorem t_colonnadelaw03_turned : T F_colonnadelaw03_turned = some c_colonnadelaw03_turned := rfl
theorem t_colonnaderef03_fits : T F_colonnaderef03_fits = some c_colonnaderef03_fits := rfl
theorem t_lanes_wide : T F_lanes_wide = some c_lanes_wide := rfl
theorem t_lanes_spread : T F_lanes_spread = some c_lanes_spread := rfl
theorem t_colonnaderef03_Bit : T F_colonnaderef03_Bit = some c_colonnaderef03_Bit := rfl
theorem t_colonnaderef03_word : T F_colonnaderef03_word = some c_colonnaderef03_word := rfl
theorem t_lanes_marks : T F_lanes_marks = some c_lanes_marks := rfl
theorem t_colonnaderef03_Fault : T F_colonnaderef03_Fault = some c_colonnaderef03_Fault := rfl
theorem t_colonnaderef03_Numbers : T F_colonnaderef03_Numbers = some c_colonnaderef03_Numbers := rfl
theorem t_colonnaderef03_Stands : T F_colonnaderef03_Stands = some c_colonnaderef03_Stands := rfl
theorem t_lanes_fault : T F_lanes_fault = some c_lanes_fault := rfl
theorem t_lanes_all : T F_lanes_all = some c_lanes_all := rfl
theorem t_lanes_gather : T F_lanes_gather = some c_lanes_gather := rfl
theorem t_lanes_stands : T F_lanes_stands = some c_lanes_stands := rfl
theorem t_bits_New : T F_bits_New = some c_bits_New := rfl
theorem t_bits_Set_Or : T F_bits_Set_Or = some c_bits_Set_Or := rfl
theorem t_colonnaderef03_Lane : T F_colonnaderef03_Lane = some c_colonnaderef03_Lane := rfl
theorem t_lanes_equal : T F_lanes_equal = some c_lanes_equal := rfl
theorem t_lanes_tops : T F_lanes_tops = some c_lanes_tops := rfl
theorem t_lanes_below : T F_lanes_below = some c_lanes_below := rfl
theorem t_lanes_at : T F_lanes_at = some c_lanes_at := rfl
theorem t_bits_Set_And : T F_bits_Set_And = some c_bits_Set_And := rfl
theorem t_bits_Set_Rank : T F_bits_Set_Rank = some c_bits_Set_Rank := rfl
theorem t_pack_Bytes : T F_pack_Bytes = some c_pack_Bytes := rfl
theorem t_pack_Width : T F_pack_Width = some c_pack_Width := rfl
theorem t_bits_Set_Put : T F_bits_Set_Put = some c_bits_Set_Put := rfl
theorem t_bits_Set_Not : T F_bits_Set_Not = some c_bits_Set_Not := rfl
theorem t_pack_Word : T F_pack_Word = some c_pack_Word := rfl
theorem t_bits_Load : T F_bits_Load = some c_bits_Load := rfl
theorem t_lanes_stands_1 : T F_lanes_stands_1 = some c_lanes_stands_1 := rfl
theorem t_bits_words : T F_bits_words = some c_bits_words := rfl
theorem t_bits_Set_both : T F_bits_Set_both = some c_bits_Set_both := rfl
theorem t_bits_Set_Or_1 : T F_bits_Set_Or_1 = some c_bits_Set_Or_1 := rfl
theorem t_lanes_used : T F_lanes_used = some c_lanes_used := rfl
theorem t_bits_Set_And_1 : T F_bits_Set_And_1 = some c_bits_Set_And_1 := rfl
theorem t_math_bits_OnesCount64 : T F_math_bits_OnesCount64 = some c_math_bits_OnesCount64 := rfl
theorem t_pack_may : T F_pack_may = some c_pack_may := rfl
theorem t_math_bits_Len64 : T F_math_bits_Len64 = some c_math_bits_Len64 := rfl
theorem t_bits_Set_Clone : T F_bits_Set_Clone = some c_bits_Set_Clone := rfl
theorem t_bits_Set_trim : T F_bits_Set_trim = some c_bits_Set_trim := rfl
theorem t_slices_Clone_uint64_uint64 : T F_slices_Clone_uint64_uint64 = some c_slices_Clone_uint64_uint64 := rfl
theorem T_ok : TableOk P T := by
  intro f a h
  unfold T at h
  split at h
  · obtain rfl := Option.some.inj h; exact ⟨Try.f3, Try.func3, k_colonnadelaw03_LanesSpreads, by kernel_rfl, by kernel_rfl⟩
  · obtain rfl := Option.some.inj h; exact ⟨Try.f4, Try.func4, k_colonnadelaw03_LanesMarks, by kernel_rfl, by kernel_rfl⟩
  · obtain rfl := Option.some.inj h; exact ⟨Try.f5, Try.func5, k_colonnadelaw03_LanesTests, by kernel_rfl, by kernel_rfl⟩
  · obtain rfl := Option.some.inj h; exact ⟨Try.f6, Try.func6, k_colonnadelaw03_LanesIns, by kernel_rfl, by kernel_rfl⟩
  · obtain rfl := Option.some.inj h; exact ⟨Try.f7, Try.func7, k_colonnadelaw03_LanesHolds, by kernel_rfl, by kernel_rfl⟩
  · obtain rfl := Option.some.inj h; exact ⟨Try.f8, Try.func8, k_colonnadelaw03_LanesWords, by kernel_rfl, by kernel_rfl⟩
  · obtain rfl := Option.some.inj h; exact ⟨Try.f9, Try.func9, k_colonnadelaw03_LanesSums, by kernel_rfl, by kernel_rfl⟩
  · obtain rfl := Option.some.inj h; exact ⟨Try.f10, Try.func10, k_colonnadelaw03_LanesBetweens, by kernel_rfl, by kernel_rfl⟩
  · obtain rfl := Option.some.inj h; exact ⟨Try.f11, Try.func11, k_colonnadelaw03_LanesEmpty, by kernel_rfl, by kernel_rfl⟩
  · obtain rfl := Option.some.inj h; exact ⟨Try.f12, Try.func12, k_colonnadelaw03_LanesWidths, by kernel_rfl, by kernel_rfl⟩
  · obtain rfl := Option.some.inj h; exact ⟨Try.f13, Try.func13, k_colonnadelaw03_LanesAlgebra, by kernel_rfl, by kernel_rfl⟩
  · obtain rfl := Option.some.inj h; exact ⟨Try.f14, Try.func14, k_colonnadelaw03_LanesPacked, by kernel_rfl, by kernel_rfl⟩
  · obtain rfl := Option.some.inj h; exact ⟨Try.f15, Try.func15, k_colonnadelaw03_LanesOwn, by kernel_rfl, by kernel_rfl⟩
  · obtain rfl := Option.some.inj h; exact ⟨Try.f16, Try.func16, k_colonnaderef03_Spread, by kernel_rfl, by kernel_rfl⟩
  · obtain rfl := Option.some.inj h; exact ⟨Try.f17, Try.func17, k_lanes_Spread, by kernel_rfl, by kernel_rfl⟩
  · obtain rfl := Option.some.inj h; exact ⟨Try.f18, Try.func18, k_colonnadelaw03_known, by kernel_rfl, by kernel_rfl⟩
  · obtain rfl := Option.some.inj h; exact ⟨Try.f19, Try.func19, k_colonnaderef03_Marks, by kernel_rfl, by kernel_rfl⟩
  · obtain rfl := Option.some.inj h; exact ⟨Try.f20, Try.func20, k_lanes_Marks, by kernel_rfl, by kernel_rfl⟩
  · obtain rfl := Option.some.inj h; exact ⟨Try.f21, Try.func21, k_colonnadelaw03_large, by kernel_rfl, by kernel_rfl⟩
  · obtain rfl := Option.some.inj h; exact ⟨Try.f22, Try.func22, k_colonnaderef03_Test, by kernel_rfl, by kernel_rfl⟩
  · obtain rfl := Option.some.inj h; exact ⟨Try.f23, Try.func23, k_lanes_Test, by kernel_rfl, by kernel_rfl⟩
  · obtain rfl := Option.some.inj h; exact ⟨Try.f24, Try.func24, k_colonnadelaw03_twin, by kernel_rfl, by kernel_rfl⟩
  · obtain rfl := Option.some.inj h; exact ⟨Try.f25, Try.func25, k_colonnadelaw03_like, by kernel_rfl, by kernel_rfl⟩
  · obtain rfl := Option.some.inj h; exact ⟨Try.f26, Try.func26, k_colonnaderef03_In, by kernel_rfl, by kernel_rfl⟩
  · obtain rfl := Option.some.inj h; exact ⟨Try.f27, Try.func27, k_lanes_In, by kernel_rfl, by kernel_rfl⟩
  · obtain rfl := Option.some.inj h; exact ⟨Try.f28, Try.func28, k_colonnaderef03_Held, by kernel_rfl, by kernel_rfl⟩
  · obtain rfl := Option.some.inj h; exact ⟨Try.f29, Try.func29, k_lanes_Equal, by kernel_rfl, by kernel_rfl⟩
  · obtain rfl := Option.some.inj h; exact ⟨Try.f30, Try.func30, k_lanes_Below, by kernel_rfl, by kernel_rfl⟩
  · obtain rfl := Option.some.inj h; exact ⟨Try.f31, Try.func31, k_colonnadelaw03_lane, by kernel_rfl, by kernel_rfl⟩
  · obtain rfl := Option.some.inj h; exact ⟨Try.f32, Try.func32, k_colonnadelaw03_alone, by kernel_rfl, by kernel_rfl⟩
  · obtain rfl := Option.some.inj h; exact ⟨Try.f33, Try.func33, k_colonnaderef03_Sum, by kernel_rfl, by kernel_rfl⟩
  · obtain rfl := Option.some.inj h; exact ⟨Try.f34, Try.func34, k_lanes_Sum, by kernel_rfl, by kernel_rfl⟩
  · obtain rfl := Option.some.inj h; exact ⟨Try.f35, Try.func35, k_colonnaderef03_Ends, by kernel_rfl, by kernel_rfl⟩
  · obtain rfl := Option.some.inj h; exact ⟨Try.f36, Try.func36, k_lanes_Ends, by kernel_rfl, by kernel_rfl⟩
  · obtain rfl := Option.some.inj h; exact ⟨Try.f37, Try.func37, k_colonnaderef03_Between, by kernel_rfl, by kernel_rfl⟩
  · obtain rfl := Option.some.inj h; exact ⟨Try.f38, Try.func38, k_lanes_Between, by kernel_rfl, by kernel_rfl⟩
  · obtain rfl := Option.some.inj h; exact ⟨Try.f39, Try.func39, k_bits_Set_Len, by kernel_rfl, by kernel_rfl⟩
  · obtain rfl := Option.some.inj h; exact ⟨Try.f40, Try.func40, k_bits_Set_Count, by kernel_rfl, by kernel_rfl⟩
  · obtain rfl := Option.some.inj h; exact ⟨Try.f41, Try.func41, k_colonnadelaw03_fit, by kernel_rfl, by kernel_rfl⟩
  · obtain rfl := Option.some.inj h; exact ⟨Try.f42, Try.func42, k_pack_Pack_uint64, by kernel_rfl, by kernel_rfl⟩
  · obtain rfl := Option.some.inj h; exact ⟨Try.f43, Try.func43, k_colonnadelaw03_same, by kernel_rfl, by kernel_rfl⟩
  · obtain rfl := Option.some.inj h; exact ⟨Try.f44, Try.func44, k_colonnadelaw03_count, by kernel_rfl, by kernel_rfl⟩
  · obtain rfl := Option.some.inj h; exact ⟨Try.f45, Try.func45, k_bits_Set_Get, by kernel_rfl, by kernel_rfl⟩
  · obtain rfl := Option.some.inj h; exact ⟨Try.f46, Try.func46, k_colonnadelaw03_listed, by kernel_rfl, by kernel_rfl⟩
  · obtain rfl := Option.some.inj h; exact ⟨Try.f47, Try.func47, k_colonnadelaw03_said, by kernel_rfl, by kernel_rfl⟩
  · obtain rfl := Option.some.inj h; exact ⟨Try.f48, Try.func48, k_colonnadelaw03_turned, by kernel_rfl, by kernel_rfl⟩
  · obtain rfl := Option.some.inj h; exact ⟨Try.f49, Try.func49, k_colonnaderef03_fits, by kernel_rfl, by kernel_rfl⟩
  · obtain rfl := Option.some.inj h; exact ⟨Try.f50, Try.func50, k_lanes_wide, by kernel_rfl, by kernel_rfl⟩
  · obtain rfl := Option.some.inj h; exact ⟨Try.f51, Try.func51, k_lanes_spread, by kernel_rfl, by kernel_rfl⟩
  · obtain rfl := Option.some.inj h; exact ⟨Try.f52, Try.func52, k_colonnaderef03_Bit, by kernel_rfl, by kernel_rfl⟩
  · obtain rfl := Option.some.inj h; exact ⟨Try.f53, Try.func53, k_colonnaderef03_word, by kernel_rfl, by kernel_rfl⟩
  · obtain rfl := Option.some.inj h; exact ⟨Try.f54, Try.func54, k_lanes_marks, by kernel_rfl, by kernel_rfl⟩
  · obtain rfl := Option.some.inj h; exact ⟨Try.f55, Try.func55, k_colonnaderef03_Fault, by kernel_rfl, by kernel_rfl⟩
  · obtain rfl := Option.some.inj h; exact ⟨Try.f56, Try.func56, k_colonnaderef03_Numbers, by kernel_rfl, by kernel_rfl⟩
  · obtain rfl := Option.some.inj h; exact ⟨Try.f57, Try.func57, k_colonnaderef03_Stands, by kernel_rfl, by kernel_rfl⟩
  · obtain rfl := Option.some.inj h; exact ⟨Try.f58, Try.func58, k_lanes_fault, by kernel_rfl, by kernel_rfl⟩
  · obtain rfl := Option.some.inj h; exact ⟨Try.f59, Try.func59, k_lanes_all, by kernel_rfl, by kernel_rfl⟩
  · obtain rfl := Option.some.inj h; exact ⟨Try.f60, Try.func60, k_lanes_gather, by kernel_rfl, by kernel_rfl⟩
  · obtain rfl := Option.some.inj h; exact ⟨Try.f61, Try.func61, k_lanes_stands, by kernel_rfl, by kernel_rfl⟩
  · obtain rfl := Option.some.inj h; exact ⟨Try.f62, Try.func62, k_bits_New, by kernel_rfl, by kernel_rfl⟩
  · obtain rfl := Option.some.inj h; exact ⟨Try.f63, Try.func63, k_bits_Set_Or, by kernel_rfl, by kernel_rfl⟩
  · obtain rfl := Option.some.inj h; exact ⟨Try.f64, Try.func64, k_colonnaderef03_Lane, by kernel_rfl, by kernel_rfl⟩
  · obtain rfl := Option.some.inj h; exact ⟨Try.f65, Try.func65, k_lanes_equal, by kernel_rfl, by kernel_rfl⟩
  · obtain rfl := Option.some.inj h; exact ⟨Try.f66, Try.func66, k_lanes_tops, by kernel_rfl, by kernel_rfl⟩
  · obtain rfl := Option.some.inj h; exact ⟨Try.f67, Try.func67, k_lanes_below, by kernel_rfl, by kernel_rfl⟩
  · obtain rfl := Option.some.inj h; exact ⟨Try.f69, Try.func69, k_lanes_at, by kernel_rfl, by kernel_rfl⟩
  · obtain rfl := Option.some.inj h; exact ⟨Try.f70, Try.func70, k_bits_Set_And, by kernel_rfl, by kernel_rfl⟩
  · obtain rfl := Option.some.inj h; exact ⟨Try.f71, Try.func71, k_bits_Set_Rank, by kernel_rfl, by kernel_rfl⟩
  · obtain rfl := Option.some.inj h; exact ⟨Try.f72, Try.func72, k_pack_Bytes, by kernel_rfl, by kernel_rfl⟩
  · obtain rfl := Option.some.inj h; exact ⟨Try.f73, Try.func73, k_pack_Width, by kernel_rfl, by kernel_rfl⟩
  · obtain rfl := Option.some.inj h; exact ⟨Try.f74, Try.func74, k_bits_Set_Put, by kernel_rfl, by kernel_rfl⟩
  · obtain rfl := Option.some.inj h; exact ⟨Try.f75, Try.func75, k_bits_Set_Not, by kernel_rfl, by kernel_rfl⟩
  · obtain rfl := Option.some.inj h; exact ⟨Try.f76, Try.func76, k_pack_Word, by kernel_rfl, by kernel_rfl⟩
  · obtain rfl := Option.some.inj h; exact ⟨Try.f77, Try.func77, k_bits_Load, by kernel_rfl, by kernel_rfl⟩
  · obtain rfl := Option.some.inj h; exact ⟨Try.f78, Try.func78, k_lanes_stands_1, by kernel_rfl, by kernel_rfl⟩
  · obtain rfl := Option.some.inj h; exact ⟨Try.f79, Try.func79, k_bits_words, by kernel_rfl, by kernel_rfl⟩
  · obtain rfl := Option.some.inj h; exact ⟨Try.f80, Try.func80, k_bits_Set_both, by kernel_rfl, by kernel_rfl⟩
  · obtain rfl := Option.some.inj h; exact ⟨Try.f81, Try.func81, k_bits_Set_Or_1, by kernel_rfl, by kernel_rfl⟩
  · obtain rfl := Option.some.inj h; exact ⟨Try.f82, Try.func82, k_lanes_used, by kernel_rfl, by kernel_rfl⟩
  · obtain rfl := Option.some.inj h; exact ⟨Try.f83, Try.func83, k_bits_Set_And_1, by kernel_rfl, by kernel_rfl⟩
  · obtain rfl := Option.some.inj h; exact ⟨Try.f84, Try.func84, k_math_bits_OnesCount64, by kernel_rfl, by kernel_rfl⟩
  · obtain rfl := Option.some.inj h; exact ⟨Try.f85, Try.func85, k_pack_may, by kernel_rfl, by kernel_rfl⟩
  · obtain rfl := Option.some.inj h; exact ⟨Try.f86, Try.func86, k_math_bits_Len64, by kernel_rfl, by kernel_rfl⟩
  · obtain rfl := Option.some.inj h; exact ⟨Try.f87, Try.func87, k_bits_Set_Clone, by kernel_rfl, by kernel_rfl⟩
  · obtain rfl := Option.some.inj h; exact ⟨Try.f88, Try.func88, k_bits_Set_trim, by kernel_rfl, by kernel_rfl⟩
  · obtain rfl := Option.some.inj h; exact ⟨Try.f89, Try.func89, k_slices_Clone_uint64_uint64, by kernel_rfl, by kernel_rfl⟩
  · simp at h
theorem mixed_ok : P.follows .mixedOrders = true := by kernel_rfl
end Go.Ax
