/- What the program's functions come to (written by a program of mine, mkac.py). -/
import Derived.Test.YtffakcgcemaokaaMG
import Derived.Test.YtffakcgcemaokaaProg
import Derived.KernelRfl
namespace Go.Ax
set_option linter.unusedVariables false
set_option maxRecDepth 100000
open Go.Proofs
noncomputable abbrev P : Program := Try.prog
def F_colonnadelaw03_LanesSpreads : FuncId := 3
def F_colonnadelaw03_LanesMarks : FuncId := 4
def F_colonnadelaw03_LanesTests : FuncId := 5
def F_colonnadelaw03_LanesIns : FuncId := 6
def F_colonnadelaw03_LanesHolds : FuncId := 7
def F_colonnadelaw03_LanesWords : FuncId := 8
def F_colonnadelaw03_LanesSums : FuncId := 9
def F_colonnadelaw03_LanesBetweens : FuncId := 10
def F_colonnadelaw03_LanesEmpty : FuncId := 11
def F_colonnadelaw03_LanesWidths : FuncId := 12
def F_colonnadelaw03_LanesAlgebra : FuncId := 13
def F_colonnadelaw03_LanesPacked : FuncId := 14
def F_colonnadelaw03_LanesOwn : FuncId := 15
def F_colonnaderef03_Spread : FuncId := 16
def F_lanes_Spread : FuncId := 17
def F_colonnadelaw03_known : FuncId := 18
def F_colonnaderef03_Marks : FuncId := 19
def F_lanes_Marks : FuncId := 20
def F_colonnadelaw03_large : FuncId := 21
def F_colonnaderef03_Test : FuncId := 22
def F_lanes_Test : FuncId := 23
def F_colonnadelaw03_twin : FuncId := 24
def F_colonnadelaw03_like : FuncId := 25
def F_colonnaderef03_In : FuncId := 26
def F_lanes_In : FuncId := 27
def F_colonnaderef03_Held : FuncId := 28
def F_lanes_Equal : FuncId := 29
def F_lanes_Below : FuncId := 30
def F_colonnadelaw03_lane : FuncId := 31
def F_colonnadelaw03_alone : FuncId := 32
def F_colonnaderef03_Sum : FuncId := 33
def F_lanes_Sum : FuncId := 34
def F_colonnaderef03_Ends : FuncId := 35
def F_lanes_Ends : FuncId := 36
def F_colonnaderef03_Between : FuncId := 37
def F_lanes_Between : FuncId := 38
def F_bits_Set_Len : FuncId := 39
def F_bits_Set_Count : FuncId := 40
def F_colonnadelaw03_fit : FuncId := 41
def F_pack_Pack_uint64 : FuncId := 42
def F_colonnadelaw03_same : FuncId := 43
def F_colonnadelaw03_count : FuncId := 44
def F_bits_Set_Get : FuncId := 45
def F_colonnadelaw03_listed : FuncId := 46
def F_colonnadelaw03_said : FuncId := 47
def F_colonnadelaw03_turned : FuncId := 48
def F_colonnaderef03_fits : FuncId := 49
def F_lanes_wide : FuncId := 50
def F_lanes_spread : FuncId := 51
def F_colonnaderef03_Bit : FuncId := 52
def F_colonnaderef03_word : FuncId := 53
def F_lanes_marks : FuncId := 54
def F_colonnaderef03_Fault : FuncId := 55
def F_colonnaderef03_Numbers : FuncId := 56
def F_colonnaderef03_Stands : FuncId := 57
def F_lanes_fault : FuncId := 58
def F_lanes_all : FuncId := 59
def F_lanes_gather : FuncId := 60
def F_lanes_stands : FuncId := 61
def F_bits_New : FuncId := 62
def F_bits_Set_Or : FuncId := 63
def F_colonnaderef03_Lane : FuncId := 64
def F_lanes_equal : FuncId := 65
def F_lanes_tops : FuncId := 66
def F_lanes_below : FuncId := 67
def F_lanes_at : FuncId := 69
def F_bits_Set_And : FuncId := 70
def F_bits_Set_Rank : FuncId := 71
def F_pack_Bytes : FuncId := 72
def F_pack_Width : FuncId := 73
def F_bits_Set_Put : FuncId := 74
def F_bits_Set_Not : FuncId := 75
def F_pack_Word : FuncId := 76
def F_bits_Load : FuncId := 77
def F_lanes_stands_1 : FuncId := 78
def F_bits_words : FuncId := 79
def F_bits_Set_both : FuncId := 80
def F_bits_Set_Or_1 : FuncId := 81
def F_lanes_used : FuncId := 82
def F_bits_Set_And_1 : FuncId := 83
def F_math_bits_OnesCount64 : FuncId := 84
def F_pack_may : FuncId := 85
def F_math_bits_Len64 : FuncId := 86
def F_bits_Set_Clone : FuncId := 87
def F_bits_Set_trim : FuncId := 88
def F_slices_Clone_uint64_uint64 : FuncId := 89
def lit_d46a035e : ByteArray := ⟨#[0, 1, 2, 2, 3, 3, 3, 3, 4, 4, 4, 4, 4, 4, 4, 4, 5, 5, 5, 5, 5, 5, 5, 5, 5, 5, 5, 5, 5, 5, 5, 5, 6, 6, 6, 6, 6, 6, 6, 6, 6, 6, 6, 6, 6, 6, 6, 6, 6, 6, 6, 6, 6, 6, 6, 6, 6, 6, 6, 6, 6, 6, 6, 6, 7, 7, 7, 7, 7, 7, 7, 7, 7, 7, 7, 7, 7, 7, 7, 7, 7, 7, 7, 7, 7, 7, 7, 7, 7, 7, 7, 7, 7, 7, 7, 7, 7, 7, 7, 7, 7, 7, 7, 7, 7, 7, 7, 7, 7, 7, 7, 7, 7, 7, 7, 7, 7, 7, 7, 7, 7, 7, 7, 7, 7, 7, 7, 7, 8, 8, 8, 8, 8, 8, 8, 8, 8, 8, 8, 8, 8, 8, 8, 8, 8, 8, 8, 8, 8, 8, 8, 8, 8, 8, 8, 8, 8, 8, 8, 8, 8, 8, 8, 8, 8, 8, 8, 8, 8, 8, 8, 8, 8, 8, 8, 8, 8, 8, 8, 8, 8, 8, 8, 8, 8, 8, 8, 8, 8, 8, 8, 8, 8, 8, 8, 8, 8, 8, 8, 8, 8, 8, 8, 8, 8, 8, 8, 8, 8, 8, 8, 8, 8, 8, 8, 8, 8, 8, 8, 8, 8, 8, 8, 8, 8, 8, 8, 8, 8, 8, 8, 8, 8, 8, 8, 8, 8, 8, 8, 8, 8, 8, 8, 8, 8, 8, 8, 8, 8, 8, 8, 8, 8, 8, 8, 8]⟩
end Go.Ax
