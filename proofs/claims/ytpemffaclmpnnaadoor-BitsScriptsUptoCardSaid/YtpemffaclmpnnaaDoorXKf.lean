/- What the program's functions come to (written by a program of mine, mkac.py). -/
import Derived.Test.YtpemffaclmpnnaaDoorMG
import Derived.Test.YtpemffaclmpnnaaDoorProg
import Derived.KernelRfl
namespace Go.Ax
set_option linter.unusedVariables false
set_option maxRecDepth 100000
open Go.Proofs
noncomputable abbrev P : Program := Tryd.prog
def F_colonnadelaw01_BitsCounts : FuncId := 3
def F_colonnadelaw01_BitsWalks : FuncId := 4
def F_colonnadelaw01_BitsPieces : FuncId := 5
def F_colonnadelaw01_BitsNames : FuncId := 6
def F_colonnadelaw01_BitsAlgebra : FuncId := 7
def F_colonnadelaw01_BitsScripts : FuncId := 8
def F_colonnadelaw01_BitsMemory : FuncId := 9
def F_colonnadelaw01_awake : FuncId := 10
def F_bits_Of : FuncId := 11
def F_bits_Set_Get : FuncId := 12
def F_bits_Set_Rank : FuncId := 13
def F_bits_Set_Select : FuncId := 14
def F_bits_Set_Count : FuncId := 15
def F_bits_Set_All : FuncId := 16
def F_colonnadelaw01_pick : FuncId := 17
def F_bits_Set_Put : FuncId := 18
def F_colonnadelaw01_sameInts : FuncId := 19
def F_bits_Load : FuncId := 20
def F_bits_Set_Words : FuncId := 21
def F_colonnadelaw01_alike : FuncId := 22
def F_bits_Set_Slice : FuncId := 23
def F_bits_Join : FuncId := 24
def F_bits_Set_Len : FuncId := 25
def F_bits_Set_And : FuncId := 26
def F_bits_New : FuncId := 27
def F_bits_Set_Or : FuncId := 28
def F_bits_Set_Xor : FuncId := 29
def F_colonnadelaw01_walked : FuncId := 30
def F_bits_Set_Clone : FuncId := 31
def F_bits_Set_Not : FuncId := 32
def F_colonnadelaw01_three : FuncId := 33
def F_bits_Set_Less : FuncId := 34
def F_colonnaderef01_New : FuncId := 35
def F_colonnadelaw01_world_made : FuncId := 36
def F_colonnadelaw01_is : FuncId := 37
def F_colonnadelaw01_world_told : FuncId := 38
def F_colonnadelaw01_apart : FuncId := 39
def F_colonnadelaw01_sameWords : FuncId := 40
def F_colonnadelaw01_again : FuncId := 41
def F_math_bits_OnesCount64 : FuncId := 42
def F_math_bits_TrailingZeros64 : FuncId := 43
def F_bits_Set_All_1 : FuncId := 44
def F_bits_words : FuncId := 45
def F_slices_Clone_uint64_uint64 : FuncId := 46
def F_bits_Set_trim : FuncId := 47
def F_bits_Set_both : FuncId := 48
def F_bits_Set_And_1 : FuncId := 49
def F_bits_Set_Or_1 : FuncId := 50
def F_bits_Set_Xor_1 : FuncId := 51
def F_bits_Set_Less_1 : FuncId := 52
def F_colonnaderef01_Of : FuncId := 53
def F_colonnadelaw01_lentWords : FuncId := 54
def F_colonnaderef01_Load : FuncId := 55
def F_colonnadelaw01_keptWords : FuncId := 56
def F_colonnaderef01_Clone : FuncId := 57
def F_colonnaderef01_Both : FuncId := 58
def F_colonnadelaw01_both : FuncId := 59
def F_colonnaderef01_Not : FuncId := 60
def F_colonnaderef01_Slice : FuncId := 61
def F_colonnaderef01_Join : FuncId := 62
def F_colonnaderef01_Words : FuncId := 63
def F_colonnaderef01_Put : FuncId := 64
def F_colonnaderef01_All : FuncId := 65
def F_colonnaderef01_Rank : FuncId := 66
def F_colonnaderef01_Select : FuncId := 67
def F_colonnaderef01_Get : FuncId := 68
def F_colonnaderef01_clamp : FuncId := 69
end Go.Ax
