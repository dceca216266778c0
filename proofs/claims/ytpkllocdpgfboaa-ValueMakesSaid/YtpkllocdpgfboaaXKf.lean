/- What the program's functions come to (written by a program of mine, mkac.py). -/
import Derived.Test.YtpkllocdpgfboaaMG
import Derived.Test.YtpkllocdpgfboaaProg
import Derived.KernelRfl
namespace Go.Ax
set_option linter.unusedVariables false
set_option maxRecDepth 100000
open Go.Proofs
noncomputable abbrev P : Program := Try.prog
def F_colonnadelaw05_ValueMakes : FuncId := 3
def F_colonnadelaw05_ValueTruths : FuncId := 4
def F_colonnadelaw05_ValueMays : FuncId := 5
def F_colonnadelaw05_ValueCompares : FuncId := 6
def F_value_Int : FuncId := 7
def F_value_Text : FuncId := 8
def F_colonnaderef05_Same : FuncId := 9
def F_value_Real : FuncId := 10
def F_colonnaderef05_Real : FuncId := 11
def F_value_None : FuncId := 12
def F_value_And : FuncId := 13
def F_value_Or : FuncId := 14
def F_colonnaderef05_And : FuncId := 15
def F_colonnaderef05_Or : FuncId := 16
def F_value_Not : FuncId := 17
def F_colonnaderef05_Not : FuncId := 18
def F_value_May : FuncId := 19
def F_colonnaderef05_May : FuncId := 20
def F_value_Fits : FuncId := 21
def F_colonnaderef05_Fits : FuncId := 22
def F_value_Compare : FuncId := 23
def F_colonnaderef05_Compare : FuncId := 24
def F_math_IsNaN : FuncId := 26
def F_math_IsInf : FuncId := 27
def F_math_Abs : FuncId := 28
def F_colonnaderef05_sign : FuncId := 29
def F_value_most : FuncId := 30
def F_colonnaderef05_rank : FuncId := 31
def F_colonnaderef05_truth : FuncId := 32
def F_colonnaderef05_plus : FuncId := 33
def F_math_Signbit : FuncId := 34
def F_cmp_Compare_int : FuncId := 35
def F_value_class : FuncId := 36
def F_strings_Compare : FuncId := 37
def F_cmp_Compare_int64 : FuncId := 38
def F_cmp_Compare_float64 : FuncId := 39
def F_cmp_Or_int : FuncId := 40
def F_value_against : FuncId := 41
def F_colonnaderef05_class : FuncId := 42
def F_colonnaderef05_less : FuncId := 43
def F_colonnaderef05_texts : FuncId := 44
def F_colonnaderef05_numbers : FuncId := 45
def F_value_rank : FuncId := 47
def F_cmp_isNaN_int : FuncId := 48
def F_internal_bytealg_CompareString : FuncId := 49
def F_cmp_isNaN_int64 : FuncId := 50
def F_cmp_isNaN_float64 : FuncId := 51
def F_colonnaderef05_ints : FuncId := 52
def F_math_Trunc : FuncId := 53
def F_math_trunc : FuncId := 56
def F_math_Copysign : FuncId := 57
end Go.Ax
