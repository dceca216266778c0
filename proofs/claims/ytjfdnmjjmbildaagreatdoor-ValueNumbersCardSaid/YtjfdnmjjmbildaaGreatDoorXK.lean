/- What the program's functions come to (written by a program of mine, mkac.py). -/
import Derived.Test.YtjfdnmjjmbildaaGreatDoorXK0
import Derived.Test.YtjfdnmjjmbildaaGreatDoorXK1
import Derived.Test.YtjfdnmjjmbildaaGreatDoorXK2
import Derived.Test.YtjfdnmjjmbildaaGreatDoorXK3
import Derived.Test.YtjfdnmjjmbildaaGreatDoorKC
namespace Go.Ax
set_option linter.unusedVariables false
set_option maxRecDepth 100000
open Go.Proofs
def T : Table := fun f => match f with
  | 3 => some c_colonnadelaw05_ValueNumbers
  | 4 => some c_colonnadelaw05_ValueTexts
  | 5 => some c_colonnadelaw05_ValueKleene
  | 6 => some c_colonnadelaw05_ValueOrder
  | 7 => some c_colonnadelaw05_awake
  | 8 => some c_value_Compare
  | 9 => some c_value_Int
  | 10 => some c_colonnadelaw05_exact
  | 11 => some c_value_Real
  | 12 => some c_value_Text
  | 13 => some c_colonnadelaw05_third
  | 14 => some c_value_And
  | 15 => some c_value_Or
  | 16 => some c_value_Not
  | 17 => some c_colonnadelaw05_sound
  | 18 => some c_colonnaderef05_Same
  | 19 => some c_value_Read
  | 20 => some c_value_Print
  | 21 => some c_colonnadelaw05_num
  | 22 => some c_cmp_Compare_int
  | 23 => some c_value_class
  | 24 => some c_strings_Compare
  | 25 => some c_cmp_Compare_int64
  | 26 => some c_cmp_Compare_float64
  | 27 => some c_cmp_Or_int
  | 28 => some c_value_against
  | 29 => some c_value_None
  | 30 => some c_value_most
  | 31 => some c_colonnaderef05_May
  | 32 => some c_colonnaderef05_Real
  | 34 => some c_value_guess
  | 35 => some c_value_May
  | 36 => some c_strconv_FormatInt
  | 37 => some c_value_quoted
  | 38 => some c_value_real
  | 39 => some c_cmp_isNaN_int
  | 40 => some c_internal_bytealg_CompareString
  | 41 => some c_cmp_isNaN_int64
  | 42 => some c_cmp_isNaN_float64
  | 43 => some c_value_rank
  | 44 => some c_colonnaderef05_plus
  | 45 => some c_math_Signbit
  | 46 => some c_math_IsNaN
  | 47 => some c_math_IsInf
  | 48 => some c_math_Abs
  | 49 => some c_colonnaderef05_sign
  | 50 => some c_strings_HasPrefix
  | 51 => some c_strconv_ParseUint
  | 52 => some c_strconv_ParseInt
  | 53 => some c_strconv_ParseFloat
  | 54 => some c_internal_strconv_FormatInt
  | 55 => some c_strconv_FormatFloat
  | 56 => some c_strings_Cut
  | 57 => some c_strconv_Atoi
  | 58 => some c_strings_Contains
  | 61 => some c_internal_stringslite_HasPrefix
  | 62 => some c_internal_strconv_ParseUint
  | 63 => some c_strconv_toError
  | 64 => some c_internal_strconv_ParseInt
  | 65 => some c_internal_strconv_ParseFloat
  | 66 => some c_internal_strconv_small
  | 67 => some c_internal_strconv_numDigits
  | 68 => some c_internal_strconv_formatBase10
  | 69 => some c_internal_strconv_formatBits
  | 70 => some c_internal_strconv_FormatFloat
  | 71 => some c_internal_stringslite_Cut
  | 72 => some c_internal_strconv_Atoi
  | 73 => some c_strings_Index
  | 74 => some c_internal_strconv_lower
  | 75 => some c_internal_strconv_underscoreOK
  | 76 => some c_strconv_syntaxError
  | 77 => some c_strconv_rangeError
  | 78 => some c_strconv_baseError
  | 79 => some c_strconv_bitSizeError
  | 80 => some c_internal_strconv_parseFloatPrefix
  | 81 => some c_internal_strconv_log10Pow2
  | 82 => some c_math_bits_Len64
  | 83 => some c_internal_strconv_bool2_int
  | 84 => some c_internal_strconv_isPowerOfTwo
  | 85 => some c_math_bits_TrailingZeros
  | 86 => some c_internal_strconv_ftoa32
  | 87 => some c_internal_strconv_ftoa64
  | 88 => some c_internal_stringslite_Index
  | 89 => some c_cloneS
  | 90 => some c_errors_New
  | 91 => some c_strconv_Itoa
  | 92 => some c_internal_strconv_atof32
  | 93 => some c_internal_strconv_atof64
  | 94 => some c_math_bits_TrailingZeros32
  | 95 => some c_math_bits_TrailingZeros64
  | 98 => some c_internal_strconv_fmtB
  | 99 => some c_internal_strconv_fmtX
  | 100 => some c_internal_strconv_fmtEFG
  | 101 => some c_internal_strconv_shortFloat_float32
  | 102 => some c_internal_strconv_setDigits
  | 103 => some c_internal_strconv_fixedWidthFloat
  | 104 => some c_internal_strconv_decimal_Assign
  | 105 => some c_internal_strconv_decimal_Shift
  | 106 => some c_internal_strconv_decimal_Round
  | 107 => some c_internal_strconv_shortFloat_float64
  | 108 => some c_internal_stringslite_IndexByte
  | 110 => some c_internal_bytealg_Cutover
  | 111 => some c_internal_bytealg_IndexRabinKarp_string
  | 112 => some c_internal_strconv_Itoa
  | 113 => some c_internal_strconv_special
  | 114 => some c_internal_strconv_readFloat
  | 115 => some c_internal_strconv_atofHex
  | 116 => some c_internal_strconv_bool2_uint32
  | 118 => some c_internal_strconv_atof32exact
  | 119 => some c_internal_strconv_parseFloat32
  | 120 => some c_internal_strconv_decimal_set
  | 121 => some c_internal_strconv_decimal_floatBits
  | 122 => some c_internal_strconv_bool2_uint64
  | 124 => some c_internal_strconv_atof64exact
  | 125 => some c_internal_strconv_parseFloat64
  | 126 => some c_internal_strconv_AppendUint
  | 127 => some c_internal_strconv_AppendInt
  | 128 => some c_internal_strconv_skewed
  | 129 => some c_internal_strconv_prescale
  | 130 => some c_internal_strconv_log2Pow10
  | 131 => some c_internal_strconv_uscale
  | 132 => some c_internal_strconv_unrounded_nudge
  | 133 => some c_internal_strconv_unrounded_ceil
  | 134 => some c_internal_strconv_unrounded_floor
  | 135 => some c_internal_strconv_unrounded_round
  | 136 => some c_internal_strconv_unmin
  | 137 => some c_internal_strconv_unrounded_div
  | 138 => some c_internal_strconv_trim
  | 139 => some c_internal_strconv_leftShift
  | 140 => some c_internal_strconv_rightShift
  | 141 => some c_internal_strconv_shouldRoundUp
  | 142 => some c_internal_strconv_decimal_RoundUp
  | 143 => some c_internal_strconv_decimal_RoundDown
  | 145 => some c_internal_bytealg_hashStr_string
  | 146 => some c_internal_strconv_commonPrefixLenIgnoreCase
  | 147 => some c_internal_strconv_inf
  | 148 => some c_internal_strconv_nan
  | 149 => some c_internal_strconv_pack32
  | 150 => some c_internal_strconv_decimal_RoundedInteger
  | 151 => some c_internal_strconv_pack64
  | 152 => some c_math_bits_Mul64
  | 153 => some c_internal_strconv_bool2_internal_strconv_unrounded
  | 154 => some c_internal_strconv_prefixIsLessThan
  | _ => none
theorem t_colonnadelaw05_ValueNumbers : T F_colonnadelaw05_ValueNumbers = some c_colonnadelaw05_ValueNumbers := rfl
theorem t_colonnadelaw05_ValueTexts : T F_colonnadelaw05_ValueTexts = some c_colonnadelaw05_ValueTexts := rfl
theorem t_colonnadelaw05_ValueKleene : T F_colonnadelaw05_ValueKleene = some c_colonnadelaw05_ValueKleene := rfl
theorem t_colonnadelaw05_ValueOrder : T F_colonnadelaw05_ValueOrder = some c_colonnadelaw05_ValueOrder := rfl
theorem t_colonnadelaw05_awake : T F_colonnadelaw05_awake = some c_colonnadelaw05_awake := rfl
theorem t_value_Compare : T F_value_Compare = some c_value_Compare := rfl
theorem t_value_Int : T F_value_Int = some c_value_Int := rfl
theorem t_colonnadelaw05_exact : T F_colonnadelaw05_exact = some c_colonnadelaw05_exact := rfl
theorem t_value_Real : T F_value_Real = some c_value_Real := rfl
theorem t_value_Text : T F_value_Text = some c_value_Text := rfl
theorem t_colonnadelaw05_third : T F_colonnadelaw05_third = some c_colonnadelaw05_third := rfl
theorem t_value_And : T F_value_And = some c_value_And := rfl
theorem t_value_Or : T F_value_Or = some c_value_Or := rfl
theorem t_value_Not : T F_value_Not = some c_value_Not := rfl
theorem t_colonnadelaw05_sound : T F_colonnadelaw05_sound = some c_colonnadelaw05_sound := rfl
theorem t_colonnaderef05_Same : T F_colonnaderef05_Same = some c_colonnaderef05_Same := rfl
theorem t_value_Read : T F_value_Read = some c_value_Read := rfl
theorem t_value_Print : T F_value_Print = some c_value_Print := rfl
theorem t_colonnadelaw05_num : T F_colonnadelaw05_num = some c_colonnadelaw05_num := rfl
theorem t_cmp_Compare_int : T F_cmp_Compare_int = some c_cmp_Compare_int := rfl
theorem t_value_class : T F_value_class = some c_value_class := rfl
theorem t_strings_Compare : T F_strings_Compare = some c_strings_Compare := rfl
theorem t_cmp_Compare_int64 : T F_cmp_Compare_int64 = some c_cmp_Compare_int64 := rfl
theorem t_cmp_Compare_float64 : T F_cmp_Compare_float64 = some c_cmp_Compare_float64 := rfl
theorem t_cmp_Or_int : T F_cmp_Or_int = some c_cmp_Or_int := rfl
theorem t_value_against : T F_value_against = some c_value_against := rfl
theorem t_value_None : T F_value_None = some c_value_None := rfl
theorem t_value_most : T F_value_most = some c_value_most := rfl
theorem t_colonnaderef05_May : T F_colonnaderef05_May = some c_colonnaderef05_May := rfl
theorem t_colonnaderef05_Real : T F_colonnaderef05_Real = some c_colonnaderef05_Real := rfl
theorem t_value_guess : T F_value_guess = some c_value_guess := rfl
theorem t_value_May : T F_value_May = some c_value_May := rfl
theorem t_strconv_FormatInt : T F_strconv_FormatInt = some c_strconv_FormatInt := rfl
theorem t_value_quoted : T F_value_quoted = some c_value_quoted := rfl
theorem t_value_real : T F_value_real = some c_value_real := rfl
theorem t_cmp_isNaN_int : T F_cmp_isNaN_int = some c_cmp_isNaN_int := rfl
theorem t_internal_bytealg_CompareString : T F_internal_bytealg_CompareString = some c_internal_bytealg_CompareString := rfl
theorem t_cmp_isNaN_int64 : T F_cmp_isNaN_int64 = some c_cmp_isNaN_int64 := rfl
theorem t_cmp_isNaN_float64 : T F_cmp_isNaN_float64 = some c_cmp_isNaN_float64 := rfl
theorem t_value_rank : T F_value_rank = some c_value_rank := rfl
theorem t_colonnaderef05_plus : T F_colonnaderef05_plus = some c_colonnaderef05_plus := rfl
theorem t_math_Signbit : T F_math_Signbit = some c_math_Signbit := rfl
theorem t_math_IsNaN : T F_math_IsNaN = some c_math_IsNaN := rfl
theorem t_math_IsInf : T F_math_IsInf = some c_math_IsInf := rfl
theorem t_math_Abs : T F_math_Abs = some c_math_Abs := rfl
theorem t_colonnaderef05_sign : T F_colonnaderef05_sign = some c_colonnaderef05_sign := rfl
theorem t_strings_HasPrefix : T F_strings_HasPrefix = some c_strings_HasPrefix := rfl
theorem t_strconv_ParseUint : T F_strconv_ParseUint = some c_strconv_ParseUint := rfl
theorem t_strconv_ParseInt : T F_strconv_ParseInt = some c_strconv_ParseInt := rfl
theorem t_strconv_ParseFloat : T F_strconv_ParseFloat = some c_strconv_ParseFloat := rfl
theorem t_internal_strconv_FormatInt : T F_internal_strconv_FormatInt = some c_internal_strconv_FormatInt := rfl
theorem t_strconv_FormatFloat : T F_strconv_FormatFloat = some c_strconv_FormatFloat := rfl
theorem t_strings_Cut : T F_strings_Cut = some c_strings_Cut := rfl
theorem t_strconv_Atoi : T F_strconv_Atoi = some c_strconv_Atoi := rfl
theorem t_strings_Contains : T F_strings_Contains = some c_strings_Contains := rfl
theorem t_internal_stringslite_HasPrefix : T F_internal_stringslite_HasPrefix = some c_internal_stringslite_HasPrefix := rfl
theorem t_internal_strconv_ParseUint : T F_internal_strconv_ParseUint = some c_internal_strconv_ParseUint := rfl
theorem t_strconv_toError : T F_strconv_toError = some c_strconv_toError := rfl
theorem t_internal_strconv_ParseInt : T F_internal_strconv_ParseInt = some c_internal_strconv_ParseInt := rfl
theorem t_internal_strconv_ParseFloat : T F_internal_strconv_ParseFloat = some c_internal_strconv_ParseFloat := rfl
theorem t_internal_strconv_small : T F_internal_strconv_small = some c_internal_strconv_small := rfl
theorem t_internal_strconv_numDigits : T F_internal_strconv_numDigits = some c_internal_strconv_numDigits := rfl
theorem t_internal_strconv_formatBase10 : T F_internal_strconv_formatBase10 = some c_internal_strconv_formatBase10 := rfl
theorem t_internal_strconv_formatBits : T F_internal_strconv_formatBits = some c_internal_strconv_formatBits := rfl
theorem t_internal_strconv_FormatFloat : T F_internal_strconv_FormatFloat = some c_internal_strconv_FormatFloat := rfl
theorem t_internal_stringslite_Cut : T F_internal_stringslite_Cut = some c_internal_stringslite_Cut := rfl
theorem t_internal_strconv_Atoi : T F_internal_strconv_Atoi = some c_internal_strconv_Atoi := rfl
theorem t_strings_Index : T F_strings_Index = some c_strings_Index := rfl
theorem t_internal_strconv_lower : T F_internal_strconv_lower = some c_internal_strconv_lower := rfl
theorem t_internal_strconv_underscoreOK : T F_internal_strconv_underscoreOK = some c_internal_strconv_underscoreOK := rfl
theorem t_strconv_syntaxError : T F_strconv_syntaxError = some c_strconv_syntaxError := rfl
theorem t_strconv_rangeError : T F_strconv_rangeError = some c_strconv_rangeError := rfl
theorem t_strconv_baseError : T F_strconv_baseError = some c_strconv_baseError := rfl
theorem t_strconv_bitSizeError : T F_strconv_bitSizeError = some c_strconv_bitSizeError := rfl
theorem t_internal_strconv_parseFloatPrefix : T F_internal_strconv_parseFloatPrefix = some c_internal_strconv_parseFloatPrefix := rfl
theorem t_internal_strconv_log10Pow2 : T F_internal_strconv_log10Pow2 = some c_internal_strconv_log10Pow2 := rfl
theorem t_math_bits_Len64 : T F_math_bits_Len64 = some c_math_bits_Len64 := rfl
theorem t_internal_strconv_bool2_int : T F_internal_strconv_bool2_int = some c_internal_strconv_bool2_int := rfl
theorem t_internal_strconv_isPowerOfTwo : T F_internal_strconv_isPowerOfTwo = some c_internal_strconv_isPowerOfTwo := rfl
theorem t_math_bits_TrailingZeros : T F_math_bits_TrailingZeros = some c_math_bits_TrailingZeros := rfl
theorem t_internal_strconv_ftoa32 : T F_internal_strconv_ftoa32 = some c_internal_strconv_ftoa32 := rfl
theorem t_internal_strconv_ftoa64 : T F_internal_strconv_ftoa64 = some c_internal_strconv_ftoa64 := rfl
theorem t_internal_stringslite_Index : T F_internal_stringslite_Index = some c_internal_stringslite_Index := rfl
theorem t_internal_stringslite_Clone : T F_internal_stringslite_Clone = some c_cloneS := rfl
theorem t_errors_New : T F_errors_New = some c_errors_New := rfl
theorem t_strconv_Itoa : T F_strconv_Itoa = some c_strconv_Itoa := rfl
theorem t_internal_strconv_atof32 : T F_internal_strconv_atof32 = some c_internal_strconv_atof32 := rfl
theorem t_internal_strconv_atof64 : T F_internal_strconv_atof64 = some c_internal_strconv_atof64 := rfl
theorem t_math_bits_TrailingZeros32 : T F_math_bits_TrailingZeros32 = some c_math_bits_TrailingZeros32 := rfl
theorem t_math_bits_TrailingZeros64 : T F_math_bits_TrailingZeros64 = some c_math_bits_TrailingZeros64 := rfl
theorem t_internal_strconv_fmtB : T F_internal_strconv_fmtB = some c_internal_strconv_fmtB := rfl
theorem t_internal_strconv_fmtX : T F_internal_strconv_fmtX = some c_internal_strconv_fmtX := rfl
theorem t_internal_strconv_fmtEFG : T F_internal_strconv_fmtEFG = some c_internal_strconv_fmtEFG := rfl
theorem t_internal_strconv_shortFloat_float32 : T F_internal_strconv_shortFloat_float32 = some c_internal_strconv_shortFloat_float32 := rfl
theorem t_internal_strconv_setDigits : T F_internal_strconv_setDigits = some c_internal_strconv_setDigits := rfl
theorem t_internal_strconv_fixedWidthFloat : T F_internal_strconv_fixedWidthFloat = some c_internal_strconv_fixedWidthFloat := rfl
theorem t_internal_strconv_decimal_Assign : T F_internal_strconv_decimal_Assign = some c_internal_strconv_decimal_Assign := rfl
theorem t_internal_strconv_decimal_Shift : T F_internal_strconv_decimal_Shift = some c_internal_strconv_decimal_Shift := rfl
theorem t_internal_strconv_decimal_Round : T F_internal_strconv_decimal_Round = some c_internal_strconv_decimal_Round := rfl
theorem t_internal_strconv_shortFloat_float64 : T F_internal_strconv_shortFloat_float64 = some c_internal_strconv_shortFloat_float64 := rfl
theorem t_internal_stringslite_IndexByte : T F_internal_stringslite_IndexByte = some c_internal_stringslite_IndexByte := rfl
theorem t_internal_bytealg_Cutover : T F_internal_bytealg_Cutover = some c_internal_bytealg_Cutover := rfl
theorem t_internal_bytealg_IndexRabinKarp_string : T F_internal_bytealg_IndexRabinKarp_string = some c_internal_bytealg_IndexRabinKarp_string := rfl
theorem t_internal_strconv_Itoa : T F_internal_strconv_Itoa = some c_internal_strconv_Itoa := rfl
theorem t_internal_strconv_special : T F_internal_strconv_special = some c_internal_strconv_special := rfl
theorem t_internal_strconv_readFloat : T F_internal_strconv_readFloat = some c_internal_strconv_readFloat := rfl
theorem t_internal_strconv_atofHex : T F_internal_strconv_atofHex = some c_internal_strconv_atofHex := rfl
theorem t_internal_strconv_bool2_uint32 : T F_internal_strconv_bool2_uint32 = some c_internal_strconv_bool2_uint32 := rfl
theorem t_internal_strconv_atof32exact : T F_internal_strconv_atof32exact = some c_internal_strconv_atof32exact := rfl
theorem t_internal_strconv_parseFloat32 : T F_internal_strconv_parseFloat32 = some c_internal_strconv_parseFloat32 := rfl
theorem t_internal_strconv_decimal_set : T F_internal_strconv_decimal_set = some c_internal_strconv_decimal_set := rfl
theorem t_internal_strconv_decimal_floatBits : T F_internal_strconv_decimal_floatBits = some c_internal_strconv_decimal_floatBits := rfl
theorem t_internal_strconv_bool2_uint64 : T F_internal_strconv_bool2_uint64 = some c_internal_strconv_bool2_uint64 := rfl
theorem t_internal_strconv_atof64exact : T F_internal_strconv_atof64exact = some c_internal_strconv_atof64exact := rfl
theorem t_internal_strconv_parseFloat64 : T F_internal_strconv_parseFloat64 = some c_internal_strconv_parseFloat64 := rfl
theorem t_internal_strconv_AppendUint : T F_internal_strconv_AppendUint = some c_internal_strconv_AppendUint := rfl
theorem t_internal_strconv_AppendInt : T F_internal_strconv_AppendInt = some c_internal_strconv_AppendInt := rfl
theorem t_internal_strconv_skewed : T F_internal_strconv_skewed = some c_internal_strconv_skewed := rfl
theorem t_internal_strconv_prescale : T F_internal_strconv_prescale = some c_internal_strconv_prescale := rfl
theorem t_internal_strconv_log2Pow10 : T F_internal_strconv_log2Pow10 = some c_internal_strconv_log2Pow10 := rfl
theorem t_internal_strconv_uscale : T F_internal_strconv_uscale = some c_internal_strconv_uscale := rfl
theorem t_internal_strconv_unrounded_nudge : T F_internal_strconv_unrounded_nudge = some c_internal_strconv_unrounded_nudge := rfl
theorem t_internal_strconv_unrounded_ceil : T F_internal_strconv_unrounded_ceil = some c_internal_strconv_unrounded_ceil := rfl
theorem t_internal_strconv_unrounded_floor : T F_internal_strconv_unrounded_floor = some c_internal_strconv_unrounded_floor := rfl
theorem t_internal_strconv_unrounded_round : T F_internal_strconv_unrounded_round = some c_internal_strconv_unrounded_round := rfl
theorem t_internal_strconv_unmin : T F_internal_strconv_unmin = some c_internal_strconv_unmin := rfl
theorem t_internal_strconv_unrounded_div : T F_internal_strconv_unrounded_div = some c_internal_strconv_unrounded_div := rfl
theorem t_internal_strconv_trim : T F_internal_strconv_trim = some c_internal_strconv_trim := rfl
theorem t_internal_strconv_leftShift : T F_internal_strconv_leftShift = some c_internal_strconv_leftShift := rfl
theorem t_internal_strconv_rightShift : T F_internal_strconv_rightShift = some c_internal_strconv_rightShift := rfl
theorem t_internal_strconv_shouldRoundUp : T F_internal_strconv_shouldRoundUp = some c_internal_strconv_shouldRoundUp := rfl
theorem t_internal_strconv_decimal_RoundUp : T F_internal_strconv_decimal_RoundUp = some c_internal_strconv_decimal_RoundUp := rfl
theorem t_internal_strconv_decimal_RoundDown : T F_internal_strconv_decimal_RoundDown = some c_internal_strconv_decimal_RoundDown := rfl
theorem t_internal_bytealg_hashStr_string : T F_internal_bytealg_hashStr_string = some c_internal_bytealg_hashStr_string := rfl
theorem t_internal_strconv_commonPrefixLenIgnoreCase : T F_internal_strconv_commonPrefixLenIgnoreCase = some c_internal_strconv_commonPrefixLenIgnoreCase := rfl
theorem t_internal_strconv_inf : T F_internal_strconv_inf = some c_internal_strconv_inf := rfl
theorem t_internal_strconv_nan : T F_internal_strconv_nan = some c_internal_strconv_nan := rfl
theorem t_internal_strconv_pack32 : T F_internal_strconv_pack32 = some c_internal_strconv_pack32 := rfl
theorem t_internal_strconv_decimal_RoundedInteger : T F_internal_strconv_decimal_RoundedInteger = some c_internal_strconv_decimal_RoundedInteger := rfl
theorem t_internal_strconv_pack64 : T F_internal_strconv_pack64 = some c_internal_strconv_pack64 := rfl
theorem t_math_bits_Mul64 : T F_math_bits_Mul64 = some c_math_bits_Mul64 := rfl
theorem t_internal_strconv_bool2_internal_strconv_unrounded : T F_internal_strconv_bool2_internal_strconv_unrounded = some c_internal_strconv_bool2_internal_strconv_unrounded := rfl
theorem t_internal_strconv_prefixIsLessThan : T F_internal_strconv_prefixIsLessThan = some c_internal_strconv_prefixIsLessThan := rfl
theorem T_ok : TableOkX P T := by
  intro f a h
  unfold T at h
  split at h
  · obtain rfl := Option.some.inj h; exact ⟨Tryz.f3, Tryz.func3, .inl k_colonnadelaw05_ValueNumbers, by kernel_rfl, by kernel_rfl⟩
  · obtain rfl := Option.some.inj h; exact ⟨Tryz.f4, Tryz.func4, .inl k_colonnadelaw05_ValueTexts, by kernel_rfl, by kernel_rfl⟩
  · obtain rfl := Option.some.inj h; exact ⟨Tryz.f5, Tryz.func5, .inl k_colonnadelaw05_ValueKleene, by kernel_rfl, by kernel_rfl⟩
  · obtain rfl := Option.some.inj h; exact ⟨Tryz.f6, Tryz.func6, .inl k_colonnadelaw05_ValueOrder, by kernel_rfl, by kernel_rfl⟩
  · obtain rfl := Option.some.inj h; exact ⟨Tryz.f7, Tryz.func7, .inl k_colonnadelaw05_awake, by kernel_rfl, by kernel_rfl⟩
  · obtain rfl := Option.some.inj h; exact ⟨Tryz.f8, Tryz.func8, .inl k_value_Compare, by kernel_rfl, by kernel_rfl⟩
  · obtain rfl := Option.some.inj h; exact ⟨Tryz.f9, Tryz.func9, .inl k_value_Int, by kernel_rfl, by kernel_rfl⟩
  · obtain rfl := Option.some.inj h; exact ⟨Tryz.f10, Tryz.func10, .inl k_colonnadelaw05_exact, by kernel_rfl, by kernel_rfl⟩
  · obtain rfl := Option.some.inj h; exact ⟨Tryz.f11, Tryz.func11, .inl k_value_Real, by kernel_rfl, by kernel_rfl⟩
  · obtain rfl := Option.some.inj h; exact ⟨Tryz.f12, Tryz.func12, .inl k_value_Text, by kernel_rfl, by kernel_rfl⟩
  · obtain rfl := Option.some.inj h; exact ⟨Tryz.f13, Tryz.func13, .inl k_colonnadelaw05_third, by kernel_rfl, by kernel_rfl⟩
  · obtain rfl := Option.some.inj h; exact ⟨Tryz.f14, Tryz.func14, .inl k_value_And, by kernel_rfl, by kernel_rfl⟩
  · obtain rfl := Option.some.inj h; exact ⟨Tryz.f15, Tryz.func15, .inl k_value_Or, by kernel_rfl, by kernel_rfl⟩
  · obtain rfl := Option.some.inj h; exact ⟨Tryz.f16, Tryz.func16, .inl k_value_Not, by kernel_rfl, by kernel_rfl⟩
  · obtain rfl := Option.some.inj h; exact ⟨Tryz.f17, Tryz.func17, .inl k_colonnadelaw05_sound, by kernel_rfl, by kernel_rfl⟩
  · obtain rfl := Option.some.inj h; exact ⟨Tryz.f18, Tryz.func18, .inl k_colonnaderef05_Same, by kernel_rfl, by kernel_rfl⟩
  · obtain rfl := Option.some.inj h; exact ⟨Tryz.f19, Tryz.func19, .inl k_value_Read, by kernel_rfl, by kernel_rfl⟩
  · obtain rfl := Option.some.inj h; exact ⟨Tryz.f20, Tryz.func20, .inl k_value_Print, by kernel_rfl, by kernel_rfl⟩
  · obtain rfl := Option.some.inj h; exact ⟨Tryz.f21, Tryz.func21, .inl k_colonnadelaw05_num, by kernel_rfl, by kernel_rfl⟩
  · obtain rfl := Option.some.inj h; exact ⟨Tryz.f22, Tryz.func22, .inl k_cmp_Compare_int, by kernel_rfl, by kernel_rfl⟩
  · obtain rfl := Option.some.inj h; exact ⟨Tryz.f23, Tryz.func23, .inl k_value_class, by kernel_rfl, by kernel_rfl⟩
  · obtain rfl := Option.some.inj h; exact ⟨Tryz.f24, Tryz.func24, .inl k_strings_Compare, by kernel_rfl, by kernel_rfl⟩
  · obtain rfl := Option.some.inj h; exact ⟨Tryz.f25, Tryz.func25, .inl k_cmp_Compare_int64, by kernel_rfl, by kernel_rfl⟩
  · obtain rfl := Option.some.inj h; exact ⟨Tryz.f26, Tryz.func26, .inl k_cmp_Compare_float64, by kernel_rfl, by kernel_rfl⟩
  · obtain rfl := Option.some.inj h; exact ⟨Tryz.f27, Tryz.func27, .inl k_cmp_Or_int, by kernel_rfl, by kernel_rfl⟩
  · obtain rfl := Option.some.inj h; exact ⟨Tryz.f28, Tryz.func28, .inl k_value_against, by kernel_rfl, by kernel_rfl⟩
  · obtain rfl := Option.some.inj h; exact ⟨Tryz.f29, Tryz.func29, .inl k_value_None, by kernel_rfl, by kernel_rfl⟩
  · obtain rfl := Option.some.inj h; exact ⟨Tryz.f30, Tryz.func30, .inl k_value_most, by kernel_rfl, by kernel_rfl⟩
  · obtain rfl := Option.some.inj h; exact ⟨Tryz.f31, Tryz.func31, .inl k_colonnaderef05_May, by kernel_rfl, by kernel_rfl⟩
  · obtain rfl := Option.some.inj h; exact ⟨Tryz.f32, Tryz.func32, .inl k_colonnaderef05_Real, by kernel_rfl, by kernel_rfl⟩
  · obtain rfl := Option.some.inj h; exact ⟨Tryz.f34, Tryz.func34, .inl k_value_guess, by kernel_rfl, by kernel_rfl⟩
  · obtain rfl := Option.some.inj h; exact ⟨Tryz.f35, Tryz.func35, .inl k_value_May, by kernel_rfl, by kernel_rfl⟩
  · obtain rfl := Option.some.inj h; exact ⟨Tryz.f36, Tryz.func36, .inl k_strconv_FormatInt, by kernel_rfl, by kernel_rfl⟩
  · obtain rfl := Option.some.inj h; exact ⟨Tryz.f37, Tryz.func37, .inl k_value_quoted, by kernel_rfl, by kernel_rfl⟩
  · obtain rfl := Option.some.inj h; exact ⟨Tryz.f38, Tryz.func38, .inl k_value_real, by kernel_rfl, by kernel_rfl⟩
  · obtain rfl := Option.some.inj h; exact ⟨Tryz.f39, Tryz.func39, .inl k_cmp_isNaN_int, by kernel_rfl, by kernel_rfl⟩
  · obtain rfl := Option.some.inj h; exact ⟨Tryz.f40, Tryz.func40, .inl k_internal_bytealg_CompareString, by kernel_rfl, by kernel_rfl⟩
  · obtain rfl := Option.some.inj h; exact ⟨Tryz.f41, Tryz.func41, .inl k_cmp_isNaN_int64, by kernel_rfl, by kernel_rfl⟩
  · obtain rfl := Option.some.inj h; exact ⟨Tryz.f42, Tryz.func42, .inl k_cmp_isNaN_float64, by kernel_rfl, by kernel_rfl⟩
  · obtain rfl := Option.some.inj h; exact ⟨Tryz.f43, Tryz.func43, .inl k_value_rank, by kernel_rfl, by kernel_rfl⟩
  · obtain rfl := Option.some.inj h; exact ⟨Tryz.f44, Tryz.func44, .inl k_colonnaderef05_plus, by kernel_rfl, by kernel_rfl⟩
  · obtain rfl := Option.some.inj h; exact ⟨Tryz.f45, Tryz.func45, .inl k_math_Signbit, by kernel_rfl, by kernel_rfl⟩
  · obtain rfl := Option.some.inj h; exact ⟨Tryz.f46, Tryz.func46, .inl k_math_IsNaN, by kernel_rfl, by kernel_rfl⟩
  · obtain rfl := Option.some.inj h; exact ⟨Tryz.f47, Tryz.func47, .inl k_math_IsInf, by kernel_rfl, by kernel_rfl⟩
  · obtain rfl := Option.some.inj h; exact ⟨Tryz.f48, Tryz.func48, .inl k_math_Abs, by kernel_rfl, by kernel_rfl⟩
  · obtain rfl := Option.some.inj h; exact ⟨Tryz.f49, Tryz.func49, .inl k_colonnaderef05_sign, by kernel_rfl, by kernel_rfl⟩
  · obtain rfl := Option.some.inj h; exact ⟨Tryz.f50, Tryz.func50, .inl k_strings_HasPrefix, by kernel_rfl, by kernel_rfl⟩
  · obtain rfl := Option.some.inj h; exact ⟨Tryz.f51, Tryz.func51, .inl k_strconv_ParseUint, by kernel_rfl, by kernel_rfl⟩
  · obtain rfl := Option.some.inj h; exact ⟨Tryz.f52, Tryz.func52, .inl k_strconv_ParseInt, by kernel_rfl, by kernel_rfl⟩
  · obtain rfl := Option.some.inj h; exact ⟨Tryz.f53, Tryz.func53, .inl k_strconv_ParseFloat, by kernel_rfl, by kernel_rfl⟩
  · obtain rfl := Option.some.inj h; exact ⟨Tryz.f54, Tryz.func54, .inl k_internal_strconv_FormatInt, by kernel_rfl, by kernel_rfl⟩
  · obtain rfl := Option.some.inj h; exact ⟨Tryz.f55, Tryz.func55, .inl k_strconv_FormatFloat, by kernel_rfl, by kernel_rfl⟩
  · obtain rfl := Option.some.inj h; exact ⟨Tryz.f56, Tryz.func56, .inl k_strings_Cut, by kernel_rfl, by kernel_rfl⟩
  · obtain rfl := Option.some.inj h; exact ⟨Tryz.f57, Tryz.func57, .inl k_strconv_Atoi, by kernel_rfl, by kernel_rfl⟩
  · obtain rfl := Option.some.inj h; exact ⟨Tryz.f58, Tryz.func58, .inl k_strings_Contains, by kernel_rfl, by kernel_rfl⟩
  · obtain rfl := Option.some.inj h; exact ⟨Tryz.f61, Tryz.func61, .inl k_internal_stringslite_HasPrefix, by kernel_rfl, by kernel_rfl⟩
  · obtain rfl := Option.some.inj h; exact ⟨Tryz.f62, Tryz.func62, .inl k_internal_strconv_ParseUint, by kernel_rfl, by kernel_rfl⟩
  · obtain rfl := Option.some.inj h; exact ⟨Tryz.f63, Tryz.func63, .inl k_strconv_toError, by kernel_rfl, by kernel_rfl⟩
  · obtain rfl := Option.some.inj h; exact ⟨Tryz.f64, Tryz.func64, .inl k_internal_strconv_ParseInt, by kernel_rfl, by kernel_rfl⟩
  · obtain rfl := Option.some.inj h; exact ⟨Tryz.f65, Tryz.func65, .inl k_internal_strconv_ParseFloat, by kernel_rfl, by kernel_rfl⟩
  · obtain rfl := Option.some.inj h; exact ⟨Tryz.f66, Tryz.func66, .inl k_internal_strconv_small, by kernel_rfl, by kernel_rfl⟩
  · obtain rfl := Option.some.inj h; exact ⟨Tryz.f67, Tryz.func67, .inl k_internal_strconv_numDigits, by kernel_rfl, by kernel_rfl⟩
  · obtain rfl := Option.some.inj h; exact ⟨Tryz.f68, Tryz.func68, .inl k_internal_strconv_formatBase10, by kernel_rfl, by kernel_rfl⟩
  · obtain rfl := Option.some.inj h; exact ⟨Tryz.f69, Tryz.func69, .inl k_internal_strconv_formatBits, by kernel_rfl, by kernel_rfl⟩
  · obtain rfl := Option.some.inj h; exact ⟨Tryz.f70, Tryz.func70, .inl k_internal_strconv_FormatFloat, by kernel_rfl, by kernel_rfl⟩
  · obtain rfl := Option.some.inj h; exact ⟨Tryz.f71, Tryz.func71, .inl k_internal_stringslite_Cut, by kernel_rfl, by kernel_rfl⟩
  · obtain rfl := Option.some.inj h; exact ⟨Tryz.f72, Tryz.func72, .inl k_internal_strconv_Atoi, by kernel_rfl, by kernel_rfl⟩
  · obtain rfl := Option.some.inj h; exact ⟨Tryz.f73, Tryz.func73, .inl k_strings_Index, by kernel_rfl, by kernel_rfl⟩
  · obtain rfl := Option.some.inj h; exact ⟨Tryz.f74, Tryz.func74, .inl k_internal_strconv_lower, by kernel_rfl, by kernel_rfl⟩
  · obtain rfl := Option.some.inj h; exact ⟨Tryz.f75, Tryz.func75, .inl k_internal_strconv_underscoreOK, by kernel_rfl, by kernel_rfl⟩
  · obtain rfl := Option.some.inj h; exact ⟨Tryz.f76, Tryz.func76, .inl k_strconv_syntaxError, by kernel_rfl, by kernel_rfl⟩
  · obtain rfl := Option.some.inj h; exact ⟨Tryz.f77, Tryz.func77, .inl k_strconv_rangeError, by kernel_rfl, by kernel_rfl⟩
  · obtain rfl := Option.some.inj h; exact ⟨Tryz.f78, Tryz.func78, .inl k_strconv_baseError, by kernel_rfl, by kernel_rfl⟩
  · obtain rfl := Option.some.inj h; exact ⟨Tryz.f79, Tryz.func79, .inl k_strconv_bitSizeError, by kernel_rfl, by kernel_rfl⟩
  · obtain rfl := Option.some.inj h; exact ⟨Tryz.f80, Tryz.func80, .inl k_internal_strconv_parseFloatPrefix, by kernel_rfl, by kernel_rfl⟩
  · obtain rfl := Option.some.inj h; exact ⟨Tryz.f81, Tryz.func81, .inl k_internal_strconv_log10Pow2, by kernel_rfl, by kernel_rfl⟩
  · obtain rfl := Option.some.inj h; exact ⟨Tryz.f82, Tryz.func82, .inl k_math_bits_Len64, by kernel_rfl, by kernel_rfl⟩
  · obtain rfl := Option.some.inj h; exact ⟨Tryz.f83, Tryz.func83, .inl k_internal_strconv_bool2_int, by kernel_rfl, by kernel_rfl⟩
  · obtain rfl := Option.some.inj h; exact ⟨Tryz.f84, Tryz.func84, .inl k_internal_strconv_isPowerOfTwo, by kernel_rfl, by kernel_rfl⟩
  · obtain rfl := Option.some.inj h; exact ⟨Tryz.f85, Tryz.func85, .inl k_math_bits_TrailingZeros, by kernel_rfl, by kernel_rfl⟩
  · obtain rfl := Option.some.inj h; exact ⟨Tryz.f86, Tryz.func86, .inl k_internal_strconv_ftoa32, by kernel_rfl, by kernel_rfl⟩
  · obtain rfl := Option.some.inj h; exact ⟨Tryz.f87, Tryz.func87, .inl k_internal_strconv_ftoa64, by kernel_rfl, by kernel_rfl⟩
  · obtain rfl := Option.some.inj h; exact ⟨Tryz.f88, Tryz.func88, .inl k_internal_stringslite_Index, by kernel_rfl, by kernel_rfl⟩
  · obtain rfl := Option.some.inj h; exact ⟨Tryz.f89, Tryz.func89, .inr clone_ok, by kernel_rfl, by kernel_rfl⟩
  · obtain rfl := Option.some.inj h; exact ⟨Tryz.f90, Tryz.func90, .inl k_errors_New, by kernel_rfl, by kernel_rfl⟩
  · obtain rfl := Option.some.inj h; exact ⟨Tryz.f91, Tryz.func91, .inl k_strconv_Itoa, by kernel_rfl, by kernel_rfl⟩
  · obtain rfl := Option.some.inj h; exact ⟨Tryz.f92, Tryz.func92, .inl k_internal_strconv_atof32, by kernel_rfl, by kernel_rfl⟩
  · obtain rfl := Option.some.inj h; exact ⟨Tryz.f93, Tryz.func93, .inl k_internal_strconv_atof64, by kernel_rfl, by kernel_rfl⟩
  · obtain rfl := Option.some.inj h; exact ⟨Tryz.f94, Tryz.func94, .inl k_math_bits_TrailingZeros32, by kernel_rfl, by kernel_rfl⟩
  · obtain rfl := Option.some.inj h; exact ⟨Tryz.f95, Tryz.func95, .inl k_math_bits_TrailingZeros64, by kernel_rfl, by kernel_rfl⟩
  · obtain rfl := Option.some.inj h; exact ⟨Tryz.f98, Tryz.func98, .inl k_internal_strconv_fmtB, by kernel_rfl, by kernel_rfl⟩
  · obtain rfl := Option.some.inj h; exact ⟨Tryz.f99, Tryz.func99, .inl k_internal_strconv_fmtX, by kernel_rfl, by kernel_rfl⟩
  · obtain rfl := Option.some.inj h; exact ⟨Tryz.f100, Tryz.func100, .inl k_internal_strconv_fmtEFG, by kernel_rfl, by kernel_rfl⟩
  · obtain rfl := Option.some.inj h; exact ⟨Tryz.f101, Tryz.func101, .inl k_internal_strconv_shortFloat_float32, by kernel_rfl, by kernel_rfl⟩
  · obtain rfl := Option.some.inj h; exact ⟨Tryz.f102, Tryz.func102, .inl k_internal_strconv_setDigits, by kernel_rfl, by kernel_rfl⟩
  · obtain rfl := Option.some.inj h; exact ⟨Tryz.f103, Tryz.func103, .inl k_internal_strconv_fixedWidthFloat, by kernel_rfl, by kernel_rfl⟩
  · obtain rfl := Option.some.inj h; exact ⟨Tryz.f104, Tryz.func104, .inl k_internal_strconv_decimal_Assign, by kernel_rfl, by kernel_rfl⟩
  · obtain rfl := Option.some.inj h; exact ⟨Tryz.f105, Tryz.func105, .inl k_internal_strconv_decimal_Shift, by kernel_rfl, by kernel_rfl⟩
  · obtain rfl := Option.some.inj h; exact ⟨Tryz.f106, Tryz.func106, .inl k_internal_strconv_decimal_Round, by kernel_rfl, by kernel_rfl⟩
  · obtain rfl := Option.some.inj h; exact ⟨Tryz.f107, Tryz.func107, .inl k_internal_strconv_shortFloat_float64, by kernel_rfl, by kernel_rfl⟩
  · obtain rfl := Option.some.inj h; exact ⟨Tryz.f108, Tryz.func108, .inl k_internal_stringslite_IndexByte, by kernel_rfl, by kernel_rfl⟩
  · obtain rfl := Option.some.inj h; exact ⟨Tryz.f110, Tryz.func110, .inl k_internal_bytealg_Cutover, by kernel_rfl, by kernel_rfl⟩
  · obtain rfl := Option.some.inj h; exact ⟨Tryz.f111, Tryz.func111, .inl k_internal_bytealg_IndexRabinKarp_string, by kernel_rfl, by kernel_rfl⟩
  · obtain rfl := Option.some.inj h; exact ⟨Tryz.f112, Tryz.func112, .inl k_internal_strconv_Itoa, by kernel_rfl, by kernel_rfl⟩
  · obtain rfl := Option.some.inj h; exact ⟨Tryz.f113, Tryz.func113, .inl k_internal_strconv_special, by kernel_rfl, by kernel_rfl⟩
  · obtain rfl := Option.some.inj h; exact ⟨Tryz.f114, Tryz.func114, .inl k_internal_strconv_readFloat, by kernel_rfl, by kernel_rfl⟩
  · obtain rfl := Option.some.inj h; exact ⟨Tryz.f115, Tryz.func115, .inl k_internal_strconv_atofHex, by kernel_rfl, by kernel_rfl⟩
  · obtain rfl := Option.some.inj h; exact ⟨Tryz.f116, Tryz.func116, .inl k_internal_strconv_bool2_uint32, by kernel_rfl, by kernel_rfl⟩
  · obtain rfl := Option.some.inj h; exact ⟨Tryz.f118, Tryz.func118, .inl k_internal_strconv_atof32exact, by kernel_rfl, by kernel_rfl⟩
  · obtain rfl := Option.some.inj h; exact ⟨Tryz.f119, Tryz.func119, .inl k_internal_strconv_parseFloat32, by kernel_rfl, by kernel_rfl⟩
  · obtain rfl := Option.some.inj h; exact ⟨Tryz.f120, Tryz.func120, .inl k_internal_strconv_decimal_set, by kernel_rfl, by kernel_rfl⟩
  · obtain rfl := Option.some.inj h; exact ⟨Tryz.f121, Tryz.func121, .inl k_internal_strconv_decimal_floatBits, by kernel_rfl, by kernel_rfl⟩
  · obtain rfl := Option.some.inj h; exact ⟨Tryz.f122, Tryz.func122, .inl k_internal_strconv_bool2_uint64, by kernel_rfl, by kernel_rfl⟩
  · obtain rfl := Option.some.inj h; exact ⟨Tryz.f124, Tryz.func124, .inl k_internal_strconv_atof64exact, by kernel_rfl, by kernel_rfl⟩
  · obtain rfl := Option.some.inj h; exact ⟨Tryz.f125, Tryz.func125, .inl k_internal_strconv_parseFloat64, by kernel_rfl, by kernel_rfl⟩
  · obtain rfl := Option.some.inj h; exact ⟨Tryz.f126, Tryz.func126, .inl k_internal_strconv_AppendUint, by kernel_rfl, by kernel_rfl⟩
  · obtain rfl := Option.some.inj h; exact ⟨Tryz.f127, Tryz.func127, .inl k_internal_strconv_AppendInt, by kernel_rfl, by kernel_rfl⟩
  · obtain rfl := Option.some.inj h; exact ⟨Tryz.f128, Tryz.func128, .inl k_internal_strconv_skewed, by kernel_rfl, by kernel_rfl⟩
  · obtain rfl := Option.some.inj h; exact ⟨Tryz.f129, Tryz.func129, .inl k_internal_strconv_prescale, by kernel_rfl, by kernel_rfl⟩
  · obtain rfl := Option.some.inj h; exact ⟨Tryz.f130, Tryz.func130, .inl k_internal_strconv_log2Pow10, by kernel_rfl, by kernel_rfl⟩
  · obtain rfl := Option.some.inj h; exact ⟨Tryz.f131, Tryz.func131, .inl k_internal_strconv_uscale, by kernel_rfl, by kernel_rfl⟩
  · obtain rfl := Option.some.inj h; exact ⟨Tryz.f132, Tryz.func132, .inl k_internal_strconv_unrounded_nudge, by kernel_rfl, by kernel_rfl⟩
  · obtain rfl := Option.some.inj h; exact ⟨Tryz.f133, Tryz.func133, .inl k_internal_strconv_unrounded_ceil, by kernel_rfl, by kernel_rfl⟩
  · obtain rfl := Option.some.inj h; exact ⟨Tryz.f134, Tryz.func134, .inl k_internal_strconv_unrounded_floor, by kernel_rfl, by kernel_rfl⟩
  · obtain rfl := Option.some.inj h; exact ⟨Tryz.f135, Tryz.func135, .inl k_internal_strconv_unrounded_round, by kernel_rfl, by kernel_rfl⟩
  · obtain rfl := Option.some.inj h; exact ⟨Tryz.f136, Tryz.func136, .inl k_internal_strconv_unmin, by kernel_rfl, by kernel_rfl⟩
  · obtain rfl := Option.some.inj h; exact ⟨Tryz.f137, Tryz.func137, .inl k_internal_strconv_unrounded_div, by kernel_rfl, by kernel_rfl⟩
  · obtain rfl := Option.some.inj h; exact ⟨Tryz.f138, Tryz.func138, .inl k_internal_strconv_trim, by kernel_rfl, by kernel_rfl⟩
  · obtain rfl := Option.some.inj h; exact ⟨Tryz.f139, Tryz.func139, .inl k_internal_strconv_leftShift, by kernel_rfl, by kernel_rfl⟩
  · obtain rfl := Option.some.inj h; exact ⟨Tryz.f140, Tryz.func140, .inl k_internal_strconv_rightShift, by kernel_rfl, by kernel_rfl⟩
  · obtain rfl := Option.some.inj h; exact ⟨Tryz.f141, Tryz.func141, .inl k_internal_strconv_shouldRoundUp, by kernel_rfl, by kernel_rfl⟩
  · obtain rfl := Option.some.inj h; exact ⟨Tryz.f142, Tryz.func142, .inl k_internal_strconv_decimal_RoundUp, by kernel_rfl, by kernel_rfl⟩
  · obtain rfl := Option.some.inj h; exact ⟨Tryz.f143, Tryz.func143, .inl k_internal_strconv_decimal_RoundDown, by kernel_rfl, by kernel_rfl⟩
  · obtain rfl := Option.some.inj h; exact ⟨Tryz.f145, Tryz.func145, .inl k_internal_bytealg_hashStr_string, by kernel_rfl, by kernel_rfl⟩
  · obtain rfl := Option.some.inj h; exact ⟨Tryz.f146, Tryz.func146, .inl k_internal_strconv_commonPrefixLenIgnoreCase, by kernel_rfl, by kernel_rfl⟩
  · obtain rfl := Option.some.inj h; exact ⟨Tryz.f147, Tryz.func147, .inl k_internal_strconv_inf, by kernel_rfl, by kernel_rfl⟩
  · obtain rfl := Option.some.inj h; exact ⟨Tryz.f148, Tryz.func148, .inl k_internal_strconv_nan, by kernel_rfl, by kernel_rfl⟩
  · obtain rfl := Option.some.inj h; exact ⟨Tryz.f149, Tryz.func149, .inl k_internal_strconv_pack32, by kernel_rfl, by kernel_rfl⟩
  · obtain rfl := Option.some.inj h; exact ⟨Tryz.f150, Tryz.func150, .inl k_internal_strconv_decimal_RoundedInteger, by kernel_rfl, by kernel_rfl⟩
  · obtain rfl := Option.some.inj h; exact ⟨Tryz.f151, Tryz.func151, .inl k_internal_strconv_pack64, by kernel_rfl, by kernel_rfl⟩
  · obtain rfl := Option.some.inj h; exact ⟨Tryz.f152, Tryz.func152, .inl k_math_bits_Mul64, by kernel_rfl, by kernel_rfl⟩
  · obtain rfl := Option.some.inj h; exact ⟨Tryz.f153, Tryz.func153, .inl k_internal_strconv_bool2_internal_strconv_unrounded, by kernel_rfl, by kernel_rfl⟩
  · obtain rfl := Option.some.inj h; exact ⟨Tryz.f154, Tryz.func154, .inl k_internal_strconv_prefixIsLessThan, by kernel_rfl, by kernel_rfl⟩
  · simp at h
theorem mixed_ok : P.follows .mixedOrders = true := by kernel_rfl
end Go.Ax
