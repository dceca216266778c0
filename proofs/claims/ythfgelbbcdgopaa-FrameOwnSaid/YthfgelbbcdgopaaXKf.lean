/- What the program's functions come to (written by a program of mine, mkac.py). -/
import Derived.Test.YthfgelbbcdgopaaMG
import Derived.Test.YthfgelbbcdgopaaProg
import Derived.KernelRfl
namespace Go.Ax
set_option linter.unusedVariables false
set_option maxRecDepth 100000
open Go.Proofs
noncomputable abbrev P : Program := Try.prog
def F_colonnadelaw11_FrameLifts : FuncId := 3
def F_colonnadelaw11_FrameValues : FuncId := 4
def F_colonnadelaw11_FrameOpens : FuncId := 5
def F_colonnadelaw11_FramePuts : FuncId := 6
def F_colonnadelaw11_FrameOrder : FuncId := 7
def F_colonnadelaw11_FrameForm : FuncId := 8
def F_colonnadelaw11_FrameOwn : FuncId := 9
def F_colonnadelaw11_FrameBack : FuncId := 10
def F_colonnaderef11_Drop : FuncId := 11
def F_frame_Drop : FuncId := 12
def F_frame_Lift : FuncId := 13
def F_colonnaderef11_Lift : FuncId := 14
def F_colonnadelaw11_bytesLent : FuncId := 15
def F_colonnaderef11_Values : FuncId := 16
def F_frame_Values : FuncId := 17
def F_colonnadelaw11_num : FuncId := 18
def F_colonnaderef08_SameInts : FuncId := 19
def F_colonnadelaw11_bytesKept : FuncId := 20
def F_colonnaderef11_OpenFrame : FuncId := 21
def F_colonnaderef11_OpenPacked : FuncId := 22
def F_frame_OpenFrame : FuncId := 23
def F_frame_OpenPacked : FuncId := 24
def F_colonnaderef11_PackedWidth : FuncId := 25
def F_colonnaderef11_PutFrame : FuncId := 26
def F_colonnaderef11_PutPacked : FuncId := 27
def F_frame_PackedWidth : FuncId := 28
def F_frame_PutFrame : FuncId := 29
def F_frame_PutPacked : FuncId := 30
def F_frame_FrameWidth : FuncId := 31
def F_colonnaderef11_FrameWidth : FuncId := 32
def F_colonnadelaw11_awake : FuncId := 33
def F_colonnadelaw11_few : FuncId := 34
def F_colonnadelaw11_apart : FuncId := 35
def F_colonnadelaw11_apartInts : FuncId := 36
def F_pack_Bytes : FuncId := 37
def F_colonnaderef11_above : FuncId := 38
def F_colonnaderef02_Unpack : FuncId := 39
def F_pack_Unpack_uint64 : FuncId := 40
def F_frame_over : FuncId := 41
def F_colonnaderef02_Bytes : FuncId := 42
def F_colonnaderef08_Low : FuncId := 43
def F_pack_Word : FuncId := 44
def F_frame_own : FuncId := 45
def F_colonnaderef11_widest : FuncId := 46
def F_colonnaderef02_Pack : FuncId := 47
def F_colonnaderef11_codes : FuncId := 48
def F_colonnaderef08_PutInts : FuncId := 49
def F_colonnaderef11_least : FuncId := 50
def F_frame_base : FuncId := 51
def F_pack_Width : FuncId := 52
def F_slices_Max_int64_int64 : FuncId := 53
def F_pack_Pack_uint64 : FuncId := 54
def F_frame_above : FuncId := 55
def F_slices_Min_int64_int64 : FuncId := 56
def F_pack_may : FuncId := 57
def F_colonnaderef02_May : FuncId := 58
def F_colonnaderef02_Bit : FuncId := 59
def F_colonnaderef02_Lane : FuncId := 60
def F_colonnaderef02_Fits : FuncId := 61
def F_pack_mask : FuncId := 62
def F_colonnaderef08_Fixed : FuncId := 63
def F_math_bits_Len64 : FuncId := 64
def lit_d46a035e : ByteArray := ⟨#[0, 1, 2, 2, 3, 3, 3, 3, 4, 4, 4, 4, 4, 4, 4, 4, 5, 5, 5, 5, 5, 5, 5, 5, 5, 5, 5, 5, 5, 5, 5, 5, 6, 6, 6, 6, 6, 6, 6, 6, 6, 6, 6, 6, 6, 6, 6, 6, 6, 6, 6, 6, 6, 6, 6, 6, 6, 6, 6, 6, 6, 6, 6, 6, 7, 7, 7, 7, 7, 7, 7, 7, 7, 7, 7, 7, 7, 7, 7, 7, 7, 7, 7, 7, 7, 7, 7, 7, 7, 7, 7, 7, 7, 7, 7, 7, 7, 7, 7, 7, 7, 7, 7, 7, 7, 7, 7, 7, 7, 7, 7, 7, 7, 7, 7, 7, 7, 7, 7, 7, 7, 7, 7, 7, 7, 7, 7, 7, 8, 8, 8, 8, 8, 8, 8, 8, 8, 8, 8, 8, 8, 8, 8, 8, 8, 8, 8, 8, 8, 8, 8, 8, 8, 8, 8, 8, 8, 8, 8, 8, 8, 8, 8, 8, 8, 8, 8, 8, 8, 8, 8, 8, 8, 8, 8, 8, 8, 8, 8, 8, 8, 8, 8, 8, 8, 8, 8, 8, 8, 8, 8, 8, 8, 8, 8, 8, 8, 8, 8, 8, 8, 8, 8, 8, 8, 8, 8, 8, 8, 8, 8, 8, 8, 8, 8, 8, 8, 8, 8, 8, 8, 8, 8, 8, 8, 8, 8, 8, 8, 8, 8, 8, 8, 8, 8, 8, 8, 8, 8, 8, 8, 8, 8, 8, 8, 8, 8, 8, 8, 8, 8, 8, 8, 8, 8, 8]⟩
end Go.Ax
