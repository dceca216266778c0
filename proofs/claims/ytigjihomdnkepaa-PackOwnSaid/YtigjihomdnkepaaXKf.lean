/- What the program's functions come to (written by a program of mine, mkac.py). -/
import Derived.Test.YtigjihomdnkepaaMG
import Derived.Test.YtigjihomdnkepaaProg
import Derived.KernelRfl
namespace Go.Ax
set_option linter.unusedVariables false
set_option maxRecDepth 100000
open Go.Proofs
noncomputable abbrev P : Program := Try.prog
def F_colonnadelaw02_PackWidths : FuncId := 3
def F_colonnadelaw02_PackAts : FuncId := 4
def F_colonnadelaw02_PackPacks : FuncId := 5
def F_colonnadelaw02_PackUnpacks : FuncId := 6
def F_colonnadelaw02_PackBack : FuncId := 7
def F_colonnadelaw02_PackWidest : FuncId := 8
def F_colonnadelaw02_PackForm : FuncId := 9
def F_colonnadelaw02_PackJoins : FuncId := 10
def F_colonnadelaw02_PackShifts : FuncId := 11
def F_colonnadelaw02_PackOwn : FuncId := 12
def F_colonnaderef02_Bytes : FuncId := 13
def F_pack_Bytes : FuncId := 14
def F_pack_Width : FuncId := 15
def F_colonnaderef02_Width : FuncId := 16
def F_colonnadelaw02_num : FuncId := 17
def F_colonnadelaw02_bytesLent : FuncId := 18
def F_colonnaderef02_At : FuncId := 19
def F_pack_At : FuncId := 20
def F_pack_Word : FuncId := 21
def F_colonnaderef02_Word : FuncId := 22
def F_colonnadelaw02_bytesKept : FuncId := 23
def F_colonnadelaw02_packs_uint64 : FuncId := 24
def F_colonnadelaw02_packs_uint8 : FuncId := 25
def F_colonnadelaw02_packs_uint16 : FuncId := 26
def F_colonnadelaw02_packs_uint32 : FuncId := 27
def F_colonnadelaw02_packs_colonnadelaw02_tall : FuncId := 28
def F_colonnadelaw02_unpacks_uint64 : FuncId := 29
def F_colonnadelaw02_unpacks_uint8 : FuncId := 30
def F_colonnadelaw02_unpacks_uint16 : FuncId := 31
def F_colonnadelaw02_unpacks_uint32 : FuncId := 32
def F_colonnadelaw02_unpacks_colonnadelaw02_tall : FuncId := 33
def F_colonnadelaw02_awake : FuncId := 34
def F_colonnadelaw02_fit : FuncId := 35
def F_pack_Pack_uint64 : FuncId := 36
def F_pack_Unpack_uint64 : FuncId := 37
def F_colonnaderef02_Same : FuncId := 38
def F_pack_Pack_uint32 : FuncId := 39
def F_colonnadelaw02_apart_byte : FuncId := 40
def F_colonnadelaw02_apart_uint64 : FuncId := 41
def F_colonnaderef02_May : FuncId := 42
def F_pack_may : FuncId := 43
def F_math_bits_Len64 : FuncId := 44
def F_colonnaderef02_Fits : FuncId := 45
def F_colonnaderef02_Lane : FuncId := 46
def F_pack_mask : FuncId := 47
def F_colonnaderef02_Bit : FuncId := 48
def F_colonnadelaw02_lent_uint64 : FuncId := 49
def F_colonnadelaw02_wider_uint64 : FuncId := 50
def F_colonnaderef02_Pack : FuncId := 51
def F_colonnadelaw02_kept_uint64 : FuncId := 52
def F_colonnadelaw02_spoil_byte : FuncId := 53
def F_colonnadelaw02_lent_uint8 : FuncId := 54
def F_colonnadelaw02_wider_uint8 : FuncId := 55
def F_pack_Pack_uint8 : FuncId := 56
def F_colonnadelaw02_kept_uint8 : FuncId := 57
def F_colonnadelaw02_lent_uint16 : FuncId := 58
def F_colonnadelaw02_wider_uint16 : FuncId := 59
def F_pack_Pack_uint16 : FuncId := 60
def F_colonnadelaw02_kept_uint16 : FuncId := 61
def F_colonnadelaw02_lent_uint32 : FuncId := 62
def F_colonnadelaw02_wider_uint32 : FuncId := 63
def F_colonnadelaw02_kept_uint32 : FuncId := 64
def F_colonnadelaw02_lent_colonnadelaw02_tall : FuncId := 65
def F_colonnadelaw02_wider_colonnadelaw02_tall : FuncId := 66
def F_pack_Pack_colonnadelaw02_tall : FuncId := 67
def F_colonnadelaw02_kept_colonnadelaw02_tall : FuncId := 68
def F_colonnaderef02_Unpack : FuncId := 69
def F_colonnadelaw02_spoil_uint64 : FuncId := 70
def F_pack_Unpack_uint8 : FuncId := 71
def F_pack_Unpack_uint16 : FuncId := 72
def F_colonnadelaw02_spoil_uint16 : FuncId := 73
def F_pack_Unpack_uint32 : FuncId := 74
def F_colonnadelaw02_spoil_uint32 : FuncId := 75
def F_pack_Unpack_colonnadelaw02_tall : FuncId := 76
def F_colonnadelaw02_spoil_colonnadelaw02_tall : FuncId := 77
def lit_d46a035e : ByteArray := ⟨#[0, 1, 2, 2, 3, 3, 3, 3, 4, 4, 4, 4, 4, 4, 4, 4, 5, 5, 5, 5, 5, 5, 5, 5, 5, 5, 5, 5, 5, 5, 5, 5, 6, 6, 6, 6, 6, 6, 6, 6, 6, 6, 6, 6, 6, 6, 6, 6, 6, 6, 6, 6, 6, 6, 6, 6, 6, 6, 6, 6, 6, 6, 6, 6, 7, 7, 7, 7, 7, 7, 7, 7, 7, 7, 7, 7, 7, 7, 7, 7, 7, 7, 7, 7, 7, 7, 7, 7, 7, 7, 7, 7, 7, 7, 7, 7, 7, 7, 7, 7, 7, 7, 7, 7, 7, 7, 7, 7, 7, 7, 7, 7, 7, 7, 7, 7, 7, 7, 7, 7, 7, 7, 7, 7, 7, 7, 7, 7, 8, 8, 8, 8, 8, 8, 8, 8, 8, 8, 8, 8, 8, 8, 8, 8, 8, 8, 8, 8, 8, 8, 8, 8, 8, 8, 8, 8, 8, 8, 8, 8, 8, 8, 8, 8, 8, 8, 8, 8, 8, 8, 8, 8, 8, 8, 8, 8, 8, 8, 8, 8, 8, 8, 8, 8, 8, 8, 8, 8, 8, 8, 8, 8, 8, 8, 8, 8, 8, 8, 8, 8, 8, 8, 8, 8, 8, 8, 8, 8, 8, 8, 8, 8, 8, 8, 8, 8, 8, 8, 8, 8, 8, 8, 8, 8, 8, 8, 8, 8, 8, 8, 8, 8, 8, 8, 8, 8, 8, 8, 8, 8, 8, 8, 8, 8, 8, 8, 8, 8, 8, 8, 8, 8, 8, 8, 8, 8]⟩
end Go.Ax
