/- What the program's functions come to (written by a program of mine, mkac.py). -/
import Derived.Test.YtigjihomdnkepaaXK0
import Derived.Test.YtigjihomdnkepaaXK1
namespace Go.Ax
set_option linter.unusedVariables false
set_option maxRecDepth 100000
open Go.Proofs
def T : Table := fun f => match f with
  | 3 => some c_colonnadelaw02_PackWidths
  | 4 => some c_colonnadelaw02_PackAts
  | 5 => some c_colonnadelaw02_PackPacks
  | 6 => some c_colonnadelaw02_PackUnpacks
  | 7 => some c_colonnadelaw02_PackBack
  | 8 => some c_colonnadelaw02_PackWidest
  | 9 => some c_colonnadelaw02_PackForm
  | 10 => some c_colonnadelaw02_PackJoins
  | 11 => some c_colonnadelaw02_PackShifts
  | 12 => some c_colonnadelaw02_PackOwn
  | 13 => some c_colonnaderef02_Bytes
  | 14 => some c_pack_Bytes
  | 15 => some c_pack_Width
  | 16 => some c_colonnaderef02_Width
  | 17 => some c_colonnadelaw02_num
  | 18 => some c_colonnadelaw02_bytesLent
  | 19 => some c_colonnaderef02_At
  | 20 => some c_pack_At
  | 21 => some c_pack_Word
  | 22 => some c_colonnaderef02_Word
  | 23 => some c_colonnadelaw02_bytesKept
  | 24 => some c_colonnadelaw02_packs_uint64
  | 25 => some c_colonnadelaw02_packs_uint8
  | 26 => some c_colonnadelaw02_packs_uint16
  | 27 => some c_colonnadelaw02_packs_uint32
  | 28 => some c_colonnadelaw02_packs_colonnadelaw02_tall
  | 29 => some c_colonnadelaw02_unpacks_uint64
  | 30 => some c_colonnadelaw02_unpacks_uint8
  | 31 => some c_colonnadelaw02_unpacks_uint16
  | 32 => some c_colonnadelaw02_unpacks_uint32
  | 33 => some c_colonnadelaw02_unpacks_colonnadelaw02_tall
  | 34 => some c_colonnadelaw02_awake
  | 35 => some c_colonnadelaw02_fit
  | 36 => some c_pack_Pack_uint64
  | 37 => some c_pack_Unpack_uint64
  | 38 => some c_colonnaderef02_Same
  | 39 => some c_pack_Pack_uint32
  | 40 => some c_colonnadelaw02_apart_byte
  | 41 => some c_colonnadelaw02_apart_uint64
  | 42 => some c_colonnaderef02_May
  | 43 => some c_pack_may
  | 44 => some c_math_bits_Len64
  | 45 => some c_colonnaderef02_Fits
  | 46 => some c_colonnaderef02_Lane
  | 47 => some c_pack_mask
  | 48 => some c_colonnaderef02_Bit
  | 49 => some c_colonnadelaw02_lent_uint64
  | 50 => some c_colonnadelaw02_wider_uint64
  | 51 => some c_colonnaderef02_Pack
  | 52 => some c_colonnadelaw02_kept_uint64
  | 53 => some c_colonnadelaw02_spoil_byte
  | 54 => some c_colonnadelaw02_lent_uint8
  | 55 => some c_colonnadelaw02_wider_uint8
  | 56 => some c_pack_Pack_uint8
  | 57 => some c_colonnadelaw02_kept_uint8
  | 58 => some c_colonnadelaw02_lent_uint16
  | 59 => some c_colonnadelaw02_wider_uint16
  | 60 => some c_pack_Pack_uint16
  | 61 => some c_colonnadelaw02_kept_uint16
  | 62 => some c_colonnadelaw02_lent_uint32
  | 63 => some c_colonnadelaw02_wider_uint32
  | 64 => some c_colonnadelaw02_kept_uint32
  | 65 => some c_colonnadelaw02_lent_colonnadelaw02_tall
  | 66 => some c_colonnadelaw02_wider_colonnadelaw02_tall
  | 67 => some c_pack_Pack_colonnadelaw02_tall
  | 68 => some c_colonnadelaw02_kept_colonnadelaw02_tall
  | 69 => some c_colonnaderef02_Unpack
  | 70 => some c_colonnadelaw02_spoil_uint64
  | 71 => some c_pack_Unpack_uint8
  | 72 => some c_pack_Unpack_uint16
  | 73 => some c_colonnadelaw02_spoil_uint16
  | 74 => some c_pack_Unpack_uint32
  | 75 => some c_colonnadelaw02_spoil_uint32
  | 76 => some c_pack_Unpack_colonnadelaw02_tall
  | 77 => some c_colonnadelaw02_spoil_colonnadelaw02_tall
  | _ => none
theorem t_colonnadelaw02_PackWidths : T F_colonnadelaw02_PackWidths = some c_colonnadelaw02_PackWidths := rfl
theorem t_colonnadelaw02_PackAts : T F_colonnadelaw02_PackAts = some c_colonnadelaw02_PackAts := rfl
theorem t_colonnadelaw02_PackPacks : T F_colonnadelaw02_PackPacks = some c_colonnadelaw02_PackPacks := rfl
theorem t_colonnadelaw02_PackUnpacks : T F_colonnadelaw02_PackUnpacks = some c_colonnadelaw02_PackUnpacks := rfl
theorem t_colonnadelaw02_PackBack : T F_colonnadelaw02_PackBack = some c_colonnadelaw02_PackBack := rfl
theorem t_colonnadelaw02_PackWidest : T F_colonnadelaw02_PackWidest = some c_colonnadelaw02_PackWidest := rfl
theorem t_colonnadelaw02_PackForm : T F_colonnadelaw02_PackForm = some c_colonnadelaw02_PackForm := rfl
theorem t_colonnadelaw02_PackJoins : T F_colonnadelaw02_PackJoins = some c_colonnadelaw02_PackJoins := rfl
theorem t_colonnadelaw02_PackShifts : T F_colonnadelaw02_PackShifts = some c_colonnadelaw02_PackShifts := rfl
theorem t_colonnadelaw02_PackOwn : T F_colonnadelaw02_PackOwn = some c_colonnadelaw02_PackOwn := rfl
theorem t_colonnaderef02_Bytes : T F_colonnaderef02_Bytes = some c_colonnaderef02_Bytes := rfl
theorem t_pack_Bytes : T F_pack_Bytes = some c_pack_Bytes := rfl
theorem t_pack_Width : T F_pack_Width = some c_pack_Width := rfl
theorem t_colonnaderef02_Width : T F_colonnaderef02_Width = some c_colonnaderef02_Width := rfl
theorem t_colonnadelaw02_num : T F_colonnadelaw02_num = some c_colonnadelaw02_num := rfl
theorem t_colonnadelaw02_bytesLent : T F_colonnadelaw02_bytesLent = some c_colonnadelaw02_bytesLent := rfl
theorem t_colonnaderef02_At : T F_colonnaderef02_At = some c_colonnaderef02_At := rfl
theorem t_pack_At : T F_pack_At = some c_pack_At := rfl
theorem t_pack_Word : T F_pack_Word = some c_pack_Word := rfl
theorem t_colonnaderef02_Word : T F_colonnaderef02_Word = some c_colonnaderef02_Word := rfl
theorem t_colonnadelaw02_bytesKept : T F_colonnadelaw02_bytesKept = some c_colonnadelaw02_bytesKept := rfl
theorem t_colonnadelaw02_packs_uint64 : T F_colonnadelaw02_packs_uint64 = some c_colonnadelaw02_packs_uint64 := rfl
theorem t_colonnadelaw02_packs_uint8 : T F_colonnadelaw02_packs_uint8 = some c_colonnadelaw02_packs_uint8 := rfl
theorem t_colonnadelaw02_packs_uint16 : T F_colonnadelaw02_packs_uint16 = some c_colonnadelaw02_packs_uint16 := rfl
theorem t_colonnadelaw02_packs_uint32 : T F_colonnadelaw02_packs_uint32 = some c_colonnadelaw02_packs_uint32 := rfl
theorem t_colonnadelaw02_packs_colonnadelaw02_tall : T F_colonnadelaw02_packs_colonnadelaw02_tall = some c_colonnadelaw02_packs_colonnadelaw02_tall := rfl
theorem t_colonnadelaw02_unpacks_uint64 : T F_colonnadelaw02_unpacks_uint64 = some c_colonnadelaw02_unpacks_uint64 := rfl
theorem t_colonnadelaw02_unpacks_uint8 : T F_colonnadelaw02_unpacks_uint8 = some c_colonnadelaw02_unpacks_uint8 := rfl
theorem t_colonnadelaw02_unpacks_uint16 : T F_colonnadelaw02_unpacks_uint16 = some c_colonnadelaw02_unpacks_uint16 := rfl
theorem t_colonnadelaw02_unpacks_uint32 : T F_colonnadelaw02_unpacks_uint32 = some c_colonnadelaw02_unpacks_uint32 := rfl
theorem t_colonnadelaw02_unpacks_colonnadelaw02_tall : T F_colonnadelaw02_unpacks_colonnadelaw02_tall = some c_colonnadelaw02_unpacks_colonnadelaw02_tall := rfl
theorem t_colonnadelaw02_awake : T F_colonnadelaw02_awake = some c_colonnadelaw02_awake := rfl
theorem t_colonnadelaw02_fit : T F_colonnadelaw02_fit = some c_colonnadelaw02_fit := rfl
theorem t_pack_Pack_uint64 : T F_pack_Pack_uint64 = some c_pack_Pack_uint64 := rfl
theorem t_pack_Unpack_uint64 : T F_pack_Unpack_uint64 = some c_pack_Unpack_uint64 := rfl
theorem t_colonnaderef02_Same : T F_colonnaderef02_Same = some c_colonnaderef02_Same := rfl
theorem t_pack_Pack_uint32 : T F_pack_Pack_uint32 = some c_pack_Pack_uint32 := rfl
theorem t_colonnadelaw02_apart_byte : T F_colonnadelaw02_apart_byte = some c_colonnadelaw02_apart_byte := rfl
theorem t_colonnadelaw02_apart_uint64 : T F_colonnadelaw02_apart_uint64 = some c_colonnadelaw02_apart_uint64 := rfl
theorem t_colonnaderef02_May : T F_colonnaderef02_May = some c_colonnaderef02_May := rfl
theorem t_pack_may : T F_pack_may = some c_pack_may := rfl
theorem t_math_bits_Len64 : T F_math_bits_Len64 = some c_math_bits_Len64 := rfl
theorem t_colonnaderef02_Fits : T F_colonnaderef02_Fits = some c_colonnaderef02_Fits := rfl
theorem t_colonnaderef02_Lane : T F_colonnaderef02_Lane = some c_colonnaderef02_Lane := rfl
theorem t_pack_mask : T F_pack_mask = some c_pack_mask := rfl
theorem t_colonnaderef02_Bit : T F_colonnaderef02_Bit = some c_colonnaderef02_Bit := rfl
theorem t_colonnadelaw02_lent_uint64 : T F_colonnadelaw02_lent_uint64 = some c_colonnadelaw02_lent_uint64 := rfl
theorem t_colonnadelaw02_wider_uint64 : T F_colonnadelaw02_wider_uint64 = some c_colonnadelaw02_wider_uint64 := rfl
theorem t_colonnaderef02_Pack : T F_colonnaderef02_Pack = some c_colonnaderef02_Pack := rfl
theorem t_colonnadelaw02_kept_uint64 : T F_colonnadelaw02_kept_uint64 = some c_colonnadelaw02_kept_uint64 := rfl
theorem t_colonnadelaw02_spoil_byte : T F_colonnadelaw02_spoil_byte = some c_colonnadelaw02_spoil_byte := rfl
theorem t_colonnadelaw02_lent_uint8 : T F_colonnadelaw02_lent_uint8 = some c_colonnadelaw02_lent_uint8 := rfl
theorem t_colonnadelaw02_wider_uint8 : T F_colonnadelaw02_wider_uint8 = some c_colonnadelaw02_wider_uint8 := rfl
theorem t_pack_Pack_uint8 : T F_pack_Pack_uint8 = some c_pack_Pack_uint8 := rfl
theorem t_colonnadelaw02_kept_uint8 : T F_colonnadelaw02_kept_uint8 = some c_colonnadelaw02_kept_uint8 := rfl
theorem t_colonnadelaw02_lent_uint16 : T F_colonnadelaw02_lent_uint16 = some c_colonnadelaw02_lent_uint16 := rfl
theorem t_colonnadelaw02_wider_uint16 : T F_colonnadelaw02_wider_uint16 = some c_colonnadelaw02_wider_uint16 := rfl
theorem t_pack_Pack_uint16 : T F_pack_Pack_uint16 = some c_pack_Pack_uint16 := rfl
theorem t_colonnadelaw02_kept_uint16 : T F_colonnadelaw02_kept_uint16 = some c_colonnadelaw02_kept_uint16 := rfl
theorem t_colonnadelaw02_lent_uint32 : T F_colonnadelaw02_lent_uint32 = some c_colonnadelaw02_lent_uint32 := rfl
theorem t_colonnadelaw02_wider_uint32 : T F_colonnadelaw02_wider_uint32 = some c_colonnadelaw02_wider_uint32 := rfl
theorem t_colonnadelaw02_kept_uint32 : T F_colonnadelaw02_kept_uint32 = some c_colonnadelaw02_kept_uint32 := rfl
theorem t_colonnadelaw02_lent_colonnadelaw02_tall : T F_colonnadelaw02_lent_colonnadelaw02_tall = some c_colonnadelaw02_lent_colonnadelaw02_tall := rfl
theorem t_colonnadelaw02_wider_colonnadelaw02_tall : T F_colonnadelaw02_wider_colonnadelaw02_tall = some c_colonnadelaw02_wider_colonnadelaw02_tall := rfl
theorem t_pack_Pack_colonnadelaw02_tall : T F_pack_Pack_colonnadelaw02_tall = some c_pack_Pack_colonnadelaw02_tall := rfl
theorem t_colonnadelaw02_kept_colonnadelaw02_tall : T F_colonnadelaw02_kept_colonnadelaw02_tall = some c_colonnadelaw02_kept_colonnadelaw02_tall := rfl
theorem t_colonnaderef02_Unpack : T F_colonnaderef02_Unpack = some c_colonnaderef02_Unpack := rfl
theorem t_colonnadelaw02_spoil_uint64 : T F_colonnadelaw02_spoil_uint64 = some c_colonnadelaw02_spoil_uint64 := rfl
theorem t_pack_Unpack_uint8 : T F_pack_Unpack_uint8 = some c_pack_Unpack_uint8 := rfl
theorem t_pack_Unpack_uint16 : T F_pack_Unpack_uint16 = some c_pack_Unpack_uint16 := rfl
theorem t_colonnadelaw02_spoil_uint16 : T F_colonnadelaw02_spoil_uint16 = some c_colonnadelaw02_spoil_uint16 := rfl
theorem t_pack_Unpack_uint32 : T F_pack_Unpack_uint32 = some c_pack_Unpack_uint32 := rfl
theorem t_colonnadelaw02_spoil_uint32 : T F_colonnadelaw02_spoil_uint32 = some c_colonnadelaw02_spoil_uint32 := rfl
theorem t_pack_Unpack_colonnadelaw02_tall : T F_pack_Unpack_colonnadelaw02_tall = some c_pack_Unpack_colonnadelaw02_tall := rfl
theorem t_colonnadelaw02_spoil_colonnadelaw02_tall : T F_colonnadelaw02_spoil_colonnadelaw02_tall = some c_colonnadelaw02_spoil_colonnadelaw02_tall := rfl
theorem T_ok : TableOk P T := by
  intro f a h
  unfold T at h
  split at h
  · obtain rfl := Option.some.inj h; exact ⟨Try.f3, Try.func3, k_colonnadelaw02_PackWidths, by kernel_rfl, by kernel_rfl⟩
  · obtain rfl := Option.some.inj h; exact ⟨Try.f4, Try.func4, k_colonnadelaw02_PackAts, by kernel_rfl, by kernel_rfl⟩
  · obtain rfl := Option.some.inj h; exact ⟨Try.f5, Try.func5, k_colonnadelaw02_PackPacks, by kernel_rfl, by kernel_rfl⟩
  · obtain rfl := Option.some.inj h; exact ⟨Try.f6, Try.func6, k_colonnadelaw02_PackUnpacks, by kernel_rfl, by kernel_rfl⟩
  · obtain rfl := Option.some.inj h; exact ⟨Try.f7, Try.func7, k_colonnadelaw02_PackBack, by kernel_rfl, by kernel_rfl⟩
  · obtain rfl := Option.some.inj h; exact ⟨Try.f8, Try.func8, k_colonnadelaw02_PackWidest, by kernel_rfl, by kernel_rfl⟩
  · obtain rfl := Option.some.inj h; exact ⟨Try.f9, Try.func9, k_colonnadelaw02_PackForm, by kernel_rfl, by kernel_rfl⟩
  · obtain rfl := Option.some.inj h; exact ⟨Try.f10, Try.func10, k_colonnadelaw02_PackJoins, by kernel_rfl, by kernel_rfl⟩
  · obtain rfl := Option.some.inj h; exact ⟨Try.f11, Try.func11, k_colonnadelaw02_PackShifts, by kernel_rfl, by kernel_rfl⟩
  · obtain rfl := Option.some.inj h; exact ⟨Try.f12, Try.func12, k_colonnadelaw02_PackOwn, by kernel_rfl, by kernel_rfl⟩
  · obtain rfl := Option.some.inj h; exact ⟨Try.f13, Try.func13, k_colonnaderef02_Bytes, by kernel_rfl, by kernel_rfl⟩
  · obtain rfl := Option.some.inj h; exact ⟨Try.f14, Try.func14, k_pack_Bytes, by kernel_rfl, by kernel_rfl⟩
  · obtain rfl := Option.some.inj h; exact ⟨Try.f15, Try.func15, k_pack_Width, by kernel_rfl, by kernel_rfl⟩
  · obtain rfl := Option.some.inj h; exact ⟨Try.f16, Try.func16, k_colonnaderef02_Width, by kernel_rfl, by kernel_rfl⟩
  · obtain rfl := Option.some.inj h; exact ⟨Try.f17, Try.func17, k_colonnadelaw02_num, by kernel_rfl, by kernel_rfl⟩
  · obtain rfl := Option.some.inj h; exact ⟨Try.f18, Try.func18, k_colonnadelaw02_bytesLent, by kernel_rfl, by kernel_rfl⟩
  · obtain rfl := Option.some.inj h; exact ⟨Try.f19, Try.func19, k_colonnaderef02_At, by kernel_rfl, by kernel_rfl⟩
  · obtain rfl := Option.some.inj h; exact ⟨Try.f20, Try.func20, k_pack_At, by kernel_rfl, by kernel_rfl⟩
  · obtain rfl := Option.some.inj h; exact ⟨Try.f21, Try.func21, k_pack_Word, by kernel_rfl, by kernel_rfl⟩
  · obtain rfl := Option.some.inj h; exact ⟨Try.f22, Try.func22, k_colonnaderef02_Word, by kernel_rfl, by kernel_rfl⟩
  · obtain rfl := Option.some.inj h; exact ⟨Try.f23, Try.func23, k_colonnadelaw02_bytesKept, by kernel_rfl, by kernel_rfl⟩
  · obtain rfl := Option.some.inj h; exact ⟨Try.f24, Try.func24, k_colonnadelaw02_packs_uint64, by kernel_rfl, by kernel_rfl⟩
  · obtain rfl := Option.some.inj h; exact ⟨Try.f25, Try.func25, k_colonnadelaw02_packs_uint8, by kernel_rfl, by kernel_rfl⟩
  · obtain rfl := Option.some.inj h; exact ⟨Try.f26, Try.func26, k_colonnadelaw02_packs_uint16, by kernel_rfl, by kernel_rfl⟩
  · obtain rfl := Option.some.inj h; exact ⟨Try.f27, Try.func27, k_colonnadelaw02_packs_uint32, by kernel_rfl, by kernel_rfl⟩
  · obtain rfl := Option.some.inj h; exact ⟨Try.f28, Try.func28, k_colonnadelaw02_packs_colonnadelaw02_tall, by kernel_rfl, by kernel_rfl⟩
  · obtain rfl := Option.some.inj h; exact ⟨Try.f29, Try.func29, k_colonnadelaw02_unpacks_uint64, by kernel_rfl, by kernel_rfl⟩
  · obtain rfl := Option.some.inj h; exact ⟨Try.f30, Try.func30, k_colonnadelaw02_unpacks_uint8, by kernel_rfl, by kernel_rfl⟩
  · obtain rfl := Option.some.inj h; exact ⟨Try.f31, Try.func31, k_colonnadelaw02_unpacks_uint16, by kernel_rfl, by kernel_rfl⟩
  · obtain rfl := Option.some.inj h; exact ⟨Try.f32, Try.func32, k_colonnadelaw02_unpacks_uint32, by kernel_rfl, by kernel_rfl⟩
  · obtain rfl := Option.some.inj h; exact ⟨Try.f33, Try.func33, k_colonnadelaw02_unpacks_colonnadelaw02_tall, by kernel_rfl, by kernel_rfl⟩
  · obtain rfl := Option.some.inj h; exact ⟨Try.f34, Try.func34, k_colonnadelaw02_awake, by kernel_rfl, by kernel_rfl⟩
  · obtain rfl := Option.some.inj h; exact ⟨Try.f35, Try.func35, k_colonnadelaw02_fit, by kernel_rfl, by kernel_rfl⟩
  · obtain rfl := Option.some.inj h; exact ⟨Try.f36, Try.func36, k_pack_Pack_uint64, by kernel_rfl, by kernel_rfl⟩
  · obtain rfl := Option.some.inj h; exact ⟨Try.f37, Try.func37, k_pack_Unpack_uint64, by kernel_rfl, by kernel_rfl⟩
  · obtain rfl := Option.some.inj h; exact ⟨Try.f38, Try.func38, k_colonnaderef02_Same, by kernel_rfl, by kernel_rfl⟩
  · obtain rfl := Option.some.inj h; exact ⟨Try.f39, Try.func39, k_pack_Pack_uint32, by kernel_rfl, by kernel_rfl⟩
  · obtain rfl := Option.some.inj h; exact ⟨Try.f40, Try.func40, k_colonnadelaw02_apart_byte, by kernel_rfl, by kernel_rfl⟩
  · obtain rfl := Option.some.inj h; exact ⟨Try.f41, Try.func41, k_colonnadelaw02_apart_uint64, by kernel_rfl, by kernel_rfl⟩
  · obtain rfl := Option.some.inj h; exact ⟨Try.f42, Try.func42, k_colonnaderef02_May, by kernel_rfl, by kernel_rfl⟩
  · obtain rfl := Option.some.inj h; exact ⟨Try.f43, Try.func43, k_pack_may, by kernel_rfl, by kernel_rfl⟩
  · obtain rfl := Option.some.inj h; exact ⟨Try.f44, Try.func44, k_math_bits_Len64, by kernel_rfl, by kernel_rfl⟩
  · obtain rfl := Option.some.inj h; exact ⟨Try.f45, Try.func45, k_colonnaderef02_Fits, by kernel_rfl, by kernel_rfl⟩
  · obtain rfl := Option.some.inj h; exact ⟨Try.f46, Try.func46, k_colonnaderef02_Lane, by kernel_rfl, by kernel_rfl⟩
  · obtain rfl := Option.some.inj h; exact ⟨Try.f47, Try.func47, k_pack_mask, by kernel_rfl, by kernel_rfl⟩
  · obtain rfl := Option.some.inj h; exact ⟨Try.f48, Try.func48, k_colonnaderef02_Bit, by kernel_rfl, by kernel_rfl⟩
  · obtain rfl := Option.some.inj h; exact ⟨Try.f49, Try.func49, k_colonnadelaw02_lent_uint64, by kernel_rfl, by kernel_rfl⟩
  · obtain rfl := Option.some.inj h; exact ⟨Try.f50, Try.func50, k_colonnadelaw02_wider_uint64, by kernel_rfl, by kernel_rfl⟩
  · obtain rfl := Option.some.inj h; exact ⟨Try.f51, Try.func51, k_colonnaderef02_Pack, by kernel_rfl, by kernel_rfl⟩
  · obtain rfl := Option.some.inj h; exact ⟨Try.f52, Try.func52, k_colonnadelaw02_kept_uint64, by kernel_rfl, by kernel_rfl⟩
  · obtain rfl := Option.some.inj h; exact ⟨Try.f53, Try.func53, k_colonnadelaw02_spoil_byte, by kernel_rfl, by kernel_rfl⟩
  · obtain rfl := Option.some.inj h; exact ⟨Try.f54, Try.func54, k_colonnadelaw02_lent_uint8, by kernel_rfl, by kernel_rfl⟩
  · obtain rfl := Option.some.inj h; exact ⟨Try.f55, Try.func55, k_colonnadelaw02_wider_uint8, by kernel_rfl, by kernel_rfl⟩
  · obtain rfl := Option.some.inj h; exact ⟨Try.f56, Try.func56, k_pack_Pack_uint8, by kernel_rfl, by kernel_rfl⟩
  · obtain rfl := Option.some.inj h; exact ⟨Try.f57, Try.func57, k_colonnadelaw02_kept_uint8, by kernel_rfl, by kernel_rfl⟩
  · obtain rfl := Option.some.inj h; exact ⟨Try.f58, Try.func58, k_colonnadelaw02_lent_uint16, by kernel_rfl, by kernel_rfl⟩
  · obtain rfl := Option.some.inj h; exact ⟨Try.f59, Try.func59, k_colonnadelaw02_wider_uint16, by kernel_rfl, by kernel_rfl⟩
  · obtain rfl := Option.some.inj h; exact ⟨Try.f60, Try.func60, k_pack_Pack_uint16, by kernel_rfl, by kernel_rfl⟩
  · obtain rfl := Option.some.inj h; exact ⟨Try.f61, Try.func61, k_colonnadelaw02_kept_uint16, by kernel_rfl, by kernel_rfl⟩
  · obtain rfl := Option.some.inj h; exact ⟨Try.f62, Try.func62, k_colonnadelaw02_lent_uint32, by kernel_rfl, by kernel_rfl⟩
  · obtain rfl := Option.some.inj h; exact ⟨Try.f63, Try.func63, k_colonnadelaw02_wider_uint32, by kernel_rfl, by kernel_rfl⟩
  · obtain rfl := Option.some.inj h; exact ⟨Try.f64, Try.func64, k_colonnadelaw02_kept_uint32, by kernel_rfl, by kernel_rfl⟩
  · obtain rfl := Option.some.inj h; exact ⟨Try.f65, Try.func65, k_colonnadelaw02_lent_colonnadelaw02_tall, by kernel_rfl, by kernel_rfl⟩
  · obtain rfl := Option.some.inj h; exact ⟨Try.f66, Try.func66, k_colonnadelaw02_wider_colonnadelaw02_tall, by kernel_rfl, by kernel_rfl⟩
  · obtain rfl := Option.some.inj h; exact ⟨Try.f67, Try.func67, k_pack_Pack_colonnadelaw02_tall, by kernel_rfl, by kernel_rfl⟩
  · obtain rfl := Option.some.inj h; exact ⟨Try.f68, Try.func68, k_colonnadelaw02_kept_colonnadelaw02_tall, by kernel_rfl, by kernel_rfl⟩
  · obtain rfl := Option.some.inj h; exact ⟨Try.f69, Try.func69, k_colonnaderef02_Unpack, by kernel_rfl, by kernel_rfl⟩
  · obtain rfl := Option.some.inj h; exact ⟨Try.f70, Try.func70, k_colonnadelaw02_spoil_uint64, by kernel_rfl, by kernel_rfl⟩
  · obtain rfl := Option.some.inj h; exact ⟨Try.f71, Try.func71, k_pack_Unpack_uint8, by kernel_rfl, by kernel_rfl⟩
  · obtain rfl := Option.some.inj h; exact ⟨Try.f72, Try.func72, k_pack_Unpack_uint16, by kernel_rfl, by kernel_rfl⟩
  · obtain rfl := Option.some.inj h; exact ⟨Try.f73, Try.func73, k_colonnadelaw02_spoil_uint16, by kernel_rfl, by kernel_rfl⟩
  · obtain rfl := Option.some.inj h; exact ⟨Try.f74, Try.func74, k_pack_Unpack_uint32, by kernel_rfl, by kernel_rfl⟩
  · obtain rfl := Option.some.inj h; exact ⟨Try.f75, Try.func75, k_colonnadelaw02_spoil_uint32, by kernel_rfl, by kernel_rfl⟩
  · obtain rfl := Option.some.inj h; exact ⟨Try.f76, Try.func76, k_pack_Unpack_colonnadelaw02_tall, by kernel_rfl, by kernel_rfl⟩
  · obtain rfl := Option.some.inj h; exact ⟨Try.f77, Try.func77, k_colonnadelaw02_spoil_colonnadelaw02_tall, by kernel_rfl, by kernel_rfl⟩
  · simp at h
theorem mixed_ok : P.follows .mixedOrders = true := by kernel_rfl
end Go.Ax
