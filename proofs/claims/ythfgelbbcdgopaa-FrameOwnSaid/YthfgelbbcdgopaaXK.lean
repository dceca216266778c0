/- What the program's functions come to (written by a program of mine, mkac.py). -/
import Derived.Test.YthfgelbbcdgopaaXK0
import Derived.Test.YthfgelbbcdgopaaXK1
namespace Go.Ax
set_option linter.unusedVariables false
set_option maxRecDepth 100000
open Go.Proofs
def T : Table := fun f => match f with
  | 3 => some c_colonnadelaw11_FrameLifts
  | 4 => some c_colonnadelaw11_FrameValues
  | 5 => some c_colonnadelaw11_FrameOpens
  | 6 => some c_colonnadelaw11_FramePuts
  | 7 => some c_colonnadelaw11_FrameOrder
  | 8 => some c_colonnadelaw11_FrameForm
  | 9 => some c_colonnadelaw11_FrameOwn
  | 10 => some c_colonnadelaw11_FrameBack
  | 11 => some c_colonnaderef11_Drop
  | 12 => some c_frame_Drop
  | 13 => some c_frame_Lift
  | 14 => some c_colonnaderef11_Lift
  | 15 => some c_colonnadelaw11_bytesLent
  | 16 => some c_colonnaderef11_Values
  | 17 => some c_frame_Values
  | 18 => some c_colonnadelaw11_num
  | 19 => some c_colonnaderef08_SameInts
  | 20 => some c_colonnadelaw11_bytesKept
  | 21 => some c_colonnaderef11_OpenFrame
  | 22 => some c_colonnaderef11_OpenPacked
  | 23 => some c_frame_OpenFrame
  | 24 => some c_frame_OpenPacked
  | 25 => some c_colonnaderef11_PackedWidth
  | 26 => some c_colonnaderef11_PutFrame
  | 27 => some c_colonnaderef11_PutPacked
  | 28 => some c_frame_PackedWidth
  | 29 => some c_frame_PutFrame
  | 30 => some c_frame_PutPacked
  | 31 => some c_frame_FrameWidth
  | 32 => some c_colonnaderef11_FrameWidth
  | 33 => some c_colonnadelaw11_awake
  | 34 => some c_colonnadelaw11_few
  | 35 => some c_colonnadelaw11_apart
  | 36 => some c_colonnadelaw11_apartInts
  | 37 => some c_pack_Bytes
  | 38 => some c_colonnaderef11_above
  | 39 => some c_colonnaderef02_Unpack
  | 40 => some c_pack_Unpack_uint64
  | 41 => some c_frame_over
  | 42 => some c_colonnaderef02_Bytes
  | 43 => some c_colonnaderef08_Low
  | 44 => some c_pack_Word
  | 45 => some c_frame_own
  | 46 => some c_colonnaderef11_widest
  | 47 => some c_colonnaderef02_Pack
  | 48 => some c_colonnaderef11_codes
  | 49 => some c_colonnaderef08_PutInts
  | 50 => some c_colonnaderef11_least
  | 51 => some c_frame_base
  | 52 => some c_pack_Width
  | 53 => some c_slices_Max_int64_int64
  | 54 => some c_pack_Pack_uint64
  | 55 => some c_frame_above
  | 56 => some c_slices_Min_int64_int64
  | 57 => some c_pack_may
  | 58 => some c_colonnaderef02_May
  | 59 => some c_colonnaderef02_Bit
  | 60 => some c_colonnaderef02_Lane
  | 61 => some c_colonnaderef02_Fits
  | 62 => some c_pack_mask
  | 63 => some c_colonnaderef08_Fixed
  | 64 => some c_math_bits_Len64
  | _ => none
theorem t_colonnadelaw11_FrameLifts : T F_colonnadelaw11_FrameLifts = some c_colonnadelaw11_FrameLifts := rfl
theorem t_colonnadelaw11_FrameValues : T F_colonnadelaw11_FrameValues = some c_colonnadelaw11_FrameValues := rfl
theorem t_colonnadelaw11_FrameOpens : T F_colonnadelaw11_FrameOpens = some c_colonnadelaw11_FrameOpens := rfl
theorem t_colonnadelaw11_FramePuts : T F_colonnadelaw11_FramePuts = some c_colonnadelaw11_FramePuts := rfl
theorem t_colonnadelaw11_FrameOrder : T F_colonnadelaw11_FrameOrder = some c_colonnadelaw11_FrameOrder := rfl
theorem t_colonnadelaw11_FrameForm : T F_colonnadelaw11_FrameForm = some c_colonnadelaw11_FrameForm := rfl
theorem t_colonnadelaw11_FrameOwn : T F_colonnadelaw11_FrameOwn = some c_colonnadelaw11_FrameOwn := rfl
theorem t_colonnadelaw11_FrameBack : T F_colonnadelaw11_FrameBack = some c_colonnadelaw11_FrameBack := rfl
theorem t_colonnaderef11_Drop : T F_colonnaderef11_Drop = some c_colonnaderef11_Drop := rfl
theorem t_frame_Drop : T F_frame_Drop = some c_frame_Drop := rfl
theorem t_frame_Lift : T F_frame_Lift = some c_frame_Lift := rfl
theorem t_colonnaderef11_Lift : T F_colonnaderef11_Lift = some c_colonnaderef11_Lift := rfl
theorem t_colonnadelaw11_bytesLent : T F_colonnadelaw11_bytesLent = some c_colonnadelaw11_bytesLent := rfl
theorem t_colonnaderef11_Values : T F_colonnaderef11_Values = some c_colonnaderef11_Values := rfl
theorem t_frame_Values : T F_frame_Values = some c_frame_Values := rfl
theorem t_colonnadelaw11_num : T F_colonnadelaw11_num = some c_colonnadelaw11_num := rfl
theorem t_colonnaderef08_SameInts : T F_colonnaderef08_SameInts = some c_colonnaderef08_SameInts := rfl
theorem t_colonnadelaw11_bytesKept : T F_colonnadelaw11_bytesKept = some c_colonnadelaw11_bytesKept := rfl
theorem t_colonnaderef11_OpenFrame : T F_colonnaderef11_OpenFrame = some c_colonnaderef11_OpenFrame := rfl
theorem t_colonnaderef11_OpenPacked : T F_colonnaderef11_OpenPacked = some c_colonnaderef11_OpenPacked := rfl
theorem t_frame_OpenFrame : T F_frame_OpenFrame = some c_frame_OpenFrame := rfl
theorem t_frame_OpenPacked : T F_frame_OpenPacked = some c_frame_OpenPacked := rfl
theorem t_colonnaderef11_PackedWidth : T F_colonnaderef11_PackedWidth = some c_colonnaderef11_PackedWidth := rfl
theorem t_colonnaderef11_PutFrame : T F_colonnaderef11_PutFrame = some c_colonnaderef11_PutFrame := rfl
theorem t_colonnaderef11_PutPacked : T F_colonnaderef11_PutPacked = some c_colonnaderef11_PutPacked := rfl
theorem t_frame_PackedWidth : T F_frame_PackedWidth = some c_frame_PackedWidth := rfl
theorem t_frame_PutFrame : T F_frame_PutFrame = some c_frame_PutFrame := rfl
theorem t_frame_PutPacked : T F_frame_PutPacked = some c_frame_PutPacked := rfl
theorem t_frame_FrameWidth : T F_frame_FrameWidth = some c_frame_FrameWidth := rfl
theorem t_colonnaderef11_FrameWidth : T F_colonnaderef11_FrameWidth = some c_colonnaderef11_FrameWidth := rfl
theorem t_colonnadelaw11_awake : T F_colonnadelaw11_awake = some c_colonnadelaw11_awake := rfl
theorem t_colonnadelaw11_few : T F_colonnadelaw11_few = some c_colonnadelaw11_few := rfl
theorem t_colonnadelaw11_apart : T F_colonnadelaw11_apart = some c_colonnadelaw11_apart := rfl
theorem t_colonnadelaw11_apartInts : T F_colonnadelaw11_apartInts = some c_colonnadelaw11_apartInts := rfl
theorem t_pack_Bytes : T F_pack_Bytes = some c_pack_Bytes := rfl
theorem t_colonnaderef11_above : T F_colonnaderef11_above = some c_colonnaderef11_above := rfl
theorem t_colonnaderef02_Unpack : T F_colonnaderef02_Unpack = some c_colonnaderef02_Unpack := rfl
theorem t_pack_Unpack_uint64 : T F_pack_Unpack_uint64 = some c_pack_Unpack_uint64 := rfl
theorem t_frame_over : T F_frame_over = some c_frame_over := rfl
theorem t_colonnaderef02_Bytes : T F_colonnaderef02_Bytes = some c_colonnaderef02_Bytes := rfl
theorem t_colonnaderef08_Low : T F_colonnaderef08_Low = some c_colonnaderef08_Low := rfl
theorem t_pack_Word : T F_pack_Word = some c_pack_Word := rfl
theorem t_frame_own : T F_frame_own = some c_frame_own := rfl
theorem t_colonnaderef11_widest : T F_colonnaderef11_widest = some c_colonnaderef11_widest := rfl
theorem t_colonnaderef02_Pack : T F_colonnaderef02_Pack = some c_colonnaderef02_Pack := rfl
theorem t_colonnaderef11_codes : T F_colonnaderef11_codes = some c_colonnaderef11_codes := rfl
theorem t_colonnaderef08_PutInts : T F_colonnaderef08_PutInts = some c_colonnaderef08_PutInts := rfl
theorem t_colonnaderef11_least : T F_colonnaderef11_least = some c_colonnaderef11_least := rfl
theorem t_frame_base : T F_frame_base = some c_frame_base := rfl
theorem t_pack_Width : T F_pack_Width = some c_pack_Width := rfl
theorem t_slices_Max_int64_int64 : T F_slices_Max_int64_int64 = some c_slices_Max_int64_int64 := rfl
theorem t_pack_Pack_uint64 : T F_pack_Pack_uint64 = some c_pack_Pack_uint64 := rfl
theorem t_frame_above : T F_frame_above = some c_frame_above := rfl
theorem t_slices_Min_int64_int64 : T F_slices_Min_int64_int64 = some c_slices_Min_int64_int64 := rfl
theorem t_pack_may : T F_pack_may = some c_pack_may := rfl
theorem t_colonnaderef02_May : T F_colonnaderef02_May = some c_colonnaderef02_May := rfl
theorem t_colonnaderef02_Bit : T F_colonnaderef02_Bit = some c_colonnaderef02_Bit := rfl
theorem t_colonnaderef02_Lane : T F_colonnaderef02_Lane = some c_colonnaderef02_Lane := rfl
theorem t_colonnaderef02_Fits : T F_colonnaderef02_Fits = some c_colonnaderef02_Fits := rfl
theorem t_pack_mask : T F_pack_mask = some c_pack_mask := rfl
theorem t_colonnaderef08_Fixed : T F_colonnaderef08_Fixed = some c_colonnaderef08_Fixed := rfl
theorem t_math_bits_Len64 : T F_math_bits_Len64 = some c_math_bits_Len64 := rfl
theorem T_ok : TableOk P T := by
  intro f a h
  unfold T at h
  split at h
  · obtain rfl := Option.some.inj h; exact ⟨Try.f3, Try.func3, k_colonnadelaw11_FrameLifts, by kernel_rfl, by kernel_rfl⟩
  · obtain rfl := Option.some.inj h; exact ⟨Try.f4, Try.func4, k_colonnadelaw11_FrameValues, by kernel_rfl, by kernel_rfl⟩
  · obtain rfl := Option.some.inj h; exact ⟨Try.f5, Try.func5, k_colonnadelaw11_FrameOpens, by kernel_rfl, by kernel_rfl⟩
  · obtain rfl := Option.some.inj h; exact ⟨Try.f6, Try.func6, k_colonnadelaw11_FramePuts, by kernel_rfl, by kernel_rfl⟩
  · obtain rfl := Option.some.inj h; exact ⟨Try.f7, Try.func7, k_colonnadelaw11_FrameOrder, by kernel_rfl, by kernel_rfl⟩
  · obtain rfl := Option.some.inj h; exact ⟨Try.f8, Try.func8, k_colonnadelaw11_FrameForm, by kernel_rfl, by kernel_rfl⟩
  · obtain rfl := Option.some.inj h; exact ⟨Try.f9, Try.func9, k_colonnadelaw11_FrameOwn, by kernel_rfl, by kernel_rfl⟩
  · obtain rfl := Option.some.inj h; exact ⟨Try.f10, Try.func10, k_colonnadelaw11_FrameBack, by kernel_rfl, by kernel_rfl⟩
  · obtain rfl := Option.some.inj h; exact ⟨Try.f11, Try.func11, k_colonnaderef11_Drop, by kernel_rfl, by kernel_rfl⟩
  · obtain rfl := Option.some.inj h; exact ⟨Try.f12, Try.func12, k_frame_Drop, by kernel_rfl, by kernel_rfl⟩
  · obtain rfl := Option.some.inj h; exact ⟨Try.f13, Try.func13, k_frame_Lift, by kernel_rfl, by kernel_rfl⟩
  · obtain rfl := Option.some.inj h; exact ⟨Try.f14, Try.func14, k_colonnaderef11_Lift, by kernel_rfl, by kernel_rfl⟩
  · obtain rfl := Option.some.inj h; exact ⟨Try.f15, Try.func15, k_colonnadelaw11_bytesLent, by kernel_rfl, by kernel_rfl⟩
  · obtain rfl := Option.some.inj h; exact ⟨Try.f16, Try.func16, k_colonnaderef11_Values, by kernel_rfl, by kernel_rfl⟩
  · obtain rfl := Option.some.inj h; exact ⟨Try.f17, Try.func17, k_frame_Values, by kernel_rfl, by kernel_rfl⟩
  · obtain rfl := Option.some.inj h; exact ⟨Try.f18, Try.func18, k_colonnadelaw11_num, by kernel_rfl, by kernel_rfl⟩
  · obtain rfl := Option.some.inj h; exact ⟨Try.f19, Try.func19, k_colonnaderef08_SameInts, by kernel_rfl, by kernel_rfl⟩
  · obtain rfl := Option.some.inj h; exact ⟨Try.f20, Try.func20, k_colonnadelaw11_bytesKept, by kernel_rfl, by kernel_rfl⟩
  · obtain rfl := Option.some.inj h; exact ⟨Try.f21, Try.func21, k_colonnaderef11_OpenFrame, by kernel_rfl, by kernel_rfl⟩
  · obtain rfl := Option.some.inj h; exact ⟨Try.f22, Try.func22, k_colonnaderef11_OpenPacked, by kernel_rfl, by kernel_rfl⟩
  · obtain rfl := Option.some.inj h; exact ⟨Try.f23, Try.func23, k_frame_OpenFrame, by kernel_rfl, by kernel_rfl⟩
  · obtain rfl := Option.some.inj h; exact ⟨Try.f24, Try.func24, k_frame_OpenPacked, by kernel_rfl, by kernel_rfl⟩
  · obtain rfl := Option.some.inj h; exact ⟨Try.f25, Try.func25, k_colonnaderef11_PackedWidth, by kernel_rfl, by kernel_rfl⟩
  · obtain rfl := Option.some.inj h; exact ⟨Try.f26, Try.func26, k_colonnaderef11_PutFrame, by kernel_rfl, by kernel_rfl⟩
  · obtain rfl := Option.some.inj h; exact ⟨Try.f27, Try.func27, k_colonnaderef11_PutPacked, by kernel_rfl, by kernel_rfl⟩
  · obtain rfl := Option.some.inj h; exact ⟨Try.f28, Try.func28, k_frame_PackedWidth, by kernel_rfl, by kernel_rfl⟩
  · obtain rfl := Option.some.inj h; exact ⟨Try.f29, Try.func29, k_frame_PutFrame, by kernel_rfl, by kernel_rfl⟩
  · obtain rfl := Option.some.inj h; exact ⟨Try.f30, Try.func30, k_frame_PutPacked, by kernel_rfl, by kernel_rfl⟩
  · obtain rfl := Option.some.inj h; exact ⟨Try.f31, Try.func31, k_frame_FrameWidth, by kernel_rfl, by kernel_rfl⟩
  · obtain rfl := Option.some.inj h; exact ⟨Try.f32, Try.func32, k_colonnaderef11_FrameWidth, by kernel_rfl, by kernel_rfl⟩
  · obtain rfl := Option.some.inj h; exact ⟨Try.f33, Try.func33, k_colonnadelaw11_awake, by kernel_rfl, by kernel_rfl⟩
  · obtain rfl := Option.some.inj h; exact ⟨Try.f34, Try.func34, k_colonnadelaw11_few, by kernel_rfl, by kernel_rfl⟩
  · obtain rfl := Option.some.inj h; exact ⟨Try.f35, Try.func35, k_colonnadelaw11_apart, by kernel_rfl, by kernel_rfl⟩
  · obtain rfl := Option.some.inj h; exact ⟨Try.f36, Try.func36, k_colonnadelaw11_apartInts, by kernel_rfl, by kernel_rfl⟩
  · obtain rfl := Option.some.inj h; exact ⟨Try.f37, Try.func37, k_pack_Bytes, by kernel_rfl, by kernel_rfl⟩
  · obtain rfl := Option.some.inj h; exact ⟨Try.f38, Try.func38, k_colonnaderef11_above, by kernel_rfl, by kernel_rfl⟩
  · obtain rfl := Option.some.inj h; exact ⟨Try.f39, Try.func39, k_colonnaderef02_Unpack, by kernel_rfl, by kernel_rfl⟩
  · obtain rfl := Option.some.inj h; exact ⟨Try.f40, Try.func40, k_pack_Unpack_uint64, by kernel_rfl, by kernel_rfl⟩
  · obtain rfl := Option.some.inj h; exact ⟨Try.f41, Try.func41, k_frame_over, by kernel_rfl, by kernel_rfl⟩
  · obtain rfl := Option.some.inj h; exact ⟨Try.f42, Try.func42, k_colonnaderef02_Bytes, by kernel_rfl, by kernel_rfl⟩
  · obtain rfl := Option.some.inj h; exact ⟨Try.f43, Try.func43, k_colonnaderef08_Low, by kernel_rfl, by kernel_rfl⟩
  · obtain rfl := Option.some.inj h; exact ⟨Try.f44, Try.func44, k_pack_Word, by kernel_rfl, by kernel_rfl⟩
  · obtain rfl := Option.some.inj h; exact ⟨Try.f45, Try.func45, k_frame_own, by kernel_rfl, by kernel_rfl⟩
  · obtain rfl := Option.some.inj h; exact ⟨Try.f46, Try.func46, k_colonnaderef11_widest, by kernel_rfl, by kernel_rfl⟩
  · obtain rfl := Option.some.inj h; exact ⟨Try.f47, Try.func47, k_colonnaderef02_Pack, by kernel_rfl, by kernel_rfl⟩
  · obtain rfl := Option.some.inj h; exact ⟨Try.f48, Try.func48, k_colonnaderef11_codes, by kernel_rfl, by kernel_rfl⟩
  · obtain rfl := Option.some.inj h; exact ⟨Try.f49, Try.func49, k_colonnaderef08_PutInts, by kernel_rfl, by kernel_rfl⟩
  · obtain rfl := Option.some.inj h; exact ⟨Try.f50, Try.func50, k_colonnaderef11_least, by kernel_rfl, by kernel_rfl⟩
  · obtain rfl := Option.some.inj h; exact ⟨Try.f51, Try.func51, k_frame_base, by kernel_rfl, by kernel_rfl⟩
  · obtain rfl := Option.some.inj h; exact ⟨Try.f52, Try.func52, k_pack_Width, by kernel_rfl, by kernel_rfl⟩
  · obtain rfl := Option.some.inj h; exact ⟨Try.f53, Try.func53, k_slices_Max_int64_int64, by kernel_rfl, by kernel_rfl⟩
  · obtain rfl := Option.some.inj h; exact ⟨Try.f54, Try.func54, k_pack_Pack_uint64, by kernel_rfl, by kernel_rfl⟩
  · obtain rfl := Option.some.inj h; exact ⟨Try.f55, Try.func55, k_frame_above, by kernel_rfl, by kernel_rfl⟩
  · obtain rfl := Option.some.inj h; exact ⟨Try.f56, Try.func56, k_slices_Min_int64_int64, by kernel_rfl, by kernel_rfl⟩
  · obtain rfl := Option.some.inj h; exact ⟨Try.f57, Try.func57, k_pack_may, by kernel_rfl, by kernel_rfl⟩
  · obtain rfl := Option.some.inj h; exact ⟨Try.f58, Try.func58, k_colonnaderef02_May, by kernel_rfl, by kernel_rfl⟩
  · obtain rfl := Option.some.inj h; exact ⟨Try.f59, Try.func59, k_colonnaderef02_Bit, by kernel_rfl, by kernel_rfl⟩
  · obtain rfl := Option.some.inj h; exact ⟨Try.f60, Try.func60, k_colonnaderef02_Lane, by kernel_rfl, by kernel_rfl⟩
  · obtain rfl := Option.some.inj h; exact ⟨Try.f61, Try.func61, k_colonnaderef02_Fits, by kernel_rfl, by kernel_rfl⟩
  · obtain rfl := Option.some.inj h; exact ⟨Try.f62, Try.func62, k_pack_mask, by kernel_rfl, by kernel_rfl⟩
  · obtain rfl := Option.some.inj h; exact ⟨Try.f63, Try.func63, k_colonnaderef08_Fixed, by kernel_rfl, by kernel_rfl⟩
  · obtain rfl := Option.some.inj h; exact ⟨Try.f64, Try.func64, k_math_bits_Len64, by kernel_rfl, by kernel_rfl⟩
  · simp at h
theorem mixed_ok : P.follows .mixedOrders = true := by kernel_rfl
end Go.Ax
