/- Seat bits: Join: one word laid across two. -/
import Derived.Test.YtpemffaclmpnnaaDoorYM
namespace Go.Ax
set_option linter.unusedVariables false
set_option linter.unusedSimpArgs false

/-- A word x put in from number k on: the low part. -/
theorem or_low {wsi : List (BitVec 64)} {x : BitVec 64} {k d m : Nat} (hd : k / 64 = d) (hm : k % 64 = m) (hl : d < wsi.length) (i : Nat) :
    bit (wsi.set d (word wsi d ||| x <<< m)) i = (bit wsi i || (decide (k ≤ i) && decide (i / 64 = d) && x.getLsbD (i - k))) := by
  rw [bit_set hl]
  by_cases h : i / 64 = d
  · rw [if_pos h, BitVec.getLsbD_or, BitVec.getLsbD_shiftLeft]
    have e1 : (word wsi d).getLsbD (i % 64) = bit wsi i := by unfold bit; rw [h]
    rw [e1]
    by_cases hk : k ≤ i
    · have h1 : ¬ i % 64 < m := by omega
      have h2 : i % 64 - m = i - k := by omega
      have h3 : i % 64 < 64 := by omega
      simp [h, hk, h1, h2, h3]
    · have h1 : i % 64 < m := by omega
      simp [hk, h1]
  · rw [if_neg h]; simp [h]

/-- The high part. -/
theorem or_high {wsi : List (BitVec 64)} {x : BitVec 64} {k d m : Nat} (hd : k / 64 = d) (hm : k % 64 = m) (hm0 : 0 < m) (hl : d + 1 < wsi.length) (i : Nat) :
    bit (wsi.set (d + 1) (word wsi (d + 1) ||| x >>> (64 - m))) i = (bit wsi i || (decide (i / 64 = d + 1) && x.getLsbD (i - k))) := by
  rw [bit_set hl]
  by_cases h : i / 64 = d + 1
  · rw [if_pos h, BitVec.getLsbD_or, BitVec.getLsbD_ushiftRight]
    have e1 : (word wsi (d + 1)).getLsbD (i % 64) = bit wsi i := by unfold bit; rw [h]
    have e2 : 64 - m + i % 64 = i - k := by omega
    rw [e1, e2]
    simp [h]
  · rw [if_neg h]; simp [h]

end Go.Ax
