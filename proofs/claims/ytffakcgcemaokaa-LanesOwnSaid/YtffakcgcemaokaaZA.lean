/- Seat lanes: words of lanes: the program's and the document's. -/
import Derived.Test.YtffakcgcemaokaaMQ
import Derived.Test.YtffakcgcemaokaaML
import Derived.Test.YtffakcgcemaokaaXK
namespace Go.Ax
set_option linter.unusedVariables false
set_option linter.unusedSimpArgs false

theorem lc_div {w : Nat} (h : 1 ≤ w) : Int.tdiv 64 (w : Int) = (lc w : Nat) := by
  rw [Int.tdiv_eq_ediv_of_nonneg (by omega)]; rfl
theorem lc_64 {w : Nat} : lc w ≤ 64 := Nat.div_le_self _ _
theorem lc_wrap {w : Nat} : IntKind.i64.wrap (lc w : Int) = (lc w : Nat) := by
  have := @lc_64 w
  exact wrap_i64 (by omega) (by omega)

theorem wide_spec {h : Heap} (w : Int) : Gives P T (.fn F_lanes_wide) [.int .i64 w] h fun v h' => v = .bool (decide (1 ≤ w ∧ w ≤ 64)) ∧ h' = h := by
  refine gives_by t_lanes_wide (by simp [c_lanes_wide]) fun Q hQ => ?_
  by_cases h1 : 1 ≤ w
  · simp [c_lanes_wide, h1]
    exact hQ _ _ ⟨by simp [h1], rfl⟩
  · simp [c_lanes_wide, h1, skipV]
    exact hQ _ _ ⟨by simp [h1], rfl⟩

/-- The top bits of lanes; all their bits. -/
def topsB (w : Nat) : BitVec 64 := bvOf (fun j => decide (j < w * lc w) && decide (j % w = w - 1)) 64
def usedB (w : Nat) : BitVec 64 := bvOf (fun j => decide (j < w * lc w)) 64

theorem masks {w : Nat} (h1 : 1 ≤ w) (h2 : w ≤ 64) : Masks w (usedB w) (topsB w) where
  lo := h1
  hi := h2
  used := fun j hj => by rw [usedB, bvOf_bit _ _ _ (by omega)]; simp [hj]
  top := fun j hj => by rw [topsB, bvOf_bit _ _ _ (by omega)]; simp [hj]

theorem used_spec {h : Heap} {w : Nat} (h1 : 1 ≤ w) (h2 : w ≤ 64) : Gives P T (.fn F_lanes_used) [.int .i64 w] h fun v h' => v = .int .u64 (wi (usedB w)) ∧ h' = h := by
  refine gives_by t_lanes_used (by simp [c_lanes_used]) fun Q hQ => ?_
  have hw0 : ¬ w = 0 := by omega
  have hlc := @lc_le w
  obtain ⟨n, hn⟩ : ∃ n, w * lc w = n := ⟨_, rfl⟩
  have e : (lc w : Int) * w = (n : Int) := by rw [← hn, Int.natCast_mul, Int.mul_comm]
  have e2 : IntKind.i64.wrap (n : Int) = n := wrap_i64 (by omega) (by omega)
  by_cases h : n < 64
  · have h' : (n : Int) < 64 := by omega
    simp [c_lanes_used, hw0, lc_div h1, lc_wrap, e, e2, h']
    refine hQ _ _ ⟨?_, rfl⟩
    congr 2
    apply eq_bvOf (by omega)
    intro j hj
    have : (1#64 <<< n - 1#64).getLsbD j = decide (j < n) := by
      have e1 : (1#64 <<< n - 1#64).toNat = 2 ^ n - 1 := by
        have e3 : (1#64 <<< n).toNat = 2 ^ n := by
          rw [BitVec.toNat_shiftLeft, Nat.shiftLeft_eq]
          simp
          exact Nat.pow_lt_pow_right (by omega) h
        rw [BitVec.toNat_sub, e3]
        have := Nat.pow_lt_pow_right (show 1 < 2 by omega) h
        have := Nat.two_pow_pos n
        simp
        omega
      show (1#64 <<< n - 1#64).toNat.testBit j = _
      rw [e1, Nat.testBit_two_pow_sub_one]
    rw [this, hn]; simp [hj]
  · have h' : ¬ (n : Int) < 64 := by omega
    have h64 : n = 64 := by omega
    simp [c_lanes_used, hw0, lc_div h1, lc_wrap, e, e2, h']
    refine hQ _ _ ⟨?_, rfl⟩
    have : usedB w = BitVec.allOnes 64 := by
      apply BitVec.eq_of_getLsbD_eq
      intro j hj
      rw [usedB, bvOf_bit _ _ _ (by omega), hn, h64, BitVec.getLsbD_allOnes, decide_eq_true hj]; rfl
    rw [this]; rfl

theorem tops_spec {h : Heap} {w : Nat} (h1 : 1 ≤ w) (h2 : w ≤ 64) : Gives P T (.fn F_lanes_tops) [.int .i64 w] h fun v h' => v = .int .u64 (wi (topsB w)) ∧ h' = h := by
  refine gives_by t_lanes_tops (by simp [c_lanes_tops]) fun Q hQ => ?_
  have hw0 : ¬ w = 0 := by omega
  have hlc := @lc_le w
  have hl64 := @lc_64 w
  simp [c_lanes_tops, hw0, lc_div h1, lc_wrap]
  refine go_loopK (fun k ks h2 => ∃ (i : Nat) (x : BitVec 64), k = lc w - i ∧ i ≤ lc w ∧ ks = [(0, .int .i64 w), (3, .int .u64 (wi x)), (6, .int .i64 (lc w : Nat)), (7, .int .i64 i)] ∧
    (∀ j, j < 64 → x.getLsbD j = (decide (j < w * i) && decide (j % w = w - 1))) ∧ h2 = h) (n := lc w) ⟨0, 0, rfl, by omega, rfl, by simp, rfl⟩ (by simp) ?_
  rintro I hI k ks e h3 ⟨i, x, rfl, hi, rfl, hx, rfl⟩
  simp
  refine branch_dec (fun hlt => ?_) (fun hge => ?_)
  · have hil : i < lc w := by omega
    have hb := lane_lt hil (show w - 1 < w by omega)
    obtain ⟨s, hs⟩ : ∃ s, i * w = s := ⟨_, rfl⟩
    have hs' : w * i = s := by rw [Nat.mul_comm]; exact hs
    have e0 : (i : Int) * w = (s : Int) := by rw [← hs, Int.natCast_mul]
    have e1 : IntKind.i64.wrap (s : Int) = s := wrap_i64 (by omega) (by omega)
    have e2 : IntKind.i64.wrap ((s : Int) + w) = ((s + w : Nat) : Int) := by rw [wrap_i64 (by omega) (by omega)]; omega
    obtain ⟨s2, hs2⟩ : ∃ s2, s + w = s2 := ⟨_, rfl⟩
    rw [hs2] at e2
    have e3 : IntKind.i64.wrap ((s2 : Int) - 1) = ((s2 - 1 : Nat) : Int) := by rw [wrap_i64 (by omega) (by omega)]; omega
    obtain ⟨s3, hs3⟩ : ∃ s3, s2 - 1 = s3 := ⟨_, rfl⟩
    rw [hs3] at e3
    have e4 : IntKind.i64.wrap ((i : Int) + 1) = ((i + 1 : Nat) : Int) := by rw [wrap_i64 (by omega) (by omega)]; omega
    simp [e0, e1, e2, e3, e4]
    refine ⟨lc w - (i + 1), by omega, hI _ _ _ _ ⟨i + 1, x ||| 1#64 <<< s3, rfl, by omega, rfl, fun j hj => ?_, rfl⟩ (by simp)⟩
    rw [BitVec.getLsbD_or, hx j hj, BitVec.getLsbD_shiftLeft]
    have e5 : w * (i + 1) = s + w := by rw [Nat.mul_add, hs']; omega
    rw [hs', e5]
    by_cases hjs : j = s3
    · have h5 : j % w = w - 1 := by rw [show j = w * i + (w - 1) by omega]; exact lane_mod (by omega)
      have h6 : ¬ j < s := by omega
      have h7 : ¬ j < s3 := by omega
      have h8 : j - s3 = 0 := by omega
      have h9 : j < s + w := by omega
      simp [h5, h6, h7, h8, h9, hj]
    · have h5 : (1#64).getLsbD (j - s3) = decide (j - s3 = 0) := by simp
      have h6 : ((decide (j < 64) && !decide (j < s3)) && (1#64).getLsbD (j - s3)) = false := by
        by_cases h7 : j < s3
        · simp [h7]
        · have : ¬ j - s3 = 0 := by omega
          simp [this]
      rw [h6, Bool.or_false]
      by_cases h7 : j < s
      · have : j < s + w := by omega
        simp [h7, this]
      · by_cases h8 : j < s + w
        · have h9 : j % w = j - s := by
            conv => lhs; rw [show j = w * i + (j - s) by omega]
            exact lane_mod (by omega)
          have : ¬ j % w = w - 1 := by omega
          simp [h7, this]
        · simp [h7, h8]
  · have hil : i = lc w := by omega
    subst hil
    simp
    refine hQ _ _ ⟨?_, rfl⟩
    congr 2
    apply eq_bvOf (by omega)
    intro j hj
    rw [hx j hj]; simp [hj]


def spreadB (v : BitVec 64) (w : Nat) : BitVec 64 := bvOf (fun j => decide (j < w * lc w) && v.getLsbD (j % w)) 64

/-- One more lane laid down. -/
theorem spread_step {v x : BitVec 64} {w i s : Nat} (hs : i * w = s) (hi : i < lc w) (hw : 1 ≤ w) (hv : ∀ j, w ≤ j → v.getLsbD j = false)
    (hx : ∀ j, j < 64 → x.getLsbD j = (decide (j < w * i) && v.getLsbD (j % w))) : ∀ j, j < 64 → (x ||| v <<< s).getLsbD j = (decide (j < w * (i + 1)) && v.getLsbD (j % w)) := by
  intro j hj
  have hs' : w * i = s := by rw [Nat.mul_comm]; exact hs
  have e5 : w * (i + 1) = s + w := by rw [Nat.mul_add, hs']; omega
  rw [BitVec.getLsbD_or, hx j hj, BitVec.getLsbD_shiftLeft, hs', e5]
  by_cases h7 : j < s
  · have : j < s + w := by omega
    simp [h7, this]
  · by_cases h8 : j < s + w
    · have h9 : j % w = j - s := by
        conv => lhs; rw [show j = w * i + (j - s) by omega]
        exact lane_mod (by omega)
      simp [h7, h8, h9, hj]
    · rw [hv (j - s) (by omega)]
      simp [h7, h8]

theorem fits_bits {v : BitVec 64} {w : Nat} (h : v >>> w = 0#64) : ∀ j, w ≤ j → v.getLsbD j = false := by
  intro j hj
  have := congrArg (fun x => x.getLsbD (j - w)) h
  simp only [BitVec.getLsbD_ushiftRight] at this
  rw [show w + (j - w) = j by omega] at this
  simpa using this

theorem spread_spec {h : Heap} {v : BitVec 64} {w : Nat} (h1 : 1 ≤ w) (h2 : w ≤ 64) (hv : ∀ j, w ≤ j → v.getLsbD j = false) : Gives P T (.fn F_lanes_spread) [.int .u64 (wi v), .int .i64 w] h fun r h' => r = .int .u64 (wi (spreadB v w)) ∧ h' = h := by
  refine gives_by t_lanes_spread (by simp [c_lanes_spread]) fun Q hQ => ?_
  have hw0 : ¬ w = 0 := by omega
  have hlc := @lc_le w
  have hl64 := @lc_64 w
  simp [c_lanes_spread, hw0, lc_div h1, lc_wrap]
  refine go_loopK (fun k ks h2 => ∃ (i : Nat) (x : BitVec 64), k = lc w - i ∧ i ≤ lc w ∧ ks = [(0, .int .u64 (wi v)), (1, .int .i64 w), (5, .int .u64 (wi x)), (8, .int .i64 (lc w : Nat)), (9, .int .i64 i)] ∧
    (∀ j, j < 64 → x.getLsbD j = (decide (j < w * i) && v.getLsbD (j % w))) ∧ h2 = h) (n := lc w) ⟨0, 0, rfl, by omega, rfl, by simp, rfl⟩ (by simp) ?_
  rintro I hI k ks e h3 ⟨i, x, rfl, hi, rfl, hx, rfl⟩
  simp
  refine branch_dec (fun hlt => ?_) (fun hge => ?_)
  · have hil : i < lc w := by omega
    have hb := lane_lt hil (show w - 1 < w by omega)
    obtain ⟨s, hs⟩ : ∃ s, i * w = s := ⟨_, rfl⟩
    have hs' : w * i = s := by rw [Nat.mul_comm]; exact hs
    have e0 : (i : Int) * w = (s : Int) := by rw [← hs, Int.natCast_mul]
    have e1 : IntKind.i64.wrap (s : Int) = s := wrap_i64 (by omega) (by omega)
    have e4 : IntKind.i64.wrap ((i : Int) + 1) = ((i + 1 : Nat) : Int) := by rw [wrap_i64 (by omega) (by omega)]; omega
    simp [e0, e1, e4]
    exact ⟨lc w - (i + 1), by omega, hI _ _ _ _ ⟨i + 1, x ||| v <<< s, rfl, by omega, rfl, spread_step hs hil h1 hv hx, rfl⟩ (by simp)⟩
  · have hil : i = lc w := by omega
    subst hil
    simp
    refine hQ _ _ ⟨?_, rfl⟩
    congr 2
    apply eq_bvOf (by omega)
    intro j hj
    rw [hx j hj]; simp [hj]

/-- The top bits of the lanes, gathered. -/
def marksB (m : BitVec 64) (w : Nat) : BitVec 64 := bvOf (fun l => m.getLsbD (w * l + (w - 1))) (lc w)

theorem marks_spec {h : Heap} {m : BitVec 64} {w : Nat} (h1 : 1 ≤ w) (h2 : w ≤ 64) : Gives P T (.fn F_lanes_marks) [.int .u64 (wi m), .int .i64 w] h fun r h' => r = .int .u64 (wi (marksB m w)) ∧ h' = h := by
  refine gives_by t_lanes_marks (by simp [c_lanes_marks]) fun Q hQ => ?_
  have hw0 : ¬ w = 0 := by omega
  have hlc := @lc_le w
  have hl64 := @lc_64 w
  simp [c_lanes_marks, hw0, lc_div h1, lc_wrap]
  refine go_loopK (fun k ks h2 => ∃ (i : Nat), k = lc w - i ∧ i ≤ lc w ∧ ks = [(0, .int .u64 (wi m)), (1, .int .i64 w), (5, .int .u64 (wi (bvOf (fun l => m.getLsbD (w * l + (w - 1))) i))), (8, .int .i64 (lc w : Nat)), (9, .int .i64 i)] ∧
    h2 = h) (n := lc w) ⟨0, rfl, by omega, rfl, rfl⟩ (by simp [bvOf]) ?_
  rintro I hI k ks e h3 ⟨i, rfl, hi, rfl, rfl⟩
  simp
  refine branch_dec (fun hlt => ?_) (fun hge => ?_)
  · have hil : i < lc w := by omega
    have hb := lane_lt hil (show w - 1 < w by omega)
    obtain ⟨s, hs⟩ : ∃ s, i * w = s := ⟨_, rfl⟩
    have hs' : w * i = s := by rw [Nat.mul_comm]; exact hs
    have e0 : (i : Int) * w = (s : Int) := by rw [← hs, Int.natCast_mul]
    have e1 : IntKind.i64.wrap (s : Int) = s := wrap_i64 (by omega) (by omega)
    have e2 : IntKind.i64.wrap ((s : Int) + w) = ((s + w : Nat) : Int) := by rw [wrap_i64 (by omega) (by omega)]; omega
    obtain ⟨s2, hs2⟩ : ∃ s2, s + w = s2 := ⟨_, rfl⟩
    rw [hs2] at e2
    have e3 : IntKind.i64.wrap ((s2 : Int) - 1) = ((s2 - 1 : Nat) : Int) := by rw [wrap_i64 (by omega) (by omega)]; omega
    obtain ⟨s3, hs3⟩ : ∃ s3, s2 - 1 = s3 := ⟨_, rfl⟩
    rw [hs3] at e3
    have e4 : IntKind.i64.wrap ((i : Int) + 1) = ((i + 1 : Nat) : Int) := by rw [wrap_i64 (by omega) (by omega)]; omega
    simp [e0, e1, e2, e3, e4, and_one64]
    refine ⟨lc w - (i + 1), by omega, hI _ _ _ _ ⟨i + 1, rfl, by omega, rfl, rfl⟩ ?_⟩
    simp [bvOf, show w * i + (w - 1) = s3 by omega]
  · have hil : i = lc w := by omega
    subst hil
    simp
    exact hQ _ _ ⟨rfl, rfl⟩

theorem equal_spec {h : Heap} {x y : BitVec 64} {w : Nat} (h1 : 1 ≤ w) (h2 : w ≤ 64) : Gives P T (.fn F_lanes_equal) [.int .u64 (wi x), .int .u64 (wi y), .int .u64 (wi (topsB w)), .int .i64 w] h fun r h' => r = .int .u64 (wi (equalB (usedB w) (topsB w) x y)) ∧ h' = h := by
  refine gives_by t_lanes_equal (by simp [c_lanes_equal]) fun Q hQ => ?_
  simp [c_lanes_equal]
  refine got_call (used_spec h1 h2) ?_
  rintro _ _ ⟨rfl, rfl⟩
  simp
  refine got_call (used_spec h1 h2) ?_
  rintro _ _ ⟨rfl, rfl⟩
  simp
  exact hQ _ _ ⟨rfl, rfl⟩

theorem below_spec {h : Heap} {x y : BitVec 64} {w : Nat} (h1 : 1 ≤ w) (h2 : w ≤ 64) : Gives P T (.fn F_lanes_below) [.int .u64 (wi x), .int .u64 (wi y), .int .u64 (wi (topsB w)), .int .i64 w] h fun r h' => r = .int .u64 (wi (belowB (usedB w) (topsB w) x y)) ∧ h' = h := by
  refine gives_by t_lanes_below (by simp [c_lanes_below]) fun Q hQ => ?_
  simp [c_lanes_below]
  refine got_call (used_spec h1 h2) ?_
  rintro _ _ ⟨rfl, rfl⟩
  simp
  exact hQ _ _ ⟨rfl, rfl⟩

end Go.Ax
