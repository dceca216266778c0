/- Seat lanes: the law of packed numbers. -/
import Derived.Test.YtffakcgcemaokaaZM
namespace Go.Ax
open Go.Proofs
set_option linter.unusedVariables false
set_option linter.unusedSimpArgs false

theorem get_says {h0 h : Heap} {p n : Nat} {f : Nat → Bool} (s : SaysAt h0 h p n f) {i : Nat} (hi : i < n) :
    Gives P T (.fn F_bits_Set_Get) [ptr p, .int .i64 i] h fun r h' => r = .bool (f i) ∧ h' = h := by
  obtain ⟨q, ws, s, c, b, _, _⟩ := s
  refine (get_spec s c i).mono ?_
  rintro _ _ ⟨rfl, rfl⟩
  exact ⟨by rw [b]; simp [hi], rfl⟩

/-- Sums of the upper and of the lower halves. -/
def topN (bs : List (BitVec 8)) (w : Nat) : Nat → Nat
  | 0 => 0
  | i + 1 => topN bs w i + (laneB bs w i).toNat / 2 ^ 32
def lowN (bs : List (BitVec 8)) (w : Nat) : Nat → Nat
  | 0 => 0
  | i + 1 => lowN bs w i + (laneB bs w i).toNat % 2 ^ 32

theorem top_low (bs : List (BitVec 8)) (w : Nat) : ∀ i, sumB bs w i = lowN bs w i + topN bs w i * 2 ^ 32 ∧ topN bs w i ≤ i * 4294967296 ∧ lowN bs w i ≤ i * 4294967296
  | 0 => by simp [sumB, lowN, topN]
  | i + 1 => by
    obtain ⟨h1, h2, h3⟩ := top_low bs w i
    have := (laneB bs w i).isLt
    rw [sumB, lowN, topN, h1]
    omega

def topB (bs : List (BitVec 8)) (w i : Nat) : BitVec 64 := BitVec.ofNat 64 (topN bs w i)
def lowB (bs : List (BitVec 8)) (w i : Nat) : BitVec 64 := BitVec.ofNat 64 (lowN bs w i)

theorem top_step (bs : List (BitVec 8)) (w i : Nat) : topB bs w i + laneB bs w i >>> 32 = topB bs w (i + 1) := by
  unfold topB
  apply BitVec.eq_of_toNat_eq
  simp [topN, Nat.shiftRight_eq_div_pow]

theorem low_step (bs : List (BitVec 8)) (w i : Nat) : lowB bs w i + (laneB bs w i &&& 4294967295#64) = lowB bs w (i + 1) := by
  unfold lowB
  apply BitVec.eq_of_toNat_eq
  have : (laneB bs w i &&& 4294967295#64).toNat = (laneB bs w i).toNat % 2 ^ 32 := by
    rw [BitVec.toNat_and, show (4294967295#64).toNat = 2 ^ 32 - 1 by rfl, Nat.and_two_pow_sub_one_eq_mod]
  simp only [BitVec.toNat_add, BitVec.toNat_ofNat, this, lowN]
  omega

theorem whole_eq {bs : List (BitVec 8)} {w n : Nat} (hn : n ≤ 16777216) : lowB bs w n + topB bs w n <<< 32 = loB (sumB bs w n) := by
  obtain ⟨h1, h2, h3⟩ := top_low bs w n
  unfold lowB topB loB
  apply BitVec.eq_of_toNat_eq
  simp only [BitVec.toNat_add, BitVec.toNat_ofNat, BitVec.toNat_shiftLeft, Nat.shiftLeft_eq]
  omega

theorem carry_eq {bs : List (BitVec 8)} {w n : Nat} (hn : n ≤ 16777216) : (lowB bs w n >>> 32 + topB bs w n) >>> 32 = hiB (sumB bs w n) := by
  obtain ⟨h1, h2, h3⟩ := top_low bs w n
  unfold lowB topB hiB
  apply BitVec.eq_of_toNat_eq
  simp only [BitVec.toNat_add, BitVec.toNat_ofNat, BitVec.toNat_ushiftRight, Nat.shiftRight_eq_div_pow]
  omega

theorem packed_spec {h : Heap} {vL vOf : Value} {cs os : List (BitVec 64)} (rL : ArgS h vL (cs.map wv)) (rO : ArgS h vOf (os.map wv)) (hcs : cs.length * 8 ≤ 140737488351232) (hos : os.length * 8 ≤ 140737488351232) (width : Int) (c lo hi : BitVec 64) :
    Gives P T (.fn F_colonnadelaw03_LanesPacked) [.agg (listC vL vOf width c lo hi).toArray] h fun r _ => r = .bool true := by
  refine gives_by t_colonnadelaw03_LanesPacked (by simp [c_colonnadelaw03_LanesPacked]) fun Q hQ => ?_
  obtain ⟨w, hw⟩ : ∃ w : Nat, width % 65 = w := ⟨(width % 65).toNat, by have := Int.emod_nonneg width (show (65 : Int) ≠ 0 by omega); omega⟩
  have hw65 : w < 65 := by have := Int.emod_lt_of_pos width (show (0 : Int) < 65 by omega); omega
  obtain ⟨bo, co, eo, hro⟩ := rO.reads.shape
  simp only [List.length_map] at hro eo
  obtain ⟨m, hm⟩ : ∃ m, os.length = m := ⟨_, rfl⟩
  rw [hm] at hro eo
  simp [c_colonnadelaw03_LanesPacked]
  have gb := Grow.new h (listC vL vOf width c lo hi) 0
  have rb := RowAt.new h (listC vL vOf width c lo hi) 0
  refine got_call known_spec ?_
  rintro _ h2 ⟨rfl, g2⟩
  have r2 := rb.grow g2
  have l2 := loadN_row_all r2 (n := 6) rfl
  simp [l2]
  refine got_call (fit_spec ((rL.reads.grow gb).grow g2) hcs width c lo hi hw) ?_
  rintro _ h3 ⟨u, q, rfl, o3, g3, hq3⟩
  have r3 := r2.grow g3
  have G3 := (gb.trans g2).trans g3
  obtain ⟨ds, hds⟩ : ∃ ds, cs.map (maskB w) = ds := ⟨_, rfl⟩
  have hfit : allFit ds w := by rw [← hds]; exact fit_all (by omega)
  rw [hds] at o3
  obtain ⟨n, hn⟩ : ∃ n, ds.length = n := ⟨_, rfl⟩
  have o3r := o3.reads
  obtain ⟨bl, cl, rfl, hrl⟩ := o3r.shape
  simp only [List.length_map, hn] at hrl ⊢
  simp [hn] at o3r
  simp
  by_cases hlg : 16777216 < n
  · have : (16777216 : Int) < n := by omega
    simp [this]
    exact hQ _ _ rfl
  have hlg' : ¬ (16777216 : Int) < n := by omega
  simp [hlg']
  refine got_call (Pack_uint64_spec (cs := ds) (w := w) (wvkv ds ▸ o3r) (by omega) (by omega)) ?_
  rintro _ h4 ⟨g4, ⟨hnf, _⟩ | ⟨u4, q4, b4, _, rfl, o4, hq4, p4, _⟩⟩
  · exact absurd hfit hnf
  have r4 := r3.grow g4
  have F4 := packs_fine p4 (by omega) (by omega : w ≤ 64)
  rw [hn] at F4
  have hlane : ∀ i, i < n → wordL ds i = laneB b4 w i := fun i hi => (packs_lane p4 (by omega) hfit (by omega)).symm
  simp [r4.get (i := 2) (x := .int .u64 (wi c)) rfl]
  refine got_call (Test_spec (c := c) (op := 4) o4.bytes F4 (by omega) (by omega)) ?_
  rintro _ h5 ⟨p5, rfl, s5, g5⟩
  have r5 := r4.grow g5
  simp [r5.get (i := 3) (x := .int .u64 (wi lo)) rfl, r5.get (i := 4) (x := .int .u64 (wi hi)) rfl]
  refine got_call (Between_spec (lo := lo) (hi := hi) (o4.bytes.grow g5) F4) ?_
  rintro _ h6 ⟨p6, rfl, s6, g6⟩
  have r6 := r5.grow g6
  simp [r6.get (i := 5) (x := vOf) rfl]
  refine got_call (In_spec ((o4.bytes.grow g5).grow g6) ((((rO.reads.grow G3).grow g4).grow g5).grow g6) F4 (by omega)) ?_
  rintro _ h7 ⟨p7, rfl, s7, g7⟩
  have r7 := r6.grow g7
  have S5 := (s5.grow g6).grow g7
  have S6 := s6.grow g7
  have G7 := ((g4.trans g5).trans g6).trans g7
  have neg : ∀ m : Nat, ¬ (m : Int) < 0 := fun m => by omega
  simp
  refine got_call (count_says S5) ?_
  rintro _ _ ⟨⟨m5, rfl⟩, rfl⟩
  rename_i h7
  simp [neg]
  refine got_call (count_says S6) ?_
  rintro _ _ ⟨⟨m6, rfl⟩, rfl⟩
  rename_i h7
  simp [neg]
  refine got_call (count_says s7) ?_
  rintro _ _ ⟨⟨m7, rfl⟩, rfl⟩
  rename_i h7
  simp [neg]
  have lc7 := r7.get (i := 2) (x := .int .u64 (wi c)) rfl
  have llo7 := r7.get (i := 3) (x := .int .u64 (wi lo)) rfl
  have lhi7 := r7.get (i := 4) (x := .int .u64 (wi hi)) rfl
  have lof7 := r7.get (i := 5) (x := vOf) rfl
  subst eo
  refine go_loopK (fun k ks hh => ∃ (i : Nat), k = n - i ∧ i ≤ n ∧ ks = [(1, .pointer (some ⟨h.dyn.length, 0, some 0⟩)), (3, .slice bl n cl), (4, .int .i64 w), (5, .int .i64 n), (6, u4), (8, ptr p5), (10, ptr p6), (12, ptr p7), (14, .int .u64 (minB b4 w i)), (15, .int .u64 (maxB b4 w i)), (16, .int .u64 (wi (topB b4 w i))), (17, .int .u64 (wi (lowB b4 w i))), (18, .int .i64 i)] ∧ hh = h7) (n := n)
    ⟨0, rfl, by omega, rfl, rfl⟩ (by simp [ptr, minB, maxB, topB, lowB, topN, lowN]) ?_
  rintro I hI k ks e hh ⟨i, rfl, hin, rfl, rfl⟩
  simp
  refine branch_dec (fun hlt => ?_) (fun hge => ?_)
  · have hil : i < n := by omega
    obtain ⟨a, rfl, hla⟩ := hrl i hil
    have hld := hload_grow G7 (hla i _ (wordL_get (by omega)))
    rw [hlane i hil] at hld
    have e4 : IntKind.i64.wrap ((i : Int) + 1) = ((i + 1 : Nat) : Int) := by rw [wrap_i64 (by omega) (by omega)]; omega
    simp
    refine go_loopK (fun k ks h2 => ∃ (j : Nat), k = m - j ∧ j ≤ m ∧ ks = [(1, .pointer (some ⟨h.dyn.length, 0, some 0⟩)), (3, .slice (some a) n cl), (4, .int .i64 w), (5, .int .i64 n), (6, u4), (8, ptr p5), (10, ptr p6), (12, ptr p7), (14, .int .u64 (minB b4 w i)), (15, .int .u64 (maxB b4 w i)), (16, .int .u64 (wi (topB b4 w i))), (17, .int .u64 (wi (lowB b4 w i))), (18, .int .i64 i), (19, .bool (anyB os (laneB b4 w i) j)), (20, .int .i64 j)] ∧ h2 = hh) (n := m)
      ⟨0, rfl, by omega, rfl, rfl⟩ (by simp [anyB, ptr]) ?_
    rintro I2 hI2 k2 ks2 e2 h9 ⟨j, rfl, hj, rfl, rfl⟩
    simp [lof7]
    refine branch_dec (fun hlt2 => ?_) (fun hge2 => ?_)
    · have hjm : j < m := by omega
      obtain ⟨a2, rfl, hla2⟩ := hro j hjm
      have hld2 := hload_grow (G3.trans G7) (hla2 j _ (wordL_get (by omega)))
      have e5 : IntKind.i64.wrap ((j : Int) + 1) = ((j + 1 : Nat) : Int) := by rw [wrap_i64 (by omega) (by omega)]; omega
      cases hb : anyB os (laneB b4 w i) j with
      | true =>
        simp [skipV, e5]
        exact ⟨m - (j + 1), by omega, hI2 _ _ _ _ ⟨j + 1, rfl, by omega, rfl, rfl⟩ (by simp [anyB, hb, ptr])⟩
      | false =>
        simp [hjm, hil, hld, hld2, lof7, e5]
        refine ⟨m - (j + 1), by omega, hI2 _ _ _ _ ⟨j + 1, rfl, by omega, rfl, rfl⟩ ?_⟩
        have : decide (wordL os j = laneB b4 w i) = decide (laneB b4 w i = os.getD j 0) := decide_eq_decide.2 ⟨fun h => h.symm, fun h => h.symm⟩
        simp [anyB, hb, this, ptr]
    · have hjm : j = m := by omega
      subst hjm
      simp
      refine got_call (get_says S5 hil) ?_
      rintro _ _ ⟨rfl, rfl⟩
      rename_i h9
      simp [hil, hld, lc7, stB]
      refine got_call (get_says S6 hil) ?_
      rintro _ _ ⟨rfl, rfl⟩
      rename_i h9
      by_cases hlo : wi lo ≤ wi (laneB b4 w i)
      · simp [hil, hld, llo7, lhi7, hlo]
        refine got_call (get_says s7 hil) ?_
        rintro _ _ ⟨rfl, rfl⟩
        rename_i h9
        simp [hil, hld, hm, e4, top_step, low_step]
        exact ⟨n - (i + 1), by omega, hI _ _ _ _ ⟨i + 1, rfl, by omega, rfl, rfl⟩ (by simp [ptr, minB, maxB])⟩
      · simp [hil, hld, llo7, lhi7, hlo, skipV]
        refine got_call (get_says s7 hil) ?_
        rintro _ _ ⟨rfl, rfl⟩
        rename_i h9
        simp [hil, hld, hm, e4, top_step, low_step]
        exact ⟨n - (i + 1), by omega, hI _ _ _ _ ⟨i + 1, rfl, by omega, rfl, rfl⟩ (by simp [ptr, minB, maxB])⟩
  · have hil : i = n := by omega
    subst hil
    simp
    refine got_call (Sum_spec (o4.bytes.grow ((g5.trans g6).trans g7)) F4) ?_
    rintro _ _ ⟨rfl, rfl⟩
    rename_i h9
    simp
    refine got_call (Ends_spec (o4.bytes.grow ((g5.trans g6).trans g7)) F4) ?_
    rintro _ _ ⟨rfl, rfl⟩
    rename_i h9
    rw [(ends_any (bs := b4)).1, (ends_any (bs := b4)).2]
    by_cases hn0 : i = 0
    · subst hn0
      simp [maxB, whole_eq (bs := b4) (w := w) (show 0 ≤ 16777216 by omega), carry_eq (bs := b4) (w := w) (show 0 ≤ 16777216 by omega)]
      exact hQ _ _ rfl
    · simp [hn0, whole_eq (bs := b4) (w := w) (show i ≤ 16777216 by omega), carry_eq (bs := b4) (w := w) (show i ≤ 16777216 by omega)]
      exact hQ _ _ rfl

theorem packed_law {h : Heap} {vL vOf : Value} {cs os : List (BitVec 64)} {nL nO : Nat} (rL : ArgS h vL (cs.map wv)) (rO : ArgS h vOf (os.map wv)) (eL : cs.length = nL) (eO : os.length = nO) (yL : nL * 8 ≤ 140737488351232) (yO : nO * 8 ≤ 140737488351232) (width : Int) {c lo hi : Int} (wc : (Lit.int .u64 c).wf = true) (wl : (Lit.int .u64 lo).wf = true) (wh : (Lit.int .u64 hi).wf = true) :
    Gives P T (.fn F_colonnadelaw03_LanesPacked) [.agg #[vL, .int .i64 width, .int .u64 c, .int .u64 lo, .int .u64 hi, vOf]] h fun r _ => r = .bool true := by
  obtain ⟨c, rfl⟩ := u64_of wc
  obtain ⟨lo, rfl⟩ := u64_of wl
  obtain ⟨hi, rfl⟩ := u64_of wh
  exact packed_spec rL rO (by omega) (by omega) width c lo hi

end Go.Ax
