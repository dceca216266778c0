/- Seat lanes: the law of words. -/
import Derived.Test.YtffakcgcemaokaaZO
namespace Go.Ax
open Go.Proofs
set_option linter.unusedVariables false
set_option linter.unusedSimpArgs false

theorem equal_bit {w : Nat} (h1 : 1 ≤ w) (h2 : w ≤ 64) (x y : BitVec 64) (j : Nat) :
    (equalB (usedB w) (topsB w) x y).getLsbD j = (decide (j < w * lc w ∧ j % w = w - 1) && decide (ln w x.toNat (j / w) = ln w y.toNat (j / w))) := by
  by_cases h : j < w * lc w ∧ j % w = w - 1
  · have hl : j / w < lc w := Nat.div_lt_of_lt_mul h.1
    have e := Nat.div_add_mod j w
    rw [h.2] at e
    have := equal_top (masks h1 h2) x y hl
    rw [e] at this
    rw [this]; simp [h]
  · rw [equal_out (masks h1 h2) x y h]; simp [h]

theorem below_bit {w : Nat} (h1 : 1 ≤ w) (h2 : w ≤ 64) (x y : BitVec 64) (j : Nat) :
    (belowB (usedB w) (topsB w) x y).getLsbD j = (decide (j < w * lc w ∧ j % w = w - 1) && decide (ln w x.toNat (j / w) < ln w y.toNat (j / w))) := by
  by_cases h : j < w * lc w ∧ j % w = w - 1
  · have hl : j / w < lc w := Nat.div_lt_of_lt_mul h.1
    have e := Nat.div_add_mod j w
    rw [h.2] at e
    have := below_top (masks h1 h2) x y hl
    rw [e] at this
    rw [this]; simp [h]
  · rw [below_out (masks h1 h2) x y h]; simp [h]

/-- Other bits from bit K on. -/
theorem mix_ln {x b f : BitVec 64} {w K l : Nat} (hK : K ≤ 64) (hf : ∀ j, j < 64 → f.getLsbD j = decide (j < K)) (hl : w * l + w ≤ K) : ln w (x &&& f ||| b &&& ~~~ f).toNat l = ln w x.toNat l := by
  apply ln_eq
  intro j hj
  show (x &&& f ||| b &&& ~~~ f).getLsbD (w * l + j) = x.getLsbD (w * l + j)
  have : w * l + j < 64 := by omega
  have h2 : w * l + j < K := by omega
  simp only [BitVec.getLsbD_or, BitVec.getLsbD_and, BitVec.getLsbD_not, hf _ this, this, h2, decide_true, Bool.and_true, Bool.not_true, Bool.and_false, Bool.or_false]

theorem equal_first {w : Nat} (h1 : 1 ≤ w) (h2 : w < 64) {x b f : BitVec 64} (y : BitVec 64) (hf : ∀ j, j < 64 → f.getLsbD j = decide (j < w)) :
    equalB (usedB w) (topsB w) (x &&& f ||| b &&& ~~~ f) y &&& f = equalB (usedB w) (topsB w) x y &&& f := by
  apply BitVec.eq_of_getLsbD_eq
  intro j hj
  rw [BitVec.getLsbD_and, BitVec.getLsbD_and, equal_bit h1 (by omega), equal_bit h1 (by omega), hf j hj]
  by_cases h : j < w
  · rw [Nat.div_eq_of_lt h, mix_ln (K := w) (by omega) hf (by omega)]
  · simp [h]

theorem below_first {w : Nat} (h1 : 1 ≤ w) (h2 : w < 64) {x b f : BitVec 64} (y : BitVec 64) (hf : ∀ j, j < 64 → f.getLsbD j = decide (j < w)) :
    belowB (usedB w) (topsB w) (x &&& f ||| b &&& ~~~ f) y &&& f = belowB (usedB w) (topsB w) x y &&& f := by
  apply BitVec.eq_of_getLsbD_eq
  intro j hj
  rw [BitVec.getLsbD_and, BitVec.getLsbD_and, below_bit h1 (by omega), below_bit h1 (by omega), hf j hj]
  by_cases h : j < w
  · rw [Nat.div_eq_of_lt h, mix_ln (K := w) (by omega) hf (by omega)]
  · simp [h]

theorem lane_in {w j : Nat} (h1 : 1 ≤ w) (h : j < w * lc w) : w * (j / w) + w ≤ w * lc w := by
  have hl : j / w < lc w := Nat.div_lt_of_lt_mul h
  have := Nat.mul_le_mul_left w (show j / w + 1 ≤ lc w by omega)
  rw [Nat.mul_add] at this; omega

theorem equal_behind {w : Nat} (h1 : 1 ≤ w) (h2 : w ≤ 64) {x b f : BitVec 64} (y : BitVec 64) (hf : ∀ j, j < 64 → f.getLsbD j = decide (j < w * lc w)) :
    equalB (usedB w) (topsB w) (x &&& f ||| b &&& ~~~ f) y = equalB (usedB w) (topsB w) x y := by
  apply BitVec.eq_of_getLsbD_eq
  intro j hj
  rw [equal_bit h1 h2, equal_bit h1 h2]
  by_cases h : j < w * lc w
  · rw [mix_ln lc_le hf (lane_in h1 h)]
  · simp [h]

theorem below_behind {w : Nat} (h1 : 1 ≤ w) (h2 : w ≤ 64) {x b f : BitVec 64} (y : BitVec 64) (hf : ∀ j, j < 64 → f.getLsbD j = decide (j < w * lc w)) :
    belowB (usedB w) (topsB w) (x &&& f ||| b &&& ~~~ f) y = belowB (usedB w) (topsB w) x y := by
  apply BitVec.eq_of_getLsbD_eq
  intro j hj
  rw [below_bit h1 h2, below_bit h1 h2]
  by_cases h : j < w * lc w
  · rw [mix_ln lc_le hf (lane_in h1 h)]
  · simp [h]

/-- A word's lane. -/
def laneW (x : BitVec 64) (i w : Nat) : BitVec 64 := BitVec.ofNat 64 (ln w x.toNat i)

theorem laneW_nat {x : BitVec 64} {i w : Nat} (h2 : w ≤ 64) : (laneW x i w).toNat = ln w x.toNat i := by
  unfold laneW
  rw [BitVec.toNat_ofNat]
  exact Nat.mod_eq_of_lt (Nat.lt_of_lt_of_le (ln_lt _ _ _) (Nat.pow_le_pow_right (by omega) h2))

theorem laneW_bit {x : BitVec 64} {i w j : Nat} (h2 : w ≤ 64) : (laneW x i w).getLsbD j = (decide (j < w) && x.getLsbD (w * i + j)) := by
  show (laneW x i w).toNat.testBit j = _
  rw [laneW_nat h2, ln_bit]; rfl

theorem lane_spec {h : Heap} {x : BitVec 64} {i w : Nat} (h1 : 1 ≤ w) (h2 : w ≤ 64) (hi : i < lc w) :
    Gives P T (.fn F_colonnadelaw03_lane) [.int .u64 (wi x), .int .i64 i, .int .i64 w] h fun r h' => r = .int .u64 (wi (laneW x i w)) ∧ h' = h := by
  refine gives_by t_colonnadelaw03_lane (by simp [c_colonnadelaw03_lane]) fun Q hQ => ?_
  by_cases h64 : w = 64
  · subst h64
    have : i = 0 := by have : lc 64 = 1 := rfl; omega
    subst this
    simp [c_colonnadelaw03_lane]
    refine hQ _ _ ⟨?_, rfl⟩
    congr 2
    apply BitVec.eq_of_getLsbD_eq
    intro j hj
    rw [laneW_bit (by omega)]; simp [hj]
  · have h64' : ¬ (w : Int) = 64 := by omega
    have hl := @lc_le w
    have hs := lane_lt hi (show 0 < w by omega)
    obtain ⟨s, hs'⟩ : ∃ s, i * w = s := ⟨_, rfl⟩
    rw [Nat.mul_comm w i, hs'] at hs
    have f0 : (i : Int) * w = (s : Int) := by rw [← hs', Int.natCast_mul]
    have f1 : IntKind.i64.wrap (s : Int) = s := wrap_i64 (by omega) (by omega)
    have f2 : IntKind.u64.wrap (s : Int) = s := wrap_u64 (by omega) (by omega)
    have f3 : IntKind.u64.wrap (w : Int) = w := wrap_u64 (by omega) (by omega)
    simp [c_colonnadelaw03_lane, h64', h64, f0, f1, f2, f3]
    refine hQ _ _ ⟨?_, rfl⟩
    congr 2
    apply BitVec.eq_of_getLsbD_eq
    intro j hj
    rw [and_mask (by omega), laneW_bit h2, BitVec.getLsbD_ushiftRight, Nat.mul_comm w i, hs', Bool.and_comm]

theorem one_at (m : BitVec 64) (j : Nat) : ((m >>> j) &&& 1#64 = 1#64) ↔ m.getLsbD j = true := by
  constructor
  · intro h
    have := congrArg (fun x => x.getLsbD 0) h
    simpa using this
  · intro h
    apply BitVec.eq_of_getLsbD_eq
    intro k hk
    rw [BitVec.getLsbD_and, BitVec.getLsbD_ushiftRight]
    by_cases h0 : k = 0
    · subst h0; simp [h]
    · have : (1#64 : BitVec 64).getLsbD k = false := by simp [h0]
      rw [this]; simp

theorem alone_spec {h : Heap} {x y b : BitVec 64} {w : Nat} (h1 : 1 ≤ w) (h2 : w ≤ 64) :
    Gives P T (.fn F_colonnadelaw03_alone) [.int .u64 (wi x), .int .u64 (wi y), .int .u64 (wi b), .int .i64 w, .int .i64 (lc w : Nat)] h fun r h' => r = .bool true := by
  refine gives_by t_colonnadelaw03_alone (by simp [c_colonnadelaw03_alone]) fun Q hQ => ?_
  by_cases h64 : w = 64
  · subst h64
    simp [c_colonnadelaw03_alone]
    exact hQ _ _ rfl
  have h64' : ¬ (w : Int) = 64 := by omega
  have f3 : IntKind.u64.wrap (w : Int) = w := wrap_u64 (by omega) (by omega)
  simp [c_colonnadelaw03_alone, h64', h64, f3]
  have hf : ∀ j, j < 64 → (1#64 <<< w - 1#64).getLsbD j = decide (j < w) := fun j hj => mask_bit w j (by omega) hj
  have q1 := equal_first (x := x) (b := b) h1 (by omega) y hf
  have q2 := below_first (x := x) (b := b) h1 (by omega) y hf
  refine got_call (Equal_spec h1 h2) ?_
  rintro _ _ ⟨rfl, rfl⟩
  rename_i h
  simp
  refine got_call (Below_spec h1 h2) ?_
  rintro _ _ ⟨rfl, rfl⟩
  rename_i h
  simp
  refine got_call (Equal_spec h1 h2) ?_
  rintro _ _ ⟨rfl, rfl⟩
  rename_i h
  simp
  refine got_call (Below_spec h1 h2) ?_
  rintro _ _ ⟨rfl, rfl⟩
  rename_i h
  simp [q1, q2]
  have hl := @lc_le w
  obtain ⟨k, hk⟩ : ∃ k, lc w = k := ⟨_, rfl⟩
  obtain ⟨s, hs⟩ : ∃ s, k * w = s := ⟨_, rfl⟩
  have hs2 : w * lc w = s := by rw [hk, Nat.mul_comm, hs]
  rw [hs2] at hl
  have f0 : (k : Int) * w = (s : Int) := by rw [← hs, Int.natCast_mul]
  have f1 : IntKind.i64.wrap (s : Int) = s := wrap_i64 (by omega) (by omega)
  have f2 : IntKind.u64.wrap (s : Int) = s := wrap_u64 (by omega) (by omega)
  simp [hk, f0, f1, f2]
  have tail : ∀ (f : BitVec 64), (∀ j, j < 64 → f.getLsbD j = decide (j < s)) → equalB (usedB w) (topsB w) (x &&& f ||| b &&& ~~~ f) y = equalB (usedB w) (topsB w) x y ∧ belowB (usedB w) (topsB w) (x &&& f ||| b &&& ~~~ f) y = belowB (usedB w) (topsB w) x y :=
    fun f hf => ⟨equal_behind h1 h2 y (by rw [hs2]; exact hf), below_behind h1 h2 y (by rw [hs2]; exact hf)⟩
  by_cases hs64 : s < 64
  · have hs64' : (s : Int) < 64 := by omega
    obtain ⟨t1, t2⟩ := tail (1#64 <<< s - 1#64) fun j hj => mask_bit s j hs64 hj
    simp [hs64, hs64', f0, f1, f2]
    refine got_call (Equal_spec h1 h2) ?_
    rintro _ _ ⟨rfl, rfl⟩
    rename_i h
    simp
    refine got_call (Below_spec h1 h2) ?_
    rintro _ _ ⟨rfl, rfl⟩
    rename_i h
    simp [t1, t2]
    exact hQ _ _ rfl
  · have hs64' : ¬ (s : Int) < 64 := by omega
    obtain ⟨t1, t2⟩ := tail (18446744073709551615#64) fun j hj => by
      have : j < s := by omega
      rw [show (18446744073709551615#64 : BitVec 64) = BitVec.allOnes 64 from rfl, BitVec.getLsbD_allOnes]; simp [this, hj]
    simp at t1 t2
    simp [hs64, hs64']
    refine got_call (Equal_spec h1 h2) ?_
    rintro _ _ ⟨rfl, rfl⟩
    rename_i h
    simp
    refine got_call (Below_spec h1 h2) ?_
    rintro _ _ ⟨rfl, rfl⟩
    rename_i h
    simp [t1, t2]
    exact hQ _ _ rfl


theorem words_law_spec {h : Heap} {x y b : BitVec 64} {width : Int} :
    Gives P T (.fn F_colonnadelaw03_LanesWords) [.agg #[.int .u64 (wi x), .int .u64 (wi y), .int .u64 (wi b), .int .i64 width]] h fun r h' => r = .bool true := by
  refine gives_by t_colonnadelaw03_LanesWords (by simp [c_colonnadelaw03_LanesWords]) fun Q hQ => ?_
  simp [c_colonnadelaw03_LanesWords]
  have rb := RowAt.new h [.int .u64 (wi x), .int .u64 (wi y), .int .u64 (wi b), .int .i64 width] 0
  simp [rb.get (i := 0) rfl, rb.get (i := 1) rfl, rb.get (i := 2) rfl, rb.get (i := 3) rfl]
  refine got_call known_spec ?_
  rintro _ h2 ⟨rfl, g2⟩
  simp
  by_cases hr : 1 ≤ width ∧ width ≤ 64
  · obtain ⟨w, rfl⟩ : ∃ w : Nat, width = w := ⟨width.toNat, by omega⟩
    have h1 : 1 ≤ w := by omega
    have h2' : w ≤ 64 := by omega
    refine got_call (Equal_spec h1 h2') ?_
    rintro _ _ ⟨rfl, rfl⟩
    rename_i h2
    simp
    refine got_call (Below_spec h1 h2') ?_
    rintro _ _ ⟨rfl, rfl⟩
    rename_i h2
    have n1 : ¬ (w : Int) < 1 := by omega
    have n2 : ¬ (64 : Int) < w := by omega
    have n3 : ¬ w = 0 := by omega
    have n4 : ¬ 64 < w := by omega
    have hl0 : 0 < lc w := by unfold lc; exact Nat.div_pos h2' (by omega)
    simp [n1, n2, n3, n4]
    refine got_call (Marks_spec h1 h2') ?_
    rintro _ _ ⟨rfl, rfl⟩
    rename_i h2
    simp
    refine got_call (Marks_spec h1 h2') ?_
    rintro _ _ ⟨rfl, rfl⟩
    rename_i h2
    simp
    have l0 := @lane_spec h2 y 0 w h1 h2' hl0
    refine got_call l0 ?_
    rintro _ _ ⟨rfl, rfl⟩
    rename_i h2
    simp
    have hv : 64 ≤ w ∨ laneW y 0 w >>> w = 0#64 := by
      right
      apply BitVec.eq_of_getLsbD_eq
      intro j hj
      rw [BitVec.getLsbD_ushiftRight, laneW_bit h2']; simp; intro h; omega
    refine got_call (Spread_spec h1 h2' hv) ?_
    rintro _ _ ⟨rfl, rfl⟩
    rename_i h2
    obtain ⟨me, hme⟩ : ∃ m, marksB (equalB (usedB w) (topsB w) x y) w = m := ⟨_, rfl⟩
    obtain ⟨mb, hmb⟩ : ∃ m, marksB (belowB (usedB w) (topsB w) x y) w = m := ⟨_, rfl⟩
    obtain ⟨sp, hsp⟩ : ∃ m, spreadB (laneW y 0 w) w = m := ⟨_, rfl⟩
    obtain ⟨v, hv'⟩ : ∃ v, laneW y 0 w = v := ⟨_, rfl⟩
    have bme : ∀ j, me.getLsbD j = (decide (j < lc w) && decide (laneW x j w = laneW y j w)) := by
      intro j
      by_cases hj : j < lc w
      · have hj64 : j < 64 := by have := @lc_64 w; omega
        rw [← hme, marksB, bvOf_bit _ _ _ (by exact lc_64), equal_top (masks h1 h2') x y hj]
        simp [hj]
        rw [← BitVec.toNat_inj, laneW_nat h2', laneW_nat h2']
      · rw [← hme, marksB, bvOf_bit _ _ _ (by exact lc_64)]; simp [hj]
    have bmb : ∀ j, mb.getLsbD j = (decide (j < lc w) && decide (wi (laneW x j w) < wi (laneW y j w))) := by
      intro j
      by_cases hj : j < lc w
      · rw [← hmb, marksB, bvOf_bit _ _ _ (by exact lc_64), below_top (masks h1 h2') x y hj]
        simp only [hj, decide_true, Bool.true_and, wi_lt_iff, laneW_nat h2']
      · rw [← hmb, marksB, bvOf_bit _ _ _ (by exact lc_64)]; simp [hj]
    have bsp : ∀ j, j < lc w → laneW sp j w = v := by
      intro j hj
      apply BitVec.eq_of_getLsbD_eq
      intro k hk
      rw [laneW_bit h2', ← hv', laneW_bit h2', ← hsp, spreadB, bvOf_bit _ _ _ (by omega)]
      by_cases hkw : k < w
      · have a1 := lane_lt hj hkw
        have a2 := @lc_le w
        have a3 : w * j + k < 64 := by omega
        rw [lane_mod hkw, laneW_bit h2']
        simp [hkw, a1, a3]
      · simp [hkw]
    rw [hme, hmb, hsp, hv']
    simp [lc_div h1, lc_wrap, n3]
    obtain ⟨K, hK⟩ : ∃ K, lc w = K := ⟨_, rfl⟩
    have hK64 : K ≤ 64 := by rw [← hK]; exact lc_64
    rw [hK] at bme bmb bsp
    refine go_loopK (fun k ks hh => ∃ (j : Nat), k = 64 - j ∧ j ≤ 64 ∧ ks = [(3, .int .u64 (wi x)), (4, .int .u64 (wi y)), (5, .int .u64 (wi b)), (6, .int .i64 w), (11, .int .u64 (wi me)), (13, .int .u64 (wi mb)), (15, .int .u64 (wi v)), (16, .int .u64 (wi sp)), (18, .int .i64 K), (19, .int .i64 j)] ∧ hh = h2) (n := 64)
      ⟨0, rfl, by omega, rfl, rfl⟩ (by simp [hK]) ?_
    rintro I hI k ks e h3 ⟨j, rfl, hj, rfl, rfl⟩
    simp
    by_cases hj64 : j < 64
    · have hj64' : (j : Int) < 64 := by omega
      have e4 : IntKind.i64.wrap ((j : Int) + 1) = ((j + 1 : Nat) : Int) := by rw [wrap_i64 (by omega) (by omega)]; omega
      have f2 : IntKind.u64.wrap (j : Int) = j := wrap_u64 (by omega) (by omega)
      have q1 : (me >>> j &&& 1#64 = 1#64) ↔ (j < K ∧ laneW x j w = laneW y j w) := by rw [one_at, bme]; simp
      have q2 : (mb >>> j &&& 1#64 = 1#64) ↔ (j < K ∧ wi (laneW x j w) < wi (laneW y j w)) := by rw [one_at, bmb]; simp
      by_cases hjK : j < K
      · have nK : ¬ K ≤ j := by omega
        simp [hj64, hj64', f2, q1, q2, hjK, nK]
        have L := fun x => @lane_spec h3 x j w h1 h2' (by omega)
        refine got_call (L x) ?_
        rintro _ _ ⟨rfl, rfl⟩
        rename_i h3
        simp
        refine got_call (L y) ?_
        rintro _ _ ⟨rfl, rfl⟩
        rename_i h3
        simp
        refine got_call (L x) ?_
        rintro _ _ ⟨rfl, rfl⟩
        rename_i h3
        simp
        refine got_call (L y) ?_
        rintro _ _ ⟨rfl, rfl⟩
        rename_i h3
        simp
        refine got_call (L sp) ?_
        rintro _ _ ⟨rfl, rfl⟩
        rename_i h3
        simp [bsp j hjK, e4]
        exact ⟨64 - (j + 1), by omega, hI _ _ _ _ ⟨j + 1, rfl, by omega, rfl, rfl⟩ (by simp)⟩
      · have nK : K ≤ j := by omega
        simp [hj64, hj64', f2, q1, q2, hjK, nK, e4]
        exact ⟨64 - (j + 1), by omega, hI _ _ _ _ ⟨j + 1, rfl, by omega, rfl, rfl⟩ (by simp)⟩
    · have hj64' : ¬ (j : Int) < 64 := by omega
      simp [hj64, hj64']
      rw [← hK]
      refine got_call (alone_spec h1 h2') ?_
      rintro _ _ rfl
      simp
      exact hQ _ _ rfl
  · refine got_call (Equal_bad hr) ?_
    rintro _ _ ⟨rfl, rfl⟩
    rename_i h2
    simp
    refine got_call (Below_bad hr) ?_
    rintro _ _ ⟨rfl, rfl⟩
    rename_i h2
    by_cases h1 : width < 1
    · simp [h1, skipV]
      exact hQ _ _ rfl
    · have h3 : 64 < width := by omega
      simp [h1, h3]
      exact hQ _ _ rfl

theorem words_law {h : Heap} {x y b : Int} {width : Int} (wx : (Lit.int .u64 x).wf = true) (wy : (Lit.int .u64 y).wf = true) (wb : (Lit.int .u64 b).wf = true) :
    Gives P T (.fn F_colonnadelaw03_LanesWords) [.agg #[.int .u64 x, .int .u64 y, .int .u64 b, .int .i64 width]] h fun r h' => r = .bool true := by
  obtain ⟨x, rfl⟩ := u64_of wx
  obtain ⟨y, rfl⟩ := u64_of wy
  obtain ⟨b, rfl⟩ := u64_of wb
  exact words_law_spec

end Go.Ax
