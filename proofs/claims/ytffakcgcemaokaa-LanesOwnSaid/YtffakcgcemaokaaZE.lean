/- Seat lanes: a set gathered from the words' marks. -/
import Derived.Test.YtffakcgcemaokaaZD
import Derived.Test.YtffakcgcemaokaaYN
namespace Go.Ax
set_option linter.unusedVariables false
set_option linter.unusedSimpArgs false

theorem ln_spread {c : BitVec 64} {w l : Nat} (h1 : 1 ≤ w) (h2 : w ≤ 64) (hl : l < lc w) (hv : ∀ j, w ≤ j → c.getLsbD j = false) : ln w (spreadB c w).toNat l = c.toNat := by
  apply Nat.eq_of_testBit_eq
  intro j
  rw [ln_bit]
  by_cases hj : j < w
  · have := lane_lt hl hj
    have := @lc_le w
    show (_ && (spreadB c w).getLsbD (w * l + j)) = c.getLsbD j
    have h3 : w * l + j < 64 := by omega
    rw [spreadB, bvOf_bit _ _ _ (by omega), lane_mod hj]
    simp [hj, lane_lt hl hj, h3]
  · have := hv j (by omega)
    show _ = c.getLsbD j
    simp [hj, this]

theorem ofNat_toNat64 (x : BitVec 64) : BitVec.ofNat 64 x.toNat = x := by simp

theorem wi_lt_iff {a b : BitVec 64} : wi a < wi b ↔ a.toNat < b.toNat := by unfold wi; omega
theorem wi_le_iff {a b : BitVec 64} : wi a ≤ wi b ↔ a.toNat ≤ b.toNat := by unfold wi; omega

theorem not_top {w l : Nat} {v : BitVec 64} (h1 : 1 ≤ w) (h2 : w ≤ 64) (hl : l < lc w) : (~~~ v &&& topsB w).getLsbD (w * l + (w - 1)) = !v.getLsbD (w * l + (w - 1)) := by
  have hb := lane_lt hl (show w - 1 < w by omega)
  have := @lc_le w
  have h3 : w * l + (w - 1) < 64 := by omega
  rw [BitVec.getLsbD_and, BitVec.getLsbD_not, (masks h1 h2).topNat hl (by omega)]
  simp [h3]

theorem tst_top {op : Int} {w l : Nat} {c x : BitVec 64} (o1 : 1 ≤ op) (o2 : op ≤ 6) (h1 : 1 ≤ w) (h2 : w ≤ 64) (hl : l < lc w) (hv : ∀ j, w ≤ j → c.getLsbD j = false) :
    (tstB op w (spreadB c w) x).getLsbD (w * l + (w - 1)) = stB op (BitVec.ofNat 64 (ln w x.toNat l)) c := by
  have hs := ln_spread h1 h2 hl hv
  have M := masks h1 h2
  have ht := ofNat_lane (x := x) h1 h2 hl
  have e1 : (BitVec.ofNat 64 (ln w x.toNat l) = c) ↔ ln w x.toNat l = c.toNat := by rw [← BitVec.toNat_inj, ht]
  have l1 : (wi (BitVec.ofNat 64 (ln w x.toNat l)) < wi c) ↔ ln w x.toNat l < c.toNat := by rw [wi_lt_iff, ht]
  have l2 : (wi (BitVec.ofNat 64 (ln w x.toNat l)) ≤ wi c) ↔ ln w x.toNat l ≤ c.toNat := by rw [wi_le_iff, ht]
  have l3 : (wi c < wi (BitVec.ofNat 64 (ln w x.toNat l))) ↔ c.toNat < ln w x.toNat l := by rw [wi_lt_iff, ht]
  have l4 : (wi c ≤ wi (BitVec.ofNat 64 (ln w x.toNat l))) ↔ c.toNat ≤ ln w x.toNat l := by rw [wi_le_iff, ht]
  have hop : op = 1 ∨ op = 2 ∨ op = 3 ∨ op = 4 ∨ op = 5 ∨ op = 6 := by omega
  rcases hop with rfl | rfl | rfl | rfl | rfl | rfl
  · simp only [tstB, stB, if_true, equal_top M x _ hl, hs]; rw [Bool.eq_iff_iff]; simp only [decide_eq_true_eq, e1]
  · simp [tstB, stB, not_top h1 h2 hl, equal_top M x _ hl, hs, e1]
  · simp [tstB, stB, below_top M x _ hl, hs, l1]
  · simp [tstB, stB, not_top h1 h2 hl, below_top M _ x hl, hs, l2]; rw [Bool.eq_iff_iff]; simp
  · simp [tstB, stB, below_top M _ x hl, hs, l3]
  · simp [tstB, stB, not_top h1 h2 hl, below_top M x _ hl, hs, l4]; rw [Bool.eq_iff_iff]; simp

theorem word_lane {bs : List (BitVec 8)} {w i l : Nat} (h1 : 1 ≤ w) (h2 : w ≤ 64) (hl : l < lc w) : BitVec.ofNat 64 (ln w (wordB bs (i * w)).toNat l) = laneB bs w (i + l) := by
  apply BitVec.eq_of_getLsbD_eq
  intro j hj
  have e : (BitVec.ofNat 64 (ln w (wordB bs (i * w)).toNat l)).getLsbD j = (ln w (wordB bs (i * w)).toNat l).testBit j := by
    show (BitVec.ofNat 64 (ln w (wordB bs (i * w)).toNat l)).toNat.testBit j = _
    rw [ofNat_lane h1 h2 hl]
  rw [e, ln_bit, laneB, bvOf_bit _ _ _ h2]
  by_cases hjw : j < w
  · have := lane_lt hl hjw
    have := @lc_le w
    have h3 : w * l + j < 64 := by omega
    show (_ && (wordB bs (i * w)).getLsbD (w * l + j)) = _
    rw [wordB, bvOf_bit _ _ _ (by omega)]
    simp only [hjw, h3, decide_true, Bool.true_and]
    congr 1
    rw [Nat.add_mul, Nat.mul_comm l w]; omega
  · simp [hjw]

/-- The marks of one word, cut behind the last number. -/
theorem marks_bit {bs : List (BitVec 8)} {w i l : Nat} {op : Int} {c : BitVec 64} (o1 : 1 ≤ op) (o2 : op ≤ 6) (h1 : 1 ≤ w) (h2 : w ≤ 64) (hv : ∀ j, w ≤ j → c.getLsbD j = false) :
    (marksB (tstB op w (spreadB c w) (wordB bs (i * w))) w).getLsbD l = (decide (l < lc w) && stB op (laneB bs w (i + l)) c) := by
  rw [marksB, bvOf_bit _ _ _ (@lc_64 w)]
  by_cases hl : l < lc w
  · rw [tst_top o1 o2 h1 h2 hl hv, word_lane h1 h2 hl]
  · simp [hl]

def gF (bs : List (BitVec 8)) (w n : Nat) (op : Int) (c : BitVec 64) (j : Nat) : Bool := decide (j < n) && stB op (laneB bs w j) c

/-- The loop's step, bit by bit. -/
theorem gather_bit {F : Nat → Bool} {ws : List (BitVec 64)} {x : BitVec 64} {i k n : Nat} (hk : k ≤ 64) (hx : ∀ l, x.getLsbD l = (decide (l < k) && F (i + l))) (hF : ∀ j, n ≤ j → F j = false)
    (hw : ∀ j, bit ws j = (decide (j < i) && F j)) {d m : Nat} (hd : i / 64 = d) (hm : i % 64 = m) (hl : d < ws.length) (hn : n ≤ 64 * ws.length) :
    (k + m ≤ 64 ∨ ws.length ≤ d + 1 → ∀ j, bit (ws.set d (word ws d ||| x <<< m)) j = (decide (j < i + k) && F j)) ∧
    (64 < k + m → d + 1 < ws.length → ∀ j, bit ((ws.set d (word ws d ||| x <<< m)).set (d + 1) (word (ws.set d (word ws d ||| x <<< m)) (d + 1) ||| x >>> (64 - m))) j = (decide (j < i + k) && F j)) := by
  constructor
  · intro hc j
    rw [or_low hd hm hl, hw]
    by_cases h1 : j < i
    · have h2 : ¬ i ≤ j := by omega
      have h3 : j < i + k := by omega
      simp [h1, h2, h3]
    · by_cases h2 : j < i + k
      · rw [hx, show i + (j - i) = j by omega]
        by_cases h3 : j / 64 = d
        · have h4 : i ≤ j := by omega
          have h5 : j - i < k := by omega
          simp [h1, h2, h3, h4, h5]
        · rw [hF j (by omega)]; simp
      · have h5 : ¬ j - i < k := by omega
        rw [hx]; simp [h1, h2, h5]
  · intro hc hd1 j
    rw [or_high hd hm (by omega) (by simpa using hd1), or_low hd hm hl, hw]
    by_cases h1 : j < i
    · have h2 : ¬ i ≤ j := by omega
      have h3 : j < i + k := by omega
      have h4 : ¬ j / 64 = d + 1 := by omega
      simp [h1, h2, h3, h4]
    · by_cases h2 : j < i + k
      · rw [hx, show i + (j - i) = j by omega]
        have h4 : i ≤ j := by omega
        have h5 : j - i < k := by omega
        by_cases h3 : j / 64 = d
        · simp [h1, h2, h3, h4, h5]
        · have h6 : j / 64 = d + 1 := by omega
          simp [h1, h2, h4, h5, h6]
      · have h5 : ¬ j - i < k := by omega
        rw [hx]; simp [h1, h2, h5]

theorem and_mask {x : BitVec 64} {s : Nat} (hs : s < 64) (l : Nat) : (x &&& (1#64 <<< s - 1#64)).getLsbD l = (x.getLsbD l && decide (l < s)) := by
  by_cases h : l < 64
  · rw [BitVec.getLsbD_and, mask_bit s l hs h]
  · rw [BitVec.getLsbD_of_ge _ _ (by omega), BitVec.getLsbD_of_ge x _ (by omega)]; simp

theorem gather_spec {h : Heap} {v : Value} {bs : List (BitVec 8)} (r : Bytes h v bs) {w n : Nat} {op : Int} {c : BitVec 64} {p1 p2 p3 p4 : Nat} (h1 : 1 ≤ w) (h2 : w ≤ 64) (hn : n ≤ 16777216) (hl : bs.length ≤ 1000000000000000)
    (cap : Caps h p1 p2 p3 p4 w op (spreadB c w)) (o1 : 1 ≤ op) (o2 : op ≤ 6) (hv : ∀ j, w ≤ j → c.getLsbD j = false) :
    Gives P T (.fn F_lanes_gather) [v, .int .i64 w, .int .i64 n, .func (.func F_lanes_stands_1) #[] #[cp p1, cp p2, cp p3, cp p4]] h fun r h' => ∃ p q ws, r = .tuple #[ptr p, .int .i64 0] ∧ SetAt h' p q n ws ∧ Canon n ws ∧
      (∀ i, bit ws i = gF bs w n op c i) ∧ Grow h h' ∧ h.dyn.length ≤ p ∧ h.dyn.length ≤ q := by
  refine gives_by t_lanes_gather (by simp [c_lanes_gather]) fun Q hQ => ?_
  have hw0 : ¬ w = 0 := by omega
  have hlc := @lc_le w
  have hl64 := @lc_64 w
  have hk1 : 1 ≤ lc w := by unfold lc; exact (Nat.le_div_iff_mul_le (by omega)).2 (by omega)
  have e0 : IntKind.i64.wrap ((n : Int) + 63) = ((n + 63 : Nat) : Int) := by rw [wrap_i64 (by omega) (by omega)]; omega
  have e1 := tdiv_nat (n + 63) 64
  obtain ⟨W, hW⟩ : ∃ W, (n + 63) / 64 = W := ⟨_, rfl⟩
  rw [hW] at e1
  obtain ⟨n63, hn63⟩ : ∃ x, n + 63 = x := ⟨_, rfl⟩
  rw [hn63] at e0 e1
  simp only [Int.cast_ofNat_Int] at e1
  have e2 : IntKind.i64.wrap (W : Int) = W := wrap_i64 (by omega) (by omega)
  simp [c_lanes_gather, hw0, lc_div h1, lc_wrap, e0, e1, e2, mkS_nat (h := h) (bytes := 8) (n := W) (z := .int .u64 0) (by omega) (by omega)]
  obtain ⟨k, hk⟩ : ∃ k, lc w = k := ⟨_, rfl⟩
  rw [hk] at hk1 hl64 hlc ⊢
  have ez : (List.replicate W (0 : BitVec 64)).map wv = List.replicate W (.int .u64 0) := by simp [wv]
  have row0 : RowAt (hnew h (List.replicate W (.int .u64 0)) 1) h.dyn.length 0 1 ((List.replicate W (0 : BitVec 64)).map wv) := by rw [ez]; exact RowAt.new _ _ _
  refine go_loopK (fun kk ks h2 => ∃ (i : Nat) (ws : List (BitVec 64)), kk = n + 64 - i ∧ i ≤ n + 63 ∧ ks = [(0, v), (1, .int .i64 w), (2, .int .i64 n), (3, .func (.func F_lanes_stands_1) #[] #[cp p1, cp p2, cp p3, cp p4]), (10, .slice (some ⟨h.dyn.length, 0, some 0⟩) W W), (11, .int .i64 k), (12, .int .i64 i)] ∧
    ws.length = W ∧ (∀ j, bit ws j = (decide (j < i) && gF bs w n op c j)) ∧ RowAt h2 h.dyn.length 0 1 (ws.map wv) ∧ Grow h h2) (n := n + 64)
    ⟨0, List.replicate W 0, rfl, by omega, rfl, by simp, fun j => ?_, row0, Grow.new _ _ _⟩ (by simp) ?_
  · have : bit (List.replicate W 0) j = false := by
      have : word (List.replicate W 0) (j / 64) = 0#64 := by
        unfold word
        rw [List.getD_eq_getElem?_getD, List.getElem?_replicate]
        split <;> rfl
      unfold bit; rw [this]; simp
    rw [this]; simp
  rintro I hI kk ks e h3 ⟨i, ws, rfl, hi, rfl, hwl, hw, row, g⟩
  simp
  refine branch_dec (fun hlt => ?_) (fun hge => ?_)
  · have hin : i < n := by omega
    obtain ⟨s, hs⟩ : ∃ s, i * w = s := ⟨_, rfl⟩
    have hsb : s ≤ 64 * 16777216 := by rw [← hs]; have := Nat.mul_le_mul (by omega : i ≤ 16777216) h2; omega
    have f0 : (i : Int) * w = (s : Int) := by rw [← hs, Int.natCast_mul]
    have f1 : IntKind.i64.wrap (s : Int) = s := wrap_i64 (by omega) (by omega)
    have f2 : IntKind.i64.wrap ((n : Int) - i) = ((n - i : Nat) : Int) := by rw [wrap_i64 (by omega) (by omega)]; omega
    have a1 := tmod_nat i 64
    have a2 := tdiv_nat i 64
    obtain ⟨m, hm⟩ : ∃ m, i % 64 = m := ⟨_, rfl⟩
    obtain ⟨d, hd⟩ : ∃ d, i / 64 = d := ⟨_, rfl⟩
    rw [hm] at a1
    rw [hd] at a2
    simp only [Int.cast_ofNat_Int] at a1 a2
    have a3 : IntKind.i64.wrap (d : Int) = d := wrap_i64 (by omega) (by omega)
    have hdW : d < W := by omega
    have hdl : d < ws.length := by omega
    simp [f0, f1]
    refine got_call (Word_spec (r.grow g) hl (by omega)) ?_
    rintro _ _ ⟨rfl, rfl⟩
    rename_i h3
    simp
    have hcap := cap.chg g ⟨id, id, id, id⟩
    refine got_call (stands1_spec hcap h1 h2) ?_
    rintro _ _ ⟨rfl, rfl⟩
    rename_i h3
    simp
    refine got_call (marks_spec h1 h2) ?_
    rintro _ _ ⟨rfl, rfl⟩
    rename_i h3
    have hmb := fun l => marks_bit (bs := bs) (i := i) (l := l) o1 o2 h1 h2 hv
    rw [hs] at hmb
    obtain ⟨x0, hx0⟩ : ∃ x, marksB (tstB op w (spreadB c w) (wordB bs s)) w = x := ⟨_, rfl⟩
    rw [hx0, hk] at hmb
    rw [hx0]
    have b1 : IntKind.i64.wrap ((i : Int) + k) = ((i + k : Nat) : Int) := by rw [wrap_i64 (by omega) (by omega)]; omega
    obtain ⟨left, hleft⟩ : ∃ x, n - i = x := ⟨_, rfl⟩
    rw [hleft] at f2
    obtain ⟨x, hx, hA, hB⟩ : ∃ x : BitVec 64, (∀ l, x.getLsbD l = (decide (l < k) && gF bs w n op c (i + l))) ∧ (left < k → x0 &&& (1#64 <<< left - 1#64) = x) ∧ (¬ left < k → x0 = x) := by
      by_cases h5 : left < k
      · refine ⟨_, fun l => ?_, fun _ => rfl, fun h => absurd h5 h⟩
        rw [and_mask (by omega), hmb]
        unfold gF
        by_cases h6 : l < left
        · have h7 : i + l < n := by omega
          simp [h6, h7]
        · have h7 : ¬ i + l < n := by omega
          simp [h6, h7]
      · refine ⟨x0, fun l => ?_, fun h => absurd h h5, fun _ => rfl⟩
        rw [hmb]
        unfold gF
        by_cases h6 : l < k
        · have h7 : i + l < n := by omega
          simp [h6, h7]
        · simp [h6]
    have hgb := gather_bit (k := k) (n := n) (by omega) hx (fun j hj => by unfold gF; simp; omega) hw hd hm hdl (by omega)
    obtain ⟨h4, e4, row4, c4, n4⟩ := row.store (i := d) (by simpa using hdl) (x := .int .u64 (wi (word ws d ||| x <<< m))) (by simp)
    rw [wv_set] at row4
    have g4 : Grow h h4 := g.after c4 fun n hn hb => by omega
    have b2 : IntKind.i64.wrap ((m : Int) + k) = ((m + k : Nat) : Int) := by rw [wrap_i64 (by omega) (by omega)]; omega
    obtain ⟨mk, hmk⟩ : ∃ x, m + k = x := ⟨_, rfl⟩
    rw [hmk] at b2
    have b3 : IntKind.i64.wrap ((mk : Int) - 64) = (mk : Int) - 64 := wrap_i64 (by omega) (by omega)
    have hnext : ∀ (ws' : List (BitVec 64)) (h' : Heap), ws'.length = W → (∀ j, bit ws' j = (decide (j < i + k) && gF bs w n op c j)) → RowAt h' h.dyn.length 0 1 (ws'.map wv) → Grow h h' → ∃ (i' : Nat) (ws : List (BitVec 64)), n + 64 - (i + k) = n + 64 - i' ∧ i' ≤ n + 63 ∧ ([(0, v), (1, .int .i64 w), (2, .int .i64 n), (3, .func (.func F_lanes_stands_1) #[] #[cp p1, cp p2, cp p3, cp p4]), (10, .slice (some ⟨h.dyn.length, 0, some 0⟩) W W), (11, .int .i64 k), (12, .int .i64 ((i + k : Nat) : Int))] : List (Nat × Value)) = [(0, v), (1, .int .i64 w), (2, .int .i64 n), (3, .func (.func F_lanes_stands_1) #[] #[cp p1, cp p2, cp p3, cp p4]), (10, .slice (some ⟨h.dyn.length, 0, some 0⟩) W W), (11, .int .i64 k), (12, .int .i64 i')] ∧
        ws.length = W ∧ (∀ j, bit ws j = (decide (j < i') && gF bs w n op c j)) ∧ RowAt h' h.dyn.length 0 1 (ws.map wv) ∧ Grow h h' :=
      fun ws' h' q1 q2 q3 q4 => ⟨i + k, ws', rfl, by omega, rfl, q1, q2, q3, q4⟩
    simp [f2]
    refine branch_dec (fun hlf => ?_) (fun hlf => ?_)
    · have hA' := hA (by omega)
      simp [hA', a1, a2, a3, hdW, row.get (wv_get hdl), e4, b2, b3]
      by_cases hov : 64 < k + m
      · have hov' : (64 : Int) < mk := by omega
        have b4 : IntKind.i64.wrap ((d : Int) + 1) = ((d + 1 : Nat) : Int) := by rw [wrap_i64 (by omega) (by omega)]; omega
        obtain ⟨d1, hd1⟩ : ∃ x, d + 1 = x := ⟨_, rfl⟩
        rw [hd1] at b4
        have b5 : IntKind.i64.wrap ((k : Int) - ((mk : Int) - 64)) = ((64 - m : Nat) : Int) := by rw [wrap_i64 (by omega) (by omega)]; omega
        obtain ⟨m1, hm1⟩ : ∃ x, 64 - m = x := ⟨_, rfl⟩
        rw [hm1] at b5
        by_cases hd2 : d1 < W
        · have hdl2 : d1 < (ws.set d (word ws d ||| x <<< m)).length := by simp; omega
          obtain ⟨h5, e5, row5, c5, n5⟩ := row4.store (i := d1) (by simpa using hdl2) (x := .int .u64 (wi (word (ws.set d (word ws d ||| x <<< m)) d1 ||| x >>> m1))) (by simp)
          rw [wv_set] at row5
          have hgl := row4.get (wv_get hdl2)
          have hbits := hgb.2 hov (by omega)
          rw [hd1, hm1] at hbits
          simp [hov', a1, a2, a3, b4, b5, hd2, hgl, e5, b1]
          exact ⟨n + 64 - (i + k), by omega, hI _ _ _ _ (hnext _ _ (by simpa using hwl) hbits row5 (g4.after c5 fun n hn hb => by omega)) (by simp)⟩
        · have hbits := hgb.1 (.inr (by omega))
          simp [hov', a1, a2, a3, b4, hd2, skipV, b1]
          exact ⟨n + 64 - (i + k), by omega, hI _ _ _ _ (hnext _ _ (by simpa using hwl) hbits row4 g4) (by simp)⟩
      · have hov' : ¬ (64 : Int) < mk := by omega
        have hbits := hgb.1 (.inl (by omega))
        simp [hov', skipV, b1]
        exact ⟨n + 64 - (i + k), by omega, hI _ _ _ _ (hnext _ _ (by simpa using hwl) hbits row4 g4) (by simp)⟩
    · obtain rfl := hB (by omega)
      simp [a1, a2, a3, hdW, row.get (wv_get hdl), e4, b2, b3]
      by_cases hov : 64 < k + m
      · have hov' : (64 : Int) < mk := by omega
        have b4 : IntKind.i64.wrap ((d : Int) + 1) = ((d + 1 : Nat) : Int) := by rw [wrap_i64 (by omega) (by omega)]; omega
        obtain ⟨d1, hd1⟩ : ∃ x, d + 1 = x := ⟨_, rfl⟩
        rw [hd1] at b4
        have b5 : IntKind.i64.wrap ((k : Int) - ((mk : Int) - 64)) = ((64 - m : Nat) : Int) := by rw [wrap_i64 (by omega) (by omega)]; omega
        obtain ⟨m1, hm1⟩ : ∃ x, 64 - m = x := ⟨_, rfl⟩
        rw [hm1] at b5
        by_cases hd2 : d1 < W
        · have hdl2 : d1 < (ws.set d (word ws d ||| x0 <<< m)).length := by simp; omega
          obtain ⟨h5, e5, row5, c5, n5⟩ := row4.store (i := d1) (by simpa using hdl2) (x := .int .u64 (wi (word (ws.set d (word ws d ||| x0 <<< m)) d1 ||| x0 >>> m1))) (by simp)
          rw [wv_set] at row5
          have hgl := row4.get (wv_get hdl2)
          have hbits := hgb.2 hov (by omega)
          rw [hd1, hm1] at hbits
          simp [hov', a1, a2, a3, b4, b5, hd2, hgl, e5, b1]
          exact ⟨n + 64 - (i + k), by omega, hI _ _ _ _ (hnext _ _ (by simpa using hwl) hbits row5 (g4.after c5 fun n hn hb => by omega)) (by simp)⟩
        · have hbits := hgb.1 (.inr (by omega))
          simp [hov', a1, a2, a3, b4, hd2, skipV, b1]
          exact ⟨n + 64 - (i + k), by omega, hI _ _ _ _ (hnext _ _ (by simpa using hwl) hbits row4 g4) (by simp)⟩
      · have hov' : ¬ (64 : Int) < mk := by omega
        have hbits := hgb.1 (.inl (by omega))
        simp [hov', skipV, b1]
        exact ⟨n + 64 - (i + k), by omega, hI _ _ _ _ (hnext _ _ (by simpa using hwl) hbits row4 g4) (by simp)⟩
  · have hin : n ≤ i := by omega
    have hbits : ∀ j, bit ws j = gF bs w n op c j := fun j => by
      rw [hw]
      by_cases hj : j < i
      · simp [hj]
      · have h5 : ¬ j < n := by omega
        simp [gF, h5]
    have cn : Canon n ws := ⟨by omega, hn, fun j hj => by rw [hbits]; unfold gF; simp; omega⟩
    have wd : Words h3 (some ⟨h.dyn.length, 0, some 0⟩) W h.dyn.length ws := .inr ⟨0, rfl, row, by omega, by unfold gcap; omega⟩
    have hld := load_spec wd cn
    rw [hwl] at hld
    simp
    refine got_call hld ?_
    rintro _ h5 ⟨p5, q5, rfl, s5, g5, f5, f6⟩
    have := g.len
    simp
    exact hQ _ _ ⟨p5, q5, ws, rfl, s5, cn, hbits, g.trans g5, by omega, by omega⟩

end Go.Ax
