/- Seat bits: Select. -/
import Derived.Test.YtpemffaclmpnnaaDoorYI
namespace Go.Ax
set_option linter.unusedVariables false
set_option linter.unusedSimpArgs false

theorem low_form {x : BitVec 64} {j : Nat} (h1 : x.getLsbD j = true) (h0 : ∀ i, i < j → x.getLsbD i = false) : ∃ m, x.toNat = 2 ^ j * (2 * m + 1) := by
  have hlow : x.toNat % 2 ^ j = 0 := by
    apply Nat.eq_of_testBit_eq
    intro i
    rw [Nat.testBit_mod_two_pow, Nat.zero_testBit]
    by_cases hi : i < j
    · have := h0 i hi
      simp only [BitVec.getLsbD] at this
      simp [this]
    · simp [hi]
  have hbit : (x.toNat / 2 ^ j) % 2 = 1 := by
    have h2 : (x.toNat / 2 ^ j).testBit 0 = true := by
      rw [Nat.testBit_div_two_pow]
      simpa [BitVec.getLsbD] using h1
    simpa [Nat.testBit_zero] using h2
  refine ⟨x.toNat / 2 ^ j / 2, ?_⟩
  have a1 := Nat.div_add_mod x.toNat (2 ^ j)
  rw [hlow, Nat.add_zero] at a1
  have a2 : 2 * (x.toNat / 2 ^ j / 2) + 1 = x.toNat / 2 ^ j := by omega
  rw [a2]; exact a1.symm

/-- A word without its lowest one. -/
theorem and_pred {x : BitVec 64} {j : Nat} (hj : j < 64) (h1 : x.getLsbD j = true) (h0 : ∀ i, i < j → x.getLsbD i = false) (b : Nat) : (x &&& (x - 1#64)).getLsbD b = (x.getLsbD b && decide (b ≠ j)) := by
  obtain ⟨m, hm⟩ := low_form h1 h0
  have hp := Nat.two_pow_pos j
  have hx := x.isLt
  have hpred : (x - 1#64).toNat = (2 ^ j - 1) + 2 ^ j * (2 * m) := by
    rw [BitVec.toNat_sub, hm]
    have : 0 < 2 ^ j * (2 * m + 1) := Nat.mul_pos hp (by omega)
    have e : 2 ^ j * (2 * m + 1) = 2 ^ j * (2 * m) + 2 ^ j := by rw [Nat.mul_succ]
    simp
    omega
  have hand : (x &&& (x - 1#64)).toNat = 2 ^ j * (2 * m) := by
    rw [BitVec.toNat_and, hpred, hm]
    have k1 := and_split (k := j) (A := 0) (C := 2 ^ j - 1) (Y := 2 * m + 1) (Z := 2 * m) hp (by omega)
    rw [Nat.zero_add] at k1
    rw [k1]
    have k2 := and_split (k := 1) (A := 1) (C := 0) (Y := m) (Z := m) (by omega) (by omega)
    have k3 : (2 * m + 1) &&& (2 * m) = 2 * m := by
      rw [Nat.zero_add] at k2
      have q1 : 2 * m + 1 = 1 + 2 ^ 1 * m := by omega
      have q2 : 2 * m = 2 ^ 1 * m := by omega
      rw [q1, q2, k2]
      simp
    rw [k3]; simp
  simp only [BitVec.getLsbD]
  rw [hand, hm]
  by_cases hb : b < j
  · have e1 : (2 ^ j * (2 * m)).testBit b = false := by rw [Nat.testBit_two_pow_mul]; simp; omega
    have e2 : (2 ^ j * (2 * m + 1)).testBit b = false := by rw [Nat.testBit_two_pow_mul]; simp; omega
    rw [e1, e2]; rfl
  · rw [Nat.testBit_two_pow_mul, Nat.testBit_two_pow_mul]
    have hjb : b ≥ j := by omega
    simp only [hjb, decide_true, Bool.true_and]
    by_cases hbj : b = j
    · subst hbj; simp
    · obtain ⟨d, hd⟩ : ∃ d, b - j = d + 1 := ⟨b - j - 1, by omega⟩
      rw [hd, Nat.testBit_succ, Nat.testBit_succ, show 2 * m / 2 = m by omega, show (2 * m + 1) / 2 = m by omega]
      simp [hbj]

/-- A word with a one has a lowest one. -/
theorem lowest {x : BitVec 64} (h : ∃ i, i < 64 ∧ x.getLsbD i = true) : ∃ j, j < 64 ∧ x.getLsbD j = true ∧ ∀ i, i < j → x.getLsbD i = false := by
  obtain ⟨i, hi, hx⟩ := h
  induction i using Nat.strongRecOn with
  | _ i ih =>
    by_cases hex : ∃ k, k < i ∧ x.getLsbD k = true
    · obtain ⟨k, hk, hxk⟩ := hex
      exact ih k hk (by omega) hxk
    · refine ⟨i, hi, hx, fun k hk => ?_⟩
      cases hxk : x.getLsbD k with
      | false => rfl
      | true => exact absurd ⟨k, hk, hxk⟩ hex

theorem cnt_step (f : Nat → Bool) (i : Nat) : cnt f (i + 1) = cnt f i + (f i).toNat := rfl

/-- Among the first n there is the k-th one. -/
theorem cnt_find (f : Nat → Bool) : ∀ (n k : Nat), k < cnt f n → ∃ i, i < n ∧ f i = true ∧ cnt f i = k
  | 0, k, h => by simp [cnt] at h
  | n + 1, k, h => by
    by_cases hk : k < cnt f n
    · obtain ⟨i, h1, h2, h3⟩ := cnt_find f n k hk
      exact ⟨i, by omega, h2, h3⟩
    · rw [cnt_step] at h
      cases hf : f n with
      | false => rw [hf] at h; simp at h; omega
      | true => rw [hf] at h; simp at h; exact ⟨n, by omega, hf, by omega⟩

theorem cnt_inj {f : Nat → Bool} {i j : Nat} (hi : f i = true) (hj : f j = true) (h : cnt f i = cnt f j) : i = j := by
  have key : ∀ {a b : Nat}, f a = true → a < b → cnt f a < cnt f b := by
    intro a b ha hab
    have := cnt_mono f (show a + 1 ≤ b by omega)
    rw [cnt_step, ha] at this
    simp at this; omega
  rcases Nat.lt_trichotomy i j with h1 | h1 | h1
  · have := key hi h1; omega
  · exact h1
  · have := key hj h1; omega

/-- What a number asked for comes to. -/
structure Sel (ws : List (BitVec 64)) (n : Nat) (k : Int) (v : Value) : Prop where
  found : ∀ i : Nat, bit ws i = true → (cnt (bit ws) i : Int) = k → v = .tuple #[.int .i64 (i : Nat), .bool true]
  none : (k < 0 ∨ (cnt (bit ws) n : Int) ≤ k) → v = .tuple #[.int .i64 0, .bool false]

theorem select_spec {h : Heap} {L : Nat → Nat → Option Value} (hro : h.ro = roBlk tabG L) {p q n : Nat} {ws : List (BitVec 64)} (s : SetAt h p q n ws) (cn : Canon n ws) (k : Int) (hki : k < 9223372036854775808) :
    Gives P T (.fn F_bits_Set_Select) [ptr p, .int .i64 k] h fun v h' => Sel ws n k v ∧ h' = h := by
  have hn := cn.le
  have hl := cn.len
  refine gives_by t_bits_Set_Select (by simp [c_bits_Set_Select]) fun Q hQ => ?_
  by_cases h0 : k < 0
  · simp [c_bits_Set_Select, ptr, h0]
    exact hQ _ _ ⟨⟨fun i _ e => by omega, fun _ => rfl⟩, rfl⟩
  obtain ⟨b, c, rh, w⟩ := s.ex
  simp [c_bits_Set_Select, ptr, h0, rh.get (i := 1) rfl]
  obtain ⟨W, hW⟩ : ∃ W, ws.length = W := ⟨_, rfl⟩
  rw [hW]
  refine go_loop (fun m t h2 => ∃ (j k' : Nat), m = W - j ∧ j ≤ W ∧ t = envT 47 [(1, .int .i64 k'), (18, .slice b W c), (19, .int .i64 W), (20, .int .i64 j)] ∧ k = (k' : Int) + cnt (bit ws) (64 * j) ∧ h2 = h) (n := W) ?_ ?_
  · refine ⟨0, k.toNat, rfl, by omega, ?_, by simp [cnt]; omega, rfl⟩
    have : ((k.toNat : Nat) : Int) = k := by omega
    rw [envT_forget [1, 18, 19, 20] (by decide)]
    simp [this]
  · rintro m t h2 ⟨j, k', rfl, hj, rfl, hk, rfl⟩
    simp
    refine branch_dec (fun hlt => ?_) (fun hge => ?_)
    · have i3 : j < ws.length := by omega
      obtain ⟨v, rfl, rw⟩ := w.at i3
      have hjW : j < W := by omega
      simp [hlt, hjW, rw.get (wv_get i3)]
      refine got_call ones_spec ?_
      rintro _ _ ⟨rfl, rfl⟩
      rename_i hh
      obtain ⟨pw, hpw⟩ : ∃ pw, pc (word ws j) = pw := ⟨_, rfl⟩
      have hpw64 : pw ≤ 64 := by rw [← hpw]; exact cnt_le _ 64
      have hcn : cnt (bit ws) (64 * (j + 1)) = cnt (bit ws) (64 * j) + pw := by rw [show 64 * (j + 1) = 64 * j + 64 by omega, cnt_add, ← pc_word, hpw]
      have hw1 : IntKind.i64.wrap ((j : Int) + 1) = ((j + 1 : Nat) : Int) := by rw [wrap_i64 (by omega) (by omega)]; omega
      by_cases hkc : pw ≤ k'
      · have hw2 : IntKind.i64.wrap ((k' : Int) - pw) = ((k' - pw : Nat) : Int) := by rw [wrap_i64 (by omega) (by omega)]; omega
        simp [hpw, hkc, hw1, hw2]
        refine ⟨W - (j + 1), by omega, j + 1, by omega, by omega, k' - pw, ?_, ?_⟩
        · rw [envT_forget [1, 18, 19, 20] (by decide)]
          simp
        · rw [hcn]; omega
      · simp [hpw, hkc]
        have hkp : k' < pw := by omega
        have hfind := cnt_find (word ws j).getLsbD 64
        refine go_loop (fun m t h2 => ∃ (r : Nat) (x : BitVec 64), m = k' - r ∧ r ≤ k' ∧ t = envT 47 [(6, .int .i64 j), (7, .int .u64 (wi x)), (33, .int .i64 k'), (34, .int .i64 r)] ∧
          (∀ b, b < 64 → x.getLsbD b = ((word ws j).getLsbD b && decide (r ≤ cnt (word ws j).getLsbD b))) ∧ h2 = hh) (n := k') ?_ ?_
        · refine ⟨0, word ws j, rfl, by omega, ?_, fun b hb => by simp, rfl⟩
          rw [envT_forget [6, 7, 33, 34] (by decide)]
          simp
        · rintro m t h2 ⟨r, x, rfl, hr, rfl, hx, rfl⟩
          obtain ⟨bb, hb64, hbw, hbc⟩ := hfind r (by rw [show cnt (word ws j).getLsbD 64 = pw from hpw]; omega)
          have hxb : x.getLsbD bb = true := by rw [hx bb hb64, hbw]; simp [hbc]
          have hlow : ∀ i, i < bb → x.getLsbD i = false := by
            intro i hi
            rw [hx i (by omega)]
            cases hwi : (word ws j).getLsbD i with
            | false => rfl
            | true =>
              have h2 := cnt_mono (word ws j).getLsbD (show i + 1 ≤ bb by omega)
              rw [cnt_step, hwi] at h2
              simp at h2 ⊢
              omega
          simp
          refine branch_dec (fun hrlt => ?_) (fun hrge => ?_)
          · have hrk : r < k' := by omega
            have hw3 : IntKind.i64.wrap ((r : Int) + 1) = ((r + 1 : Nat) : Int) := by rw [wrap_i64 (by omega) (by omega)]; omega
            simp [hrk, hw3]
            refine ⟨k' - (r + 1), by omega, r + 1, rfl, by omega, x &&& (x - 1#64), ?_, fun b hb => ?_⟩
            · rw [envT_forget [6, 7, 33, 34] (by decide)]
              simp
            · rw [and_pred hb64 hxb hlow, hx b hb]
              cases hwb : (word ws j).getLsbD b with
              | false => rfl
              | true =>
                by_cases hbb : b = bb
                · subst hbb; simp [hbc]
                · have : cnt (word ws j).getLsbD b ≠ r := fun e => hbb (cnt_inj hwb hbw (e.trans hbc.symm))
                  have h3 : decide (r + 1 ≤ cnt (word ws j).getLsbD b) = decide (r ≤ cnt (word ws j).getLsbD b) := by
                    have : r + 1 ≤ cnt (word ws j).getLsbD b ↔ r ≤ cnt (word ws j).getLsbD b := by omega
                    simp only [this]
                  rw [h3]; simp [hbb]
          · have hrk : r = k' := by omega
            subst hrk
            simp
            refine got_call (tz_spec hro hb64 hxb hlow) ?_
            rintro _ _ ⟨rfl, rfl⟩
            have hw4 : IntKind.i64.wrap (64 * (j : Int)) = ((64 * j : Nat) : Int) := by rw [wrap_i64 (by omega) (by omega)]; omega
            have hw5 : IntKind.i64.wrap (((64 * j : Nat) : Int) + bb) = ((64 * j + bb : Nat) : Int) := by rw [wrap_i64 (by omega) (by omega)]; omega
            obtain ⟨z, hz⟩ : ∃ z, 64 * j = z := ⟨_, rfl⟩
            rw [hz] at hw4 hw5
            simp [hw4, hw5]
            rw [hz] at hk
            have hbit : bit ws (z + bb) = true := by rw [← hz, ← word_bit _ _ _ hb64]; exact hbw
            have hcb : cnt (bit ws) (z + bb) = cnt (bit ws) z + r := by
              rw [cnt_add]
              congr 1
              rw [← hbc, ← hz]
              exact cnt_congr _ fun i hi => (word_bit ws j i (by omega)).symm
            refine hQ _ _ ⟨⟨fun i hi hc => ?_, fun hc => ?_⟩, rfl⟩
            · have : i = z + bb := cnt_inj hi hbit (by omega)
              subst this; simp
            · exfalso
              have hin := cn.bits hbit
              have := cnt_mono (bit ws) (show z + bb + 1 ≤ n by omega)
              rw [cnt_step, hbit] at this
              simp at this
              omega
    · have hjW : j = W := by omega
      subst hjW
      simp
      have hall : cnt (bit ws) (64 * j) = cnt (bit ws) n := by
        have e : 64 * j = n + (64 * j - n) := by omega
        rw [e, cnt_add, cnt_zero (f := fun i => bit ws (n + i)) fun i hi => cn.out _ (by omega)]
        omega
      refine hQ _ _ ⟨⟨fun i hi hc => ?_, fun _ => rfl⟩, rfl⟩
      exfalso
      have hin := cn.bits hi
      have := cnt_mono (bit ws) (show i + 1 ≤ n by omega)
      rw [cnt_step, hi] at this
      simp at this
      omega
end Go.Ax
