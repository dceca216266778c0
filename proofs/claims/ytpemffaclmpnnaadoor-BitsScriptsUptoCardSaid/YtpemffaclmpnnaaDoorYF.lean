/- Seat bits: OnesCount64, Rank, Count. -/
import Derived.Test.YtpemffaclmpnnaaDoorYE
import Derived.Test.YtpemffaclmpnnaaDoorMP
namespace Go.Ax
set_option linter.unusedVariables false
set_option linter.unusedSimpArgs false

theorem ab_and_127 {y : BitVec 64} (h : y.toNat < 9223372036854775808) : abin .and .i64 (IntKind.wrap .i64 (wi y)) 127 = some (.int .i64 ((y.toNat % 128 : Nat) : Int)) := by
  have e : IntKind.wrap .i64 (wi y) = wi y := wrap_i64 (by have := wi_nonneg y; omega) (by unfold wi; omega)
  rw [e]
  show some (Value.int .i64 (IntKind.wrap .i64 ((BitVec.ofInt 64 (wi y) &&& BitVec.ofInt 64 127).toNat : Int))) = _
  rw [ofInt_wi, BitVec.toNat_and]
  have e2 : (BitVec.ofInt 64 127).toNat = 2 ^ 7 - 1 := by decide
  rw [e2, Nat.and_two_pow_sub_one_eq_mod, wrap_i64 (by omega) (by omega)]

theorem ones_spec {h : Heap} {x : BitVec 64} : Gives P T (.fn F_math_bits_OnesCount64) [.int .u64 (wi x)] h fun v h' => v = .int .i64 (pc x) ∧ h' = h := by
  refine gives_by t_math_bits_OnesCount64 (by simp [c_math_bits_OnesCount64]) fun Q hQ => ?_
  obtain ⟨y1, h1⟩ : ∃ y, (x >>> 1 &&& 6148914691236517205#64) + (x &&& 6148914691236517205#64) = y := ⟨_, rfl⟩
  obtain ⟨y2, h2⟩ : ∃ y, (y1 >>> 2 &&& 3689348814741910323#64) + (y1 &&& 3689348814741910323#64) = y := ⟨_, rfl⟩
  obtain ⟨y3, h3⟩ : ∃ y, y2 >>> 4 + y2 &&& 1085102592571150095#64 = y := ⟨_, rfl⟩
  obtain ⟨y4, h4⟩ : ∃ y, y3 + y3 >>> 8 = y := ⟨_, rfl⟩
  obtain ⟨y5, h5⟩ : ∃ y, y4 + y4 >>> 16 = y := ⟨_, rfl⟩
  obtain ⟨y6, h6⟩ : ∃ y, y5 + y5 >>> 32 = y := ⟨_, rfl⟩
  obtain ⟨b1, b2, b3, hp⟩ := pop_nat x.isLt _ _ _ rfl rfl rfl
  have n1 : y1.toNat = (x.toNat / 2 ^ 1 &&& 6148914691236517205) + (x.toNat &&& 6148914691236517205) := by
    rw [← h1, BitVec.toNat_add, BitVec.toNat_and, BitVec.toNat_and, BitVec.toNat_ushiftRight, Nat.shiftRight_eq_div_pow]
    exact Nat.mod_eq_of_lt b1
  rw [← n1] at b2 b3 hp
  have n2 : y2.toNat = (y1.toNat / 2 ^ 2 &&& 3689348814741910323) + (y1.toNat &&& 3689348814741910323) := by
    rw [← h2, BitVec.toNat_add, BitVec.toNat_and, BitVec.toNat_and, BitVec.toNat_ushiftRight, Nat.shiftRight_eq_div_pow]
    exact Nat.mod_eq_of_lt (Nat.lt_trans b2 (by omega))
  rw [← n2] at b2 b3 hp
  have n3 : y3.toNat = (y2.toNat / 2 ^ 4 + y2.toNat) &&& 1085102592571150095 := by
    rw [← h3, BitVec.toNat_and, BitVec.toNat_add, BitVec.toNat_ushiftRight, Nat.shiftRight_eq_div_pow]
    rw [Nat.mod_eq_of_lt (show y2.toNat / 2 ^ 4 + y2.toNat < 2 ^ 64 by omega)]
    rfl
  rw [← n3] at b3 hp
  have n4 : y4.toNat = y3.toNat + y3.toNat / 256 := by
    rw [← h4, BitVec.toNat_add, BitVec.toNat_ushiftRight, Nat.shiftRight_eq_div_pow]
    exact Nat.mod_eq_of_lt (by omega)
  rw [← n4] at hp
  have n5 : y5.toNat = y4.toNat + y4.toNat / 65536 := by
    rw [← h5, BitVec.toNat_add, BitVec.toNat_ushiftRight, Nat.shiftRight_eq_div_pow]
    exact Nat.mod_eq_of_lt (by omega)
  rw [← n5] at hp
  have n6 : y6.toNat = y5.toNat + y5.toNat / 4294967296 := by
    rw [← h6, BitVec.toNat_add, BitVec.toNat_ushiftRight, Nat.shiftRight_eq_div_pow]
    exact Nat.mod_eq_of_lt (by omega)
  rw [← n6] at hp
  have hpc : y6.toNat % 128 = pc x := hp
  have hlast := ab_and_127 (y := y6) (by omega)
  rw [hpc] at hlast
  simp [c_math_bits_OnesCount64, h1, h2, h3, h4, h5, h6, hlast]
  exact hQ _ _ ⟨rfl, rfl⟩

theorem pc_word (ws : List (BitVec 64)) (j : Nat) : pc (word ws j) = cnt (fun i => bit ws (64 * j + i)) 64 :=
  cnt_congr _ fun i hi => word_bit ws j i hi

theorem pc_shl (x : BitVec 64) (s : Nat) (hs : s ≤ 64) : pc (x <<< s) = cnt x.getLsbD (64 - s) := by
  unfold pc
  obtain ⟨r, hr⟩ : ∃ r, 64 - s = r := ⟨_, rfl⟩
  rw [hr, show cnt (x <<< s).getLsbD 64 = cnt (x <<< s).getLsbD (s + r) by congr 1; omega, cnt_add, cnt_zero (fun i hi => by rw [BitVec.getLsbD_shiftLeft]; simp [hi]), Nat.zero_add]
  apply cnt_congr
  intro i hi
  rw [BitVec.getLsbD_shiftLeft]
  have h1 : s + i < 64 := by omega
  have h2 : ¬ s + i < s := by omega
  simp [h1, h2]

theorem rank_spec {h : Heap} {p q n : Nat} {ws : List (BitVec 64)} (s : SetAt h p q n ws) (cn : Canon n ws) (i : Int) :
    Gives P T (.fn F_bits_Set_Rank) [ptr p, .int .i64 i] h fun v h' => v = .int .i64 (cnt (bit ws) (min (max i 0) n).toNat) ∧ h' = h := by
  have hn := cn.le
  have hl := cn.len
  obtain ⟨m, hm⟩ : ∃ m : Nat, min (max i 0) (n : Int) = m := ⟨(min (max i 0) n).toNat, by omega⟩
  rw [hm]
  simp only [Int.toNat_natCast]
  have hmn : m ≤ n := by omega
  refine gives_by t_bits_Set_Rank (by simp [c_bits_Set_Rank]) fun Q hQ => ?_
  simp [c_bits_Set_Rank]
  refine got_call (len_spec s) ?_
  rintro _ _ ⟨rfl, rfl⟩
  obtain ⟨d, hd⟩ : ∃ d, m / 64 = d := ⟨_, rfl⟩
  obtain ⟨r, hr⟩ : ∃ r, m % 64 = r := ⟨_, rfl⟩
  have e1 := tmod_nat m 64
  have e2 := tdiv_nat m 64
  rw [hr] at e1
  rw [hd] at e2
  simp only [Int.cast_ofNat_Int] at e1 e2
  have e3 : IntKind.i64.wrap (d : Int) = d := wrap_i64 (by omega) (by omega)
  simp [hm, e1, e2, e3]
  rename_i h
  refine go_loop (fun k t h2 => ∃ (j c : Nat), k = d - j ∧ j ≤ d ∧ t = envT 47 [(0, ptr p), (1, .int .i64 m), (5, .int .i64 c), (13, .int .i64 d), (14, .int .i64 j)] ∧ c = cnt (bit ws) (64 * j) ∧ h2 = h) (n := d) ?_ ?_
  · refine ⟨0, 0, rfl, by omega, ?_, rfl, rfl⟩
    rw [envT_forget [0, 1, 5, 13, 14] (by decide)]
    simp [ptr]
  · rintro k t h2 ⟨j, c, rfl, hj, rfl, hc, rfl⟩
    simp
    refine branch_dec (fun hlt => ?_) (fun hge => ?_)
    · have i3 : j < ws.length := by omega
      obtain ⟨v, c', rh, rw, _⟩ := s.open i3
      simp [hlt, ptr, rh.get (i := 1) rfl, rw.get (wv_get i3), i3]
      refine got_call ones_spec ?_
      rintro _ _ ⟨rfl, rfl⟩
      obtain ⟨pw, hpw⟩ : ∃ pw, pc (word ws j) = pw := ⟨_, rfl⟩
      have hb := cnt_le (bit ws) (64 * j)
      have hb2 := cnt_le (word ws j).getLsbD 64
      rw [show cnt (word ws j).getLsbD 64 = pw from hpw] at hb2
      have hw1 : IntKind.i64.wrap ((j : Int) + 1) = ((j + 1 : Nat) : Int) := by rw [wrap_i64 (by omega) (by omega)]; omega
      have hw2 : IntKind.i64.wrap ((c : Int) + pw) = ((c + pw : Nat) : Int) := by rw [wrap_i64 (by omega) (by omega)]; omega
      simp [hw1, hw2, hpw]
      have hcn : cnt (bit ws) (64 * (j + 1)) = c + pw := by rw [show 64 * (j + 1) = 64 * j + 64 by omega, cnt_add, ← hc, ← pc_word, hpw]
      refine ⟨d - (j + 1), by omega, j + 1, rfl, by omega, ?_⟩
      rw [envT_forget [0, 1, 5, 13, 14] (by decide), hcn]
      simp
    · have hjd : j = d := by omega
      subst hjd
      have hb := cnt_le (bit ws) (64 * j)
      by_cases h0 : r = 0
      · subst h0
        simp [e1]
        have : m = 64 * j := by omega
        exact hQ _ _ ⟨by rw [hc, this], rfl⟩
      · have i3 : j < ws.length := by omega
        obtain ⟨v, c', rh, rw, _⟩ := s.open i3
        have hrp : 0 < r := by omega
        have hs : IntKind.i64.wrap (64 - (r : Int)) = ((64 - r : Nat) : Int) := by rw [wrap_i64 (by omega) (by omega)]; omega
        simp [e1, e2, e3, hrp, ptr, rh.get (i := 1) rfl, rw.get (wv_get i3), i3]
        rw [hs]
        simp
        refine got_call ones_spec ?_
        rintro _ _ ⟨rfl, rfl⟩
        have hpw : pc (word ws j <<< (64 - r)) = cnt (fun i => bit ws (64 * j + i)) r := by
          rw [pc_shl _ _ (by omega), show 64 - (64 - r) = r by omega]
          exact cnt_congr _ fun i hi => word_bit ws j i (by omega)
        obtain ⟨pw, hpw2⟩ : ∃ pw, pc (word ws j <<< (64 - r)) = pw := ⟨_, rfl⟩
        have hb2 := cnt_le (word ws j <<< (64 - r)).getLsbD 64
        rw [show cnt (word ws j <<< (64 - r)).getLsbD 64 = pw from hpw2] at hb2
        have hw2 : IntKind.i64.wrap ((c : Int) + pw) = ((c + pw : Nat) : Int) := by rw [wrap_i64 (by omega) (by omega)]; omega
        simp [hpw2, hw2]
        refine hQ _ _ ⟨?_, rfl⟩
        have : m = 64 * j + r := by omega
        rw [this, cnt_add, ← hpw, hpw2, ← hc]
        simp

theorem count_spec {h : Heap} {p q n : Nat} {ws : List (BitVec 64)} (s : SetAt h p q n ws) (cn : Canon n ws) :
    Gives P T (.fn F_bits_Set_Count) [ptr p] h fun v h' => v = .int .i64 (cnt (bit ws) n) ∧ h' = h := by
  refine gives_by t_bits_Set_Count (by simp [c_bits_Set_Count]) fun Q hQ => ?_
  simp [c_bits_Set_Count]
  refine got_call (len_spec s) ?_
  rintro _ _ ⟨rfl, rfl⟩
  simp
  refine got_call (rank_spec s cn n) ?_
  rintro _ _ ⟨rfl, rfl⟩
  have e : min (max (n : Int) 0) n = n := by omega
  simp [e]
  exact hQ _ _ ⟨rfl, rfl⟩
end Go.Ax
