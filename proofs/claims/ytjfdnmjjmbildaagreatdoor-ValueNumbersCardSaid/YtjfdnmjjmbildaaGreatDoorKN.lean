/- Seat valuec: the law ValueNumbers, walked. -/
import Derived.Test.YtjfdnmjjmbildaaGreatDoorKQ
namespace Go.Ax
open Go.Proofs
set_option linter.unusedVariables false
set_option linter.unusedSimpArgs false
set_option maxRecDepth 100000

theorem word_lt {s : Bool} {r : Nat} (h : r < 9223372036854775808) : Ieee.double.word s r < 18446744073709551616 := by
  have e1 : Ieee.double.signWeight = 9223372036854775808 := rfl
  unfold Ieee.Format.word
  rw [e1]
  cases s <;> simp <;> omega

theorem near_lt (i : Int) : FloatKind.nearest .f64 i < 18446744073709551616 := by
  show Ieee.double.nearest (i < 0) i.natAbs 0 < _
  by_cases h : i.natAbs = 0
  · have : i = 0 := by omega
    subst this
    decide
  · obtain ⟨r, e, _, hr⟩ := nearest_sign (s := decide (i < 0)) (m := i.natAbs) (p := 0) h (by omega)
    rw [e]
    exact word_lt (by omega)

theorem near_val {i : Int} (h1 : -9007199254740992 ≤ i) (h2 : i ≤ 9007199254740992) : fin (FloatKind.nearest .f64 i) ∧ V (FloatKind.nearest .f64 i) = i * ((2 ^ UE : Nat) : Int) := by
  by_cases h : i = 0
  · subst h
    have e : FloatKind.nearest .f64 0 = Ieee.double.word false 0 := rfl
    rw [e, Int.zero_mul]
    exact word_zero false
  obtain ⟨m, k, hm, h0, hk, e⟩ : ∃ m k, m < 9007199254740992 ∧ 0 < m ∧ k ≤ 64 ∧ i.natAbs = m * 2 ^ k := by
    by_cases hb : i.natAbs < 9007199254740992
    · exact ⟨i.natAbs, 0, hb, by omega, by omega, by omega⟩
    · exact ⟨1, 53, by omega, by omega, by omega, by rw [show i.natAbs = 9007199254740992 by omega]⟩
  obtain ⟨w1, w2⟩ := nearest_exact (s := decide (i < 0)) hm h0 hk
  show fin (Ieee.double.nearest (i < 0) i.natAbs 0) ∧ V (Ieee.double.nearest (i < 0) i.natAbs 0) = _
  rw [e]
  refine ⟨w1, ?_⟩
  rw [w2, ← e]
  by_cases hn : i < 0
  · rw [if_pos (decide_eq_true hn)]
    have : i = -(i.natAbs : Int) := by omega
    rw [Int.natCast_mul]
    conv => rhs; rw [this]
    rw [Int.neg_mul]
  · rw [if_neg (by simpa using hn)]
    have : i = (i.natAbs : Int) := by omega
    rw [Int.natCast_mul]
    conv => rhs; rw [this]

theorem V_made (a : Nat) : V (made a) = V a := by
  unfold made
  split
  · rename_i h
    rw [V_zero.2 h]; exact V_zero.2 rfl
  · rfl

theorem fin_made {a : Nat} (h : fin a) : fin (made a) := by unfold fin at *; rw [rg_made]; exact h

theorem Snd.int {i : Int} (h1 : -9223372036854775808 ≤ i) (h2 : i < 9223372036854775808) : Snd 1 i 0 [] := ⟨rfl, by omega, h1, h2⟩
theorem Snd.real {a : Nat} (ha : a < 18446744073709551616) (hf : fin a) : Snd 3 0 (made a) [] := by
  refine ⟨?_, made_lt ha, by omega, by omega⟩
  unfold fin at hf
  simp [mayB, rg_made, hf, made_ne]

/-- A whole number against a real. -/
def irC (i : Int) (a : Nat) : Int := if i * ((2 ^ UE : Nat) : Int) ≤ V a then -1 else 1

theorem irC_mono {i j : Int} {a : Nat} (h : i ≤ j) : irC i a ≤ irC j a := by
  have hp : (0 : Int) ≤ ((2 ^ UE : Nat) : Int) := Int.natCast_nonneg _
  have := Int.mul_le_mul_of_nonneg_right h hp
  unfold irC
  split <;> split <;> omega

theorem cmp_ir {i : Int} {a : Nat} (h1 : -9223372036854775808 ≤ i) (h2 : i < 9223372036854775808) (ha : a < 18446744073709551616) (hf : fin a) : cmpB 1 i 0 [] 3 0 (made a) [] = irC i a := by
  have m1 := (Snd.int h1 h2).1
  have m2 := (Snd.real ha hf).1
  unfold cmpB
  rw [m1, m2, agI_cmp h1 h2, V_made]
  unfold irC cmpI
  obtain ⟨U, hU⟩ : ∃ U, ((2 ^ UE : Nat) : Int) = U := ⟨_, rfl⟩
  rw [hU]
  simp [clsR]
  by_cases hl : i * U < V a
  · rw [if_pos hl, if_pos (by omega : i * U ≤ V a)]; simp
  · by_cases hg : V a < i * U
    · rw [if_neg hl, if_pos hg, if_neg (by omega : ¬ i * U ≤ V a)]; simp
    · rw [if_neg hl, if_neg hg, if_pos (by omega : i * U ≤ V a)]; simp

theorem cmp_ri {i : Int} {a : Nat} (h1 : -9223372036854775808 ≤ i) (h2 : i < 9223372036854775808) (ha : a < 18446744073709551616) (hf : fin a) : cmpB 3 0 (made a) [] 1 i 0 [] = -irC i a := by
  have e := (Snd.real ha hf).key (Snd.int h1 h2)
  have e2 := (Snd.int h1 h2).key (Snd.real ha hf)
  rw [cmp_ir h1 h2 ha hf] at e2
  rw [e, kf_TO.anti, e2]

theorem cmp_ii {i j : Int} : cmpB 1 i 0 [] 1 j 0 [] = cmpI i j := by
  unfold cmpB
  simp [mayB]

theorem exact_spec {h : Heap} {i : Int} : Gives P T (.fn F_colonnadelaw05_exact) [.int .i64 i] h fun v h' => v = .tuple #[.float .f64 (FloatKind.nearest .f64 i), .bool (decide (-9007199254740992 ≤ i ∧ i ≤ 9007199254740992))] ∧ h' = h := by
  refine gives_by t_colonnadelaw05_exact (by simp [c_colonnadelaw05_exact]) fun Q hQ => ?_
  have hcv : ∀ h : Heap, (if plain (Value.int .i64 i) = true then valR h (pures P (convert 2 22 (.int .i64 i))) else none) = some (.float .f64 (FloatKind.nearest .f64 i), h) := fun h => by simp [plain, plainN, conv_if]
  by_cases h1 : i ≤ 9007199254740992
  · simp [c_colonnadelaw05_exact, hcv, h1]
    exact hQ _ _ ⟨by simp [h1], rfl⟩
  · simp [c_colonnadelaw05_exact, hcv, h1, skipV]
    exact hQ _ _ ⟨by simp [h1], rfl⟩

set_option maxHeartbeats 4000000 in
theorem numbers_law {i j : Int} {a : Nat} (hi1 : -9223372036854775808 ≤ i) (hi2 : i < 9223372036854775808) (hj1 : -9223372036854775808 ≤ j) (hj2 : j < 9223372036854775808) (ha : a < 18446744073709551616) :
    Gives P T (.fn F_colonnadelaw05_ValueNumbers) [.int .i64 i, .int .i64 j, .float .f64 a] (heap0 roV) fun v _ => v = .bool true := by
  refine gives_by t_colonnadelaw05_ValueNumbers (by simp [c_colonnadelaw05_ValueNumbers]) fun Q hQ => ?_
  simp [c_colonnadelaw05_ValueNumbers]
  refine got_call awake_spec ?_
  rintro _ H0 ⟨rfl, -⟩
  simp
  refine got_call Int_spec ?_
  rintro _ H1 ⟨rfl, g1⟩
  simp
  refine got_call Int_spec ?_
  rintro _ H2 ⟨rfl, g2⟩
  simp
  refine got_call (Compare_spec (by omega) (by omega)) ?_
  rintro _ H3 ⟨rfl, g3⟩
  rw [cmp_ii]
  obtain ⟨c, hc⟩ : ∃ c, cmpI i j = c := ⟨_, rfl⟩
  have c1 : (c = -1) = (i < j) := by rw [← hc]; unfold cmpI; split <;> (try split) <;> simp <;> omega
  have c2 : (c = 1) = (j < i) := by rw [← hc]; unfold cmpI; split <;> (try split) <;> simp <;> omega
  have c3 : (c = 0) = (i = j) := by rw [← hc]; unfold cmpI; split <;> (try split) <;> simp <;> omega
  rw [hc]
  simp [c1, c2, c3]
  refine got_call exact_spec ?_
  rintro _ _ ⟨rfl, rfl⟩
  rename_i H3
  simp
  have hgl := near_lt i
  by_cases hx : -9007199254740992 ≤ i ∧ i ≤ 9007199254740992
  · obtain ⟨hf, hV⟩ := near_val hx.1 hx.2
    obtain ⟨g, hg⟩ : ∃ g, FloatKind.nearest .f64 i = g := ⟨_, rfl⟩
    rw [hg] at hf hV hgl
    have er : realC g = vCells 3 0 (made g) [] := by unfold realC; rw [if_pos (show rg g < 9218868437227405312 from hf)]
    rw [hg]
    refine got_call (Real_spec hgl) ?_
    rintro _ H4 ⟨rfl, g4⟩
    rw [er]
    obtain ⟨J, e5, R5, g5⟩ := store_new4 (h := H4) (l := vCells 0 0 0 []) (m := vCells 3 0 (made g) []) rfl rfl
    have lr := fun K (g : Grow J K) => loadN_row_all (R5.grow g) (n := 4) rfl
    have b0 : Grow J J := Chg.refl J
    have lJ := lr J b0
    simp only [vCells] at e5 lJ
    simp [str_nil, e5, vCells, hx.1, hx.2, lJ]
    have self : irC i g = -1 := by unfold irC; rw [hV, if_pos (Int.le_refl _)]
    refine got_call Int_spec ?_
    rintro _ H5 ⟨rfl, g5'⟩
    have b1 := b0.trans g5'
    have l1 := lr _ b1
    simp only [vCells] at l1
    simp [l1, lJ]
    refine got_call (Compare_spec (by omega) (made_lt hgl)) ?_
    rintro _ H6 ⟨rfl, g6⟩
    have b2 := b1.trans g6
    have l2 := lr _ b2
    simp only [vCells] at l2
    rw [cmp_ir hi1 hi2 hgl hf, self]
    simp [l2]
    refine got_call Int_spec ?_
    rintro _ H7 ⟨rfl, g7⟩
    have b3 := b2.trans g7
    have l3 := lr _ b3
    simp only [vCells] at l3
    simp [l3, l2, l1, lJ, pushP_in]
    refine got_call (Compare_spec (made_lt hgl) (by omega)) ?_
    rintro _ H8 ⟨rfl, g8⟩
    rw [cmp_ri hi1 hi2 hgl hf, self]
    simp
    clear lr b0 b1 b2 b3 l1 l2 l3
    refine got_call (Real_spec ha) ?_
    rintro _ H8 ⟨rfl, g8⟩
    by_cases hf' : fin a
    · have er2 : realC a = vCells 3 0 (made a) [] := by unfold realC; rw [if_pos (show rg a < 9218868437227405312 from hf')]
      rw [er2]
      obtain ⟨J2, e9, R9, g9⟩ := store_new4 (h := H8) (l := vCells 0 0 0 []) (m := vCells 3 0 (made a) []) rfl rfl
      have lr := fun K (g : Grow J2 K) => loadN_row_all (R9.grow g) (n := 4) rfl
      have b0 : Grow J2 J2 := Chg.refl J2
      have l0 := lr J2 b0
      have k0 := R9.get (i := 0) (x := .int .i64 3) rfl
      simp only [vCells] at e9 l0
      simp [str_nil, e9, vCells, l0, k0]
      have hle : (ford g a == some .lt || ford g a == some .eq) = decide (i * ((2 ^ UE : Nat) : Int) ≤ V a) := by
        rw [fin_lt hf hf', fin_eq hf hf', hV, Bool.eq_iff_iff, Bool.or_eq_true, decide_eq_true_eq, decide_eq_true_eq, decide_eq_true_eq]
        omega
      have hwant : ∀ x : Int, irC i a = (if i * ((2 ^ UE : Nat) : Int) ≤ V a then -1 else 1) := fun _ => rfl
      by_cases hl : i * ((2 ^ UE : Nat) : Int) ≤ V a
      all_goals
        simp only [hl, decide_true, decide_false] at hle
        simp [hle, -Bool.or_eq_true, -Bool.or_eq_false_iff, l0, k0]
        refine got_call Int_spec ?_
        rintro _ K1 ⟨rfl, n1⟩
        have b1 := b0.trans n1
        have l1 := lr _ b1
        simp only [vCells] at l1
        simp [l1, l0]
        refine got_call (Compare_spec (by omega) (made_lt ha)) ?_
        rintro _ K2 ⟨rfl, n2⟩
        have b2 := b1.trans n2
        have l2 := lr _ b2
        simp only [vCells] at l2
        rw [cmp_ir hi1 hi2 ha hf']
        have hI : irC i a = _ := hwant 0
        first | rw [if_pos hl] at hI | rw [if_neg hl] at hI
        rw [hI]
        simp [l2, l1, l0]
        by_cases hij : i ≤ j
        · simp [hij]
          refine got_call Int_spec ?_
          rintro _ M1 ⟨rfl, p1⟩
          have d1 := b2.trans p1
          have m1 := lr _ d1
          simp only [vCells] at m1
          simp [m1, l2, l1, l0]
          refine got_call (Compare_spec (by omega) (made_lt ha)) ?_
          rintro _ M2 ⟨rfl, p2⟩
          have d2 := d1.trans p2
          have m2 := lr _ d2
          simp only [vCells] at m2
          rw [cmp_ir hi1 hi2 ha hf']
          simp [m2, m1, l2]
          refine got_call Int_spec ?_
          rintro _ M3 ⟨rfl, p3⟩
          have d3 := d2.trans p3
          have m3 := lr _ d3
          simp only [vCells] at m3
          simp [m3, m2, m1, l2, pushP_in]
          refine got_call (Compare_spec (by omega) (made_lt ha)) ?_
          rintro _ M4 ⟨rfl, p4⟩
          rw [cmp_ir hj1 hj2 ha hf']
          have hm := irC_mono (a := a) hij
          simp [hm]
          exact hQ _ _ rfl
        · simp [hij]
          exact hQ _ _ rfl
    · have er2 : realC a = vCells 0 0 0 [] := by unfold realC; rw [if_neg (show ¬ rg a < 9218868437227405312 from hf')]
      rw [er2]
      obtain ⟨J2, e9, R9, g9⟩ := store_new4 (h := H8) (l := vCells 0 0 0 []) (m := vCells 0 0 0 []) rfl rfl
      have k0 := R9.get (i := 0) (x := .int .i64 0) rfl
      simp only [vCells] at e9
      simp [str_nil, e9, vCells, k0]
      by_cases hnan : 9218868437227405312 < rg a
      · have n1 := nan_iff a
        rw [decide_eq_true hnan] at n1
        simp [n1, skipV]
        exact hQ _ _ rfl
      · have n1 := nan_iff a
        rw [decide_eq_false hnan] at n1
        simp [n1, f_subx (sub_none hf')]
        exact hQ _ _ rfl
  · refine got_call (Real_spec hgl) ?_
    rintro _ H4 ⟨rfl, g4⟩
    obtain ⟨k', i', b', bs', er, sn⟩ := realC_snd hgl
    rw [er]
    obtain ⟨J, e5, R5, g5⟩ := store_new4 (h := H4) (l := vCells 0 0 0 []) (m := vCells k' i' b' bs') rfl rfl
    have hx' : (decide (-9007199254740992 ≤ i) && decide (i ≤ 9007199254740992)) = false := by rw [← Bool.decide_and]; exact decide_eq_false hx
    simp only [vCells] at e5
    simp [str_nil, e5, vCells, hx', skipV]
    refine got_call (Real_spec ha) ?_
    rintro _ H8 ⟨rfl, g8⟩
    by_cases hf' : fin a
    · have er2 : realC a = vCells 3 0 (made a) [] := by unfold realC; rw [if_pos (show rg a < 9218868437227405312 from hf')]
      rw [er2]
      obtain ⟨J2, e9, R9, g9⟩ := store_new4 (h := H8) (l := vCells 0 0 0 []) (m := vCells 3 0 (made a) []) rfl rfl
      have lr := fun K (g : Grow J2 K) => loadN_row_all (R9.grow g) (n := 4) rfl
      have b0 : Grow J2 J2 := Chg.refl J2
      have l0 := lr J2 b0
      have k0 := R9.get (i := 0) (x := .int .i64 3) rfl
      simp only [vCells] at e9 l0
      simp [str_nil, e9, vCells, l0, k0]
      by_cases hij : i ≤ j
      · simp [hij]
        refine got_call Int_spec ?_
        rintro _ M1 ⟨rfl, p1⟩
        have d1 := b0.trans p1
        have m1 := lr _ d1
        simp only [vCells] at m1
        simp [m1, l0]
        refine got_call (Compare_spec (by omega) (made_lt ha)) ?_
        rintro _ M2 ⟨rfl, p2⟩
        have d2 := d1.trans p2
        have m2 := lr _ d2
        simp only [vCells] at m2
        rw [cmp_ir hi1 hi2 ha hf']
        simp [m2, m1, l0]
        refine got_call Int_spec ?_
        rintro _ M3 ⟨rfl, p3⟩
        have d3 := d2.trans p3
        have m3 := lr _ d3
        simp only [vCells] at m3
        simp [m3, m2, m1, l0, pushP_in]
        refine got_call (Compare_spec (by omega) (made_lt ha)) ?_
        rintro _ M4 ⟨rfl, p4⟩
        rw [cmp_ir hj1 hj2 ha hf']
        have hm := irC_mono (a := a) hij
        simp [hm]
        exact hQ _ _ rfl
      · simp [hij]
        exact hQ _ _ rfl
    · have er2 : realC a = vCells 0 0 0 [] := by unfold realC; rw [if_neg (show ¬ rg a < 9218868437227405312 from hf')]
      rw [er2]
      obtain ⟨J2, e9, R9, g9⟩ := store_new4 (h := H8) (l := vCells 0 0 0 []) (m := vCells 0 0 0 []) rfl rfl
      have k0 := R9.get (i := 0) (x := .int .i64 0) rfl
      simp only [vCells] at e9
      simp [str_nil, e9, vCells, k0]
      by_cases hnan : 9218868437227405312 < rg a
      · have n1 := nan_iff a
        rw [decide_eq_true hnan] at n1
        simp [n1, skipV]
        exact hQ _ _ rfl
      · have n1 := nan_iff a
        rw [decide_eq_false hnan] at n1
        simp [n1, f_subx (sub_none hf')]
        exact hQ _ _ rfl

end Go.Ax
