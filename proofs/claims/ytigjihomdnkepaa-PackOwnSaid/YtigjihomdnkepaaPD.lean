/- Seat pack: At, Word, any bit; the law of them. -/
import Derived.Test.YtigjihomdnkepaaPC
namespace Go.Ax
set_option linter.unusedVariables false
set_option linter.unusedSimpArgs false

theorem May_spec {h : Heap} (w : Int) : Gives P T (.fn F_colonnaderef02_May) [.int .i64 w] h fun r h' => r = .bool (decide (0 ≤ w ∧ w ≤ 64)) ∧ h' = h := by
  refine gives_by t_colonnaderef02_May (by simp [c_colonnaderef02_May]) fun Q hQ => ?_
  by_cases h1 : 0 ≤ w
  · simp [c_colonnaderef02_May, h1]
    exact hQ _ _ ⟨by simp [h1], rfl⟩
  · simp [c_colonnaderef02_May, h1, skipV]
    exact hQ _ _ ⟨by simp [h1], rfl⟩

/-- The lowest w bits. -/
def maskW (w : Nat) : BitVec 64 := bvOf (fun _ => true) w
theorem maskW_bit {w : Nat} (hw : w ≤ 64) (x : BitVec 64) (j : Nat) : (x &&& maskW w).getLsbD j = (x.getLsbD j && decide (j < w)) := by
  rw [BitVec.getLsbD_and, maskW, bvOf_bit _ _ _ hw]; simp

theorem mask_spec {h : Heap} {w : Nat} (hw : w ≤ 64) : Gives P T (.fn F_pack_mask) [.int .i64 w] h fun r h' => r = .int .u64 (wi (maskW w)) ∧ h' = h := by
  refine gives_by t_pack_mask (by simp [c_pack_mask]) fun Q hQ => ?_
  by_cases h64 : w = 64
  · subst h64
    simp [c_pack_mask]
    exact hQ _ _ ⟨rfl, rfl⟩
  · have h64' : ¬ (w : Int) = 64 := by omega
    simp [c_pack_mask, h64, h64']
    refine hQ _ _ ⟨?_, rfl⟩
    have : 1#64 <<< w - 1#64 = maskW w := by
      apply eq_bvOf hw
      intro j hj
      rw [mask_bit w j (by omega) hj]; simp
    rw [this]

theorem lane_word {bs : List (BitVec 8)} {w s : Nat} (hw : w ≤ 64) : wordB bs s &&& maskW w = bvOf (fun j => bbit bs (s + j)) w := by
  apply eq_bvOf hw
  intro j hj
  rw [maskW_bit hw, wordB, bvOf_bit _ _ _ (Nat.le_refl _)]
  simp [hj, Bool.and_comm]

/-- A bit, any. -/
def bitI (bs : List (BitVec 8)) (k : Int) : Bool := decide (0 ≤ k) && bbit bs k.toNat

theorem refBit2_spec {h : Heap} {v : Value} {bs : List (BitVec 8)} (r : Reads h v (bs.map bv)) {k : Int} (hk : k ≤ 1000000000000000000) :
    Gives P T (.fn F_colonnaderef02_Bit) [v, .int .i64 k] h fun r h' => r = .int .u64 (wi (bitV (bitI bs k))) ∧ h' = h := by
  obtain ⟨b, c, rfl, hr⟩ := r.shape
  simp only [List.length_map] at hr ⊢
  refine gives_by t_colonnaderef02_Bit (by simp [c_colonnaderef02_Bit]) fun Q hQ => ?_
  by_cases k0 : k < 0
  · have : bitI bs k = false := by unfold bitI; rw [decide_eq_false (by omega)]; rfl
    rw [this] at hQ
    simp [c_colonnaderef02_Bit, k0, skipV]
    exact hQ _ _ ⟨rfl, rfl⟩
  obtain ⟨k, rfl⟩ : ∃ k' : Nat, k = k' := ⟨k.toNat, by omega⟩
  have hb : bitI bs k = bbit bs k := by unfold bitI; rw [decide_eq_true (by omega)]; simp
  rw [hb] at hQ
  have e1 := tmod_nat k 8
  have e2 := tdiv_nat k 8
  obtain ⟨m, hm⟩ : ∃ m, k % 8 = m := ⟨_, rfl⟩
  obtain ⟨d, hd⟩ : ∃ d, k / 8 = d := ⟨_, rfl⟩
  rw [hm] at e1
  rw [hd] at e2
  simp only [Int.cast_ofNat_Int] at e1 e2
  have e3 : IntKind.i64.wrap (d : Int) = d := wrap_i64 (by omega) (by omega)
  have e4 : IntKind.u64.wrap (m : Int) = m := wrap_u64 (by omega) (by omega)
  by_cases hlt : d < bs.length
  · have h1 : ¬ ((bs.length : Int) ≤ d) := by omega
    obtain ⟨a, rfl, ha⟩ := hr d hlt
    have hl := ha d _ (bv_get hlt)
    simp [c_colonnaderef02_Bit, k0, e1, e2, e3, e4, h1, hlt, hl, and_one64]
    refine hQ _ _ ⟨?_, rfl⟩
    unfold bbit
    rw [hd, hm, decide_eq_true (show m < 64 by omega), Bool.true_and]
  · have h1 : ((bs.length : Int) ≤ d) := by omega
    simp [c_colonnaderef02_Bit, k0, e1, e2, e3, h1]
    refine hQ _ _ ⟨?_, rfl⟩
    rw [bbit_out (by omega)]; rfl

theorem refLane2_spec {h : Heap} {v : Value} {bs : List (BitVec 8)} (r : Reads h v (bs.map bv)) {i w : Nat} (hw : w ≤ 64) (hs : i * w ≤ 100000000000000000) :
    Gives P T (.fn F_colonnaderef02_Lane) [v, .int .i64 w, .int .i64 i] h fun r h' => r = .int .u64 (wi (laneB bs w i)) ∧ h' = h := by
  obtain ⟨s, hs'⟩ : ∃ s, i * w = s := ⟨_, rfl⟩
  have f0 : (i : Int) * w = (s : Int) := by rw [← hs', Int.natCast_mul]
  have f1 : IntKind.i64.wrap (s : Int) = s := wrap_i64 (by omega) (by omega)
  refine gives_by t_colonnaderef02_Lane (by simp [c_colonnaderef02_Lane]) fun Q hQ => ?_
  simp [c_colonnaderef02_Lane]
  refine go_loopK (fun k ks h2 => ∃ (j : Nat), k = w - j ∧ j ≤ w ∧ ks = [(0, v), (1, .int .i64 w), (2, .int .i64 i), (7, .int .u64 (wi (bvOf (fun j => bbit bs (s + j)) j))), (8, .int .i64 j)] ∧ h2 = h) (n := w) ⟨0, rfl, by omega, rfl, rfl⟩ (by simp [bvOf]) ?_
  rintro I hI k ks e h3 ⟨j, rfl, hj, rfl, rfl⟩
  simp
  refine branch_dec (fun hlt => ?_) (fun hge => ?_)
  · have hil : j < w := by omega
    have e2 : IntKind.i64.wrap ((s : Int) + j) = ((s + j : Nat) : Int) := by rw [wrap_i64 (by omega) (by omega)]; omega
    obtain ⟨s2, hs2⟩ : ∃ s2, s + j = s2 := ⟨_, rfl⟩
    rw [hs2] at e2
    have e3 : IntKind.u64.wrap (j : Int) = j := wrap_u64 (by omega) (by omega)
    have e4 : IntKind.i64.wrap ((j : Int) + 1) = ((j + 1 : Nat) : Int) := by rw [wrap_i64 (by omega) (by omega)]; omega
    simp [f0, f1, e2]
    refine got_call (refBit2_spec r (by omega)) ?_
    rintro _ _ ⟨rfl, rfl⟩
    simp [e3, e4]
    refine ⟨w - (j + 1), by omega, hI _ _ _ _ ⟨j + 1, rfl, by omega, rfl, rfl⟩ ?_⟩
    simp [bvOf, hs2, bitI]
  · have hil : j = w := by omega
    subst hil
    simp
    refine hQ _ _ ⟨?_, rfl⟩
    rw [laneB, hs']

/-- The 64 bits from any bit on. -/
def wordI (bs : List (BitVec 8)) (k : Int) : BitVec 64 := bvOf (fun j => bitI bs (k + j)) 64

theorem wordI_out {bs : List (BitVec 8)} {k : Int} (h : k ≤ -64 ∨ 8 * (bs.length : Int) ≤ k) : wordI bs k = 0#64 := by
  apply BitVec.eq_of_getLsbD_eq
  intro j hj
  rw [wordI, bvOf_bit _ _ _ (Nat.le_refl _)]
  have : bitI bs (k + j) = false := by
    unfold bitI
    rcases h with h | h
    · rw [decide_eq_false (by omega)]; rfl
    · rw [bbit_out (by omega)]; simp
  rw [this]; simp

theorem wordI_neg {bs : List (BitVec 8)} {k : Nat} (hk : k < 64) : wordB bs 0 <<< k = wordI bs (-(k : Int)) := by
  apply BitVec.eq_of_getLsbD_eq
  intro j hj
  rw [wordI, bvOf_bit _ _ _ (Nat.le_refl _), BitVec.getLsbD_shiftLeft, wordB, bvOf_bit _ _ _ (Nat.le_refl _)]
  unfold bitI
  by_cases h : j < k
  · have : ¬ 0 ≤ -(k : Int) + j := by omega
    simp [h, this]
  · have h1 : 0 ≤ -(k : Int) + j := by omega
    have h2 : (-(k : Int) + j).toNat = j - k := by omega
    have h3 : j - k < 64 := by omega
    simp [h, h1, h2, h3, hj]

theorem wordI_nat {bs : List (BitVec 8)} {k : Nat} : wordI bs (k : Int) = wordB bs k := by
  unfold wordI wordB
  apply bvOf_congr
  intro j _
  unfold bitI
  rw [decide_eq_true (by omega)]
  have : ((k : Int) + j).toNat = k + j := by omega
  rw [this]; simp

theorem WordI_spec {h : Heap} {v : Value} {bs : List (BitVec 8)} (r : Bytes h v bs) {k : Int} (hl : bs.length ≤ 1000000000000000) :
    Gives P T (.fn F_pack_Word) [v, .int .i64 k] h fun r h' => r = .int .u64 (wi (wordI bs k)) ∧ h' = h := by
  by_cases h0 : k ≤ -64 ∨ 8 * (bs.length : Int) ≤ k
  · obtain ⟨b, c, rfl, hr⟩ := r.reads.shape
    simp only [List.length_map] at hr ⊢
    refine gives_by t_pack_Word (by simp [c_pack_Word]) fun Q hQ => ?_
    rw [wordI_out h0] at hQ
    obtain ⟨N, hN⟩ : ∃ N, bs.length = N := ⟨_, rfl⟩
    rw [hN] at hl h0 ⊢
    have e8 : IntKind.i64.wrap (8 * (N : Int)) = 8 * (N : Int) := wrap_i64 (by omega) (by omega)
    by_cases h1 : k ≤ -64
    · simp [c_pack_Word, h1, skipV]
      exact hQ _ _ ⟨rfl, rfl⟩
    · have h2 : 8 * (N : Int) ≤ k := by omega
      simp [c_pack_Word, h1, e8, h2]
      exact hQ _ _ ⟨rfl, rfl⟩
  · by_cases hn : k < 0
    · obtain ⟨b, c, ev, hr⟩ := r.reads.shape
      simp only [List.length_map] at hr ev
      refine gives_by t_pack_Word (by simp [c_pack_Word]) fun Q hQ => ?_
      obtain ⟨N, hN⟩ : ∃ N, bs.length = N := ⟨_, rfl⟩
      rw [hN] at hl h0 ev
      have e8 : IntKind.i64.wrap (8 * (N : Int)) = 8 * (N : Int) := wrap_i64 (by omega) (by omega)
      have h1 : ¬ k ≤ -64 := by omega
      have h2 : ¬ 8 * (N : Int) ≤ k := by omega
      obtain ⟨m, rfl⟩ : ∃ m : Nat, k = -(m : Int) := ⟨(-k).toNat, by omega⟩
      have f1 : IntKind.i64.wrap (m : Int) = m := wrap_i64 (by omega) (by omega)
      have hw0 := @Word_spec h v bs r 0 (by omega) (by omega)
      have hlen : lenR h v = some (.int .i64 N, h) := by rw [ev]; simp
      have hmp : 0 < m := by omega
      simp [c_pack_Word, h1, hlen, e8, h2, hn, hmp]
      refine got_call hw0 ?_
      rintro _ _ ⟨rfl, rfl⟩
      have hu : aun P .neg (.int .i64 (-(m : Int))) = some (.int .i64 m) := by
        show some (Value.int .i64 (IntKind.i64.wrap (0 - -(m : Int)))) = _
        rw [show (0 : Int) - -(m : Int) = m by omega, f1]
      simp [hu]
      refine hQ _ _ ⟨?_, rfl⟩
      rw [wordI_neg (by omega)]
    · obtain ⟨k, rfl⟩ : ∃ k' : Nat, k = k' := ⟨k.toNat, by omega⟩
      rw [wordI_nat]
      exact Word_spec r hl (by omega)

theorem refWord2_spec {h : Heap} {v : Value} {bs : List (BitVec 8)} (r : Reads h v (bs.map bv)) {k : Int} (hl : bs.length ≤ 100000000000000000) :
    Gives P T (.fn F_colonnaderef02_Word) [v, .int .i64 k] h fun r h' => r = .int .u64 (wi (wordI bs k)) ∧ h' = h := by
  obtain ⟨b, c, ev, hr⟩ := r.shape
  simp only [List.length_map] at hr ev
  refine gives_by t_colonnaderef02_Word (by simp [c_colonnaderef02_Word]) fun Q hQ => ?_
  obtain ⟨N, hN⟩ : ∃ N, bs.length = N := ⟨_, rfl⟩
  rw [hN] at ev hl
  have hlen : lenR h v = some (.int .i64 N, h) := by rw [ev]; simp
  have e8 : IntKind.i64.wrap (8 * (N : Int)) = 8 * (N : Int) := wrap_i64 (by omega) (by omega)
  by_cases h1 : k ≤ -64
  · rw [wordI_out (.inl h1)] at hQ
    simp [c_colonnaderef02_Word, h1, skipV]
    exact hQ _ _ ⟨rfl, rfl⟩
  by_cases h2 : 8 * (N : Int) ≤ k
  · rw [wordI_out (.inr (by omega))] at hQ
    simp [c_colonnaderef02_Word, h1, hlen, e8, h2]
    exact hQ _ _ ⟨rfl, rfl⟩
  simp [c_colonnaderef02_Word, h1, hlen, e8, h2]
  refine go_loopK (fun kk ks h2 => ∃ (j : Nat), kk = 64 - j ∧ j ≤ 64 ∧ ks = [(0, v), (1, .int .i64 k), (5, .int .u64 (wi (bvOf (fun j => bitI bs (k + j)) j))), (6, .int .i64 j)] ∧ h2 = h) (n := 64) ⟨0, rfl, by omega, rfl, rfl⟩ (by simp [bvOf]) ?_
  rintro I hI kk ks e h3 ⟨j, rfl, hj, rfl, rfl⟩
  simp
  by_cases hlt : j < 64
  · have hlt' : (j : Int) < 64 := by omega
    have e2 : IntKind.i64.wrap (k + (j : Int)) = k + j := wrap_i64 (by omega) (by omega)
    have e3 : IntKind.u64.wrap (j : Int) = j := wrap_u64 (by omega) (by omega)
    have e4 : IntKind.i64.wrap ((j : Int) + 1) = ((j + 1 : Nat) : Int) := by rw [wrap_i64 (by omega) (by omega)]; omega
    simp [hlt, hlt', e2]
    refine got_call (refBit2_spec r (by omega)) ?_
    rintro _ _ ⟨rfl, rfl⟩
    simp [e3, e4]
    refine ⟨64 - (j + 1), by omega, hI _ _ _ _ ⟨j + 1, rfl, by omega, rfl, rfl⟩ ?_⟩
    simp [bvOf]
  · have hj64 : j = 64 := by omega
    subst hj64
    simp
    exact hQ _ _ ⟨rfl, rfl⟩

/-- The number in a lane, if it is there. -/
def atE (bs : List (BitVec 8)) (w i : Int) : BitVec 64 × Bool :=
  if ¬ (0 ≤ w ∧ w ≤ 64) ∨ i < 0 then (0#64, false) else if w = 0 then (0#64, true) else if ((8 * bs.length / w.toNat : Nat) : Int) ≤ i then (0#64, false) else (laneB bs w.toNat i.toNat, true)

theorem at_le {N w i : Nat} (h0 : 0 < w) (h : i < 8 * N / w) : i * w ≤ 8 * N := by
  have := (Nat.le_div_iff_mul_le h0).1 (Nat.le_of_lt h)
  exact this

theorem At_spec {h : Heap} {v : Value} {bs : List (BitVec 8)} (r : Bytes h v bs) {w i : Int} (hl : bs.length ≤ 140737488351232) :
    Gives P T (.fn F_pack_At) [v, .int .i64 w, .int .i64 i] h fun r h' => r = .tuple #[.int .u64 (wi (atE bs w i).1), .bool (atE bs w i).2] ∧ h' = h := by
  obtain ⟨b, c, ev, hr⟩ := r.reads.shape
  simp only [List.length_map] at hr ev
  obtain ⟨N, hN⟩ : ∃ N, bs.length = N := ⟨_, rfl⟩
  rw [hN] at ev hl
  have hlen : ∀ h, lenR h v = some (.int .i64 N, h) := fun h => by rw [ev]; simp
  have e8 : IntKind.i64.wrap (8 * (N : Int)) = ((8 * N : Nat) : Int) := by rw [wrap_i64 (by omega) (by omega)]; omega
  refine gives_by t_pack_At (by simp [c_pack_At]) fun Q hQ => ?_
  simp [c_pack_At]
  refine got_call (may_spec _) ?_
  rintro _ _ ⟨rfl, rfl⟩
  rename_i h
  by_cases hm : 0 ≤ w ∧ w ≤ 64
  case neg =>
    have : atE bs w i = (0#64, false) := by unfold atE; rw [if_pos (.inl hm)]
    rw [this] at hQ
    simp [hm]
    exact hQ _ _ ⟨rfl, rfl⟩
  obtain ⟨w, rfl⟩ : ∃ w' : Nat, w = w' := ⟨w.toNat, by omega⟩
  have hw64 : (w : Int) ≤ 64 := hm.2
  by_cases hi : i < 0
  · have : atE bs w i = (0#64, false) := by unfold atE; rw [if_pos (.inr hi)]
    rw [this] at hQ
    simp [hw64, hi]
    exact hQ _ _ ⟨rfl, rfl⟩
  by_cases hw0 : w = 0
  · subst hw0
    have : atE bs ((0 : Nat) : Int) i = (0#64, true) := by unfold atE; rw [if_neg (by omega), if_pos (by omega)]
    rw [this] at hQ
    simp [hi, skipV]
    exact hQ _ _ ⟨rfl, rfl⟩
  obtain ⟨i, rfl⟩ : ∃ i' : Nat, i = i' := ⟨i.toNat, by omega⟩
  have hwp : 0 < w := by omega
  have f1 := tdiv_nat (8 * N) w
  obtain ⟨D, hD⟩ : ∃ D, 8 * N / w = D := ⟨_, rfl⟩
  rw [hD] at f1
  have hD8 : D ≤ 8 * N := by rw [← hD]; exact Nat.div_le_self _ _
  obtain ⟨N8, hN8⟩ : ∃ x, 8 * N = x := ⟨_, rfl⟩
  rw [hN8] at e8 f1
  have f2 : IntKind.i64.wrap (D : Int) = D := wrap_i64 (by omega) (by omega)
  have hAt : atE bs w i = if (D : Int) ≤ i then (0#64, false) else (laneB bs w i, true) := by
    unfold atE; rw [if_neg (by omega), if_neg (by omega), hN, Int.toNat_natCast, Int.toNat_natCast, hD]
  by_cases hge : (D : Int) ≤ i
  · rw [hAt, if_pos hge] at hQ
    simp [hw64, hi, hwp, hw0, hlen, e8, f1, f2, hge]
    exact hQ _ _ ⟨rfl, rfl⟩
  · rw [hAt, if_neg hge] at hQ
    have hs := at_le (N := N) hwp (i := i) (by omega)
    obtain ⟨s, hs'⟩ : ∃ s, i * w = s := ⟨_, rfl⟩
    have f3 : (i : Int) * w = (s : Int) := by rw [← hs', Int.natCast_mul]
    have f4 : IntKind.i64.wrap (s : Int) = s := wrap_i64 (by omega) (by omega)
    simp [hw64, hi, hwp, hw0, hlen, e8, f1, f2, hge, f3, f4]
    refine got_call (Word_spec r (by omega) (by omega)) ?_
    rintro _ _ ⟨rfl, rfl⟩
    rename_i h
    simp
    refine got_call (mask_spec (by omega)) ?_
    rintro _ _ ⟨rfl, rfl⟩
    simp
    refine hQ _ _ ⟨?_, rfl⟩
    simp only [laneB, hs', lane_word (show w ≤ 64 by omega)]

theorem refAt_spec {h : Heap} {v : Value} {bs : List (BitVec 8)} (r : Reads h v (bs.map bv)) {w i : Int} (hl : bs.length ≤ 140737488351232) :
    Gives P T (.fn F_colonnaderef02_At) [v, .int .i64 w, .int .i64 i] h fun r h' => r = .tuple #[.int .u64 (wi (atE bs w i).1), .bool (atE bs w i).2] ∧ h' = h := by
  obtain ⟨b, c, ev, hr⟩ := r.shape
  simp only [List.length_map] at hr ev
  obtain ⟨N, hN⟩ : ∃ N, bs.length = N := ⟨_, rfl⟩
  rw [hN] at ev hl
  have hlen : ∀ h, lenR h v = some (.int .i64 N, h) := fun h => by rw [ev]; simp
  have e8 : IntKind.i64.wrap (8 * (N : Int)) = ((8 * N : Nat) : Int) := by rw [wrap_i64 (by omega) (by omega)]; omega
  refine gives_by t_colonnaderef02_At (by simp [c_colonnaderef02_At]) fun Q hQ => ?_
  simp [c_colonnaderef02_At]
  refine got_call (May_spec _) ?_
  rintro _ _ ⟨rfl, rfl⟩
  rename_i h
  by_cases hm : 0 ≤ w ∧ w ≤ 64
  case neg =>
    have : atE bs w i = (0#64, false) := by unfold atE; rw [if_pos (.inl hm)]
    rw [this] at hQ
    simp [hm, skipV]
    exact hQ _ _ ⟨rfl, rfl⟩
  obtain ⟨w, rfl⟩ : ∃ w' : Nat, w = w' := ⟨w.toNat, by omega⟩
  have hw64 : (w : Int) ≤ 64 := hm.2
  by_cases hi : i < 0
  · have : atE bs w i = (0#64, false) := by unfold atE; rw [if_pos (.inr hi)]
    rw [this] at hQ
    simp [hw64, hi]
    exact hQ _ _ ⟨rfl, rfl⟩
  by_cases hw0 : w = 0
  · subst hw0
    have : atE bs ((0 : Nat) : Int) i = (0#64, true) := by unfold atE; rw [if_neg (by omega), if_pos (by omega)]
    rw [this] at hQ
    simp [hi, skipV]
    exact hQ _ _ ⟨rfl, rfl⟩
  obtain ⟨i, rfl⟩ : ∃ i' : Nat, i = i' := ⟨i.toNat, by omega⟩
  have hwp : 0 < w := by omega
  have f1 := tdiv_nat (8 * N) w
  obtain ⟨D, hD⟩ : ∃ D, 8 * N / w = D := ⟨_, rfl⟩
  rw [hD] at f1
  have hD8 : D ≤ 8 * N := by rw [← hD]; exact Nat.div_le_self _ _
  obtain ⟨N8, hN8⟩ : ∃ x, 8 * N = x := ⟨_, rfl⟩
  rw [hN8] at e8 f1
  have f2 : IntKind.i64.wrap (D : Int) = D := wrap_i64 (by omega) (by omega)
  have hAt : atE bs w i = if (D : Int) ≤ i then (0#64, false) else (laneB bs w i, true) := by
    unfold atE; rw [if_neg (by omega), if_neg (by omega), hN, Int.toNat_natCast, Int.toNat_natCast, hD]
  by_cases hge : (D : Int) ≤ i
  · rw [hAt, if_pos hge] at hQ
    simp [hw64, hi, hwp, hw0, hlen, e8, f1, f2, hge]
    exact hQ _ _ ⟨rfl, rfl⟩
  · rw [hAt, if_neg hge] at hQ
    have hs := at_le (N := N) hwp (i := i) (by omega)
    simp [hw64, hi, hwp, hw0, hlen, e8, f1, f2, hge]
    refine got_call (refLane2_spec r (by omega) (by omega)) ?_
    rintro _ _ ⟨rfl, rfl⟩
    simp
    exact hQ _ _ ⟨rfl, rfl⟩


theorem ats_spec {h : Heap} {v : Value} {bs : List (BitVec 8)} (r : ArgS h v (bs.map bv)) (w i bit : Int) (hl : bs.length ≤ 140737488351232) :
    Gives P T (.fn F_colonnadelaw02_PackAts) [v, .int .i64 w, .int .i64 i, .int .i64 bit] h fun r _ => r = .bool true := by
  refine gives_by t_colonnadelaw02_PackAts (by simp [c_colonnadelaw02_PackAts]) fun Q hQ => ?_
  obtain ⟨N, hN⟩ : ∃ N, bs.length = N := ⟨_, rfl⟩
  rw [hN] at hl
  simp [c_colonnadelaw02_PackAts]
  refine got_call (bytesLent_spec r.reads (by omega)) ?_
  rintro u h1 ⟨q, rm, g1, hq⟩
  obtain ⟨uu, eu, _⟩ := rm
  have eu' := eu
  simp only [List.length_map, hN] at eu
  simp
  refine go_loopK (fun kk ks h2 => ∃ (k : Nat) (bs : List (BitVec 8)), kk = 2 - k ∧ k ≤ 2 ∧ ks = [(1, .int .i64 w), (2, .int .i64 i), (3, .int .i64 bit), (9, u), (10, .int .i64 k)] ∧ bs.length = N ∧ Room h2 u q (bs.map bv) ((marksL 66).map bv) ∧ h1.dyn.length ≤ h2.dyn.length) (n := 2)
    ⟨0, bs, rfl, by omega, rfl, hN, ⟨uu, eu', by assumption⟩, Nat.le_refl _⟩ (by simp) ?_
  rintro I hI kk ks e h2 ⟨k, bs, rfl, hk, rfl, hN, rm, hgl⟩
  simp
  by_cases hlt : k < 2
  · have hlt' : (k : Int) < 2 := by omega
    have e4 : IntKind.i64.wrap ((k : Int) + 1) = ((k + 1 : Nat) : Int) := by rw [wrap_i64 (by omega) (by omega)]; omega
    obtain ⟨v3, h3, q3, e3, o3, g3, hq3, _⟩ := clone_app rm.reads (by omega)
    have rm3 := rm.grow g3
    have rb3 : Bytes h3 u bs := by
      refine ⟨rm3.reads, ?_⟩
      obtain ⟨u2, rfl, r2⟩ := rm3
      intro a n c e _
      simp only [Value.slice.injEq, Option.some.injEq] at e
      obtain ⟨rfl, rfl, rfl⟩ := e
      exact ⟨r2.esOk _, fun h => absurd h (Nat.lt_irrefl _), Nat.le_refl _⟩
    simp [hlt, hlt', e3]
    refine got_call (refAt_spec o3.reads (by omega)) ?_
    rintro _ _ ⟨rfl, rfl⟩
    rename_i h3
    simp
    refine got_call (At_spec rb3 (by omega)) ?_
    rintro _ _ ⟨rfl, rfl⟩
    rename_i h3
    simp
    refine got_call (WordI_spec rb3 (by omega)) ?_
    rintro _ _ ⟨rfl, rfl⟩
    rename_i h3
    simp
    refine got_call (refWord2_spec o3.reads (by omega)) ?_
    rintro _ _ ⟨rfl, rfl⟩
    rename_i h3
    simp
    refine got_call (bytesKept_spec rm3 o3.reads (by omega)) ?_
    rintro _ _ ⟨rfl, rfl⟩
    rename_i h3
    simp
    have hl3 := rm3.lt
    refine go_loopK (fun kk ks h4 => ∃ (j : Nat) (bs : List (BitVec 8)), kk = N - j ∧ j ≤ N ∧ ks = [(1, .int .i64 w), (2, .int .i64 i), (3, .int .i64 bit), (9, u), (10, .int .i64 k), (16, .int .i64 j)] ∧ bs.length = N ∧ Room h4 u q (bs.map bv) ((marksL 66).map bv) ∧ h3.dyn.length ≤ h4.dyn.length) (n := N)
      ⟨0, bs, rfl, by omega, rfl, hN, rm3, Nat.le_refl _⟩ (by simp) ?_
    rintro I2 hI2 kk2 ks2 e2 h4 ⟨j, bs, rfl, hj, rfl, hN, rm4, hg4⟩
    simp [eu]
    refine branch_dec (fun hlt2 => ?_) (fun hge2 => ?_)
    · have hjN : j < N := by omega
      have e5 : IntKind.i64.wrap ((j : Int) + 1) = ((j + 1 : Nat) : Int) := by rw [wrap_i64 (by omega) (by omega)]; omega
      obtain ⟨u2, h5, ev2, es, rm5, c5, n5⟩ := rm4.set (i := j) (by simp; omega) (x := .int .u8 (bi (byteA bs j + 7#8))) (by simp)
      have hu : uu = u2 := by rw [eu'] at ev2; simp at ev2; exact ev2.1
      subst hu
      have hld : hload h4 ⟨q, j, some uu⟩ = some (.int .u8 (bi (byteA bs j))) := by
        obtain ⟨u3, e3, r3⟩ := rm4
        have : u3 = uu := by rw [eu'] at e3; simp at e3; exact e3.1.symm
        subst this
        exact r3.get (by rw [List.getElem?_append_left (by simp; omega)]; exact bv_get (by omega))
      simp [hjN, hld, es, e5]
      refine ⟨N - (j + 1), by omega, hI2 _ _ _ _ ⟨j + 1, bs.set j (byteA bs j + 7#8), rfl, by omega, rfl, by simpa using hN, ?_, by omega⟩ (by simp [eu])⟩
      rw [List.map_set]; exact rm5
    · have hjN : j = N := by omega
      subst hjN
      simp [e4]
      have := g3.len
      exact ⟨2 - (k + 1), by omega, hI _ _ _ _ ⟨k + 1, bs, rfl, by omega, rfl, hN, rm4, by omega⟩ (by simp [eu])⟩
  · have hk2 : k = 2 := by omega
    subst hk2
    simp
    exact hQ _ _ rfl

end Go.Ax
