/- Seat pack: At, Word, any bit; the law of them. -/
import Derived.Test.YthfgelbbcdgopaaPC
namespace Go.Ax
set_option linter.unusedVariables false
set_option linter.unusedSimpArgs false

theorem May_spec {h : Heap} (w : Int) : Gives P T (.fn F_colonnaderef02_May) [.int .i64 w] h fun r h' => r = .bool (decide (0 ≤ w ∧ w ≤ 64)) ∧ h' = h := by
  refine gives_by t_colonnaderef02_May (by simp [c_colonnaderef02_May]) fun Q hQ => ?_
  by_cases h1 : 0 ≤ w
  · simp [c_colonnaderef02_May, h1]
    exact hQ _ _ ⟨by simp [h1], rfl⟩
  · simp [c_colonnaderef02_May, h1, skipV]
    exact hQ _ _ ⟨by simp [h1], rfl⟩

/-- The lowest w bits. -/
def maskW (w : Nat) : BitVec 64 := bvOf (fun _ => true) w
theorem maskW_bit {w : Nat} (hw : w ≤ 64) (x : BitVec 64) (j : Nat) : (x &&& maskW w).getLsbD j = (x.getLsbD j && decide (j < w)) := by
  rw [BitVec.getLsbD_and, maskW, bvOf_bit _ _ _ hw]; simp

theorem mask_spec {h : Heap} {w : Nat} (hw : w ≤ 64) : Gives P T (.fn F_pack_mask) [.int .i64 w] h fun r h' => r = .int .u64 (wi (maskW w)) ∧ h' = h := by
  refine gives_by t_pack_mask (by simp [c_pack_mask]) fun Q hQ => ?_
  by_cases h64 : w = 64
  · subst h64
    simp [c_pack_mask]
    exact hQ _ _ ⟨rfl, rfl⟩
  · have h64' : ¬ (w : Int) = 64 := by omega
    simp [c_pack_mask, h64, h64']
    refine hQ _ _ ⟨?_, rfl⟩
    have : 1#64 <<< w - 1#64 = maskW w := by
      apply eq_bvOf hw
      intro j hj
      rw [mask_bit w j (by omega) hj]; simp
    rw [this]

theorem lane_word {bs : List (BitVec 8)} {w s : Nat} (hw : w ≤ 64) : wordB bs s &&& maskW w = bvOf (fun j => bbit bs (s + j)) w := by
  apply eq_bvOf hw
  intro j hj
  rw [maskW_bit hw, wordB, bvOf_bit _ _ _ (Nat.le_refl _)]
  simp [hj, Bool.and_comm]

/-- A bit, any. -/
def bitI (bs : List (BitVec 8)) (k : Int) : Bool := decide (0 ≤ k) && bbit bs k.toNat

theorem refBit2_spec {h : Heap} {v : Value} {bs : List (BitVec 8)} (r : Reads h v (bs.map bv)) {k : Int} (hk : k ≤ 1000000000000000000) :
    Gives P T (.fn F_colonnaderef02_Bit) [v, .int .i64 k] h fun r h' => r = .int .u64 (wi (bitV (bitI bs k))) ∧ h' = h := by
  obtain ⟨b, c, rfl, hr⟩ := r.shape
  simp only [List.length_map] at hr ⊢
  refine gives_by t_colonnaderef02_Bit (by simp [c_colonnaderef02_Bit]) fun Q hQ => ?_
  by_cases k0 : k < 0
  · have : bitI bs k = false := by unfold bitI; rw [decide_eq_false (by omega)]; rfl
    rw [this] at hQ
    simp [c_colonnaderef02_Bit, k0, skipV]
    exact hQ _ _ ⟨rfl, rfl⟩
  obtain ⟨k, rfl⟩ : ∃ k' : Nat, k = k' := ⟨k.toNat, by omega⟩
  have hb : bitI bs k = bbit bs k := by unfold bitI; rw [decide_eq_true (by omega)]; simp
  rw [hb] at hQ
  have e1 := tmod_nat k 8
  have e2 := tdiv_nat k 8
  obtain ⟨m, hm⟩ : ∃ m, k % 8 = m := ⟨_, rfl⟩
  obtain ⟨d, hd⟩ : ∃ d, k / 8 = d := ⟨_, rfl⟩
  rw [hm] at e1
  rw [hd] at e2
  simp only [Int.cast_ofNat_Int] at e1 e2
  have e3 : IntKind.i64.wrap (d : Int) = d := wrap_i64 (by omega) (by omega)
  have e4 : IntKind.u64.wrap (m : Int) = m := wrap_u64 (by omega) (by omega)
  by_cases hlt : d < bs.length
  · have h1 : ¬ ((bs.length : Int) ≤ d) := by omega
    obtain ⟨a, rfl, ha⟩ := hr d hlt
    have hl := ha d _ (bv_get hlt)
    simp [c_colonnaderef02_Bit, k0, e1, e2, e3, e4, h1, hlt, hl, and_one64]
    refine hQ _ _ ⟨?_, rfl⟩
    unfold bbit
    rw [hd, hm, decide_eq_true (show m < 64 by omega), Bool.true_and]
  · have h1 : ((bs.length : Int) ≤ d) := by omega
    simp [c_colonnaderef02_Bit, k0, e1, e2, e3, h1]
    refine hQ _ _ ⟨?_, rfl⟩
    rw [bbit_out (by omega)]; rfl

theorem refLane2_spec {h : Heap} {v : Value} {bs : List (BitVec 8)} (r : Reads h v (bs.map bv)) {i w : Nat} (hw : w ≤ 64) (hs : i * w ≤ 100000000000000000) :
    Gives P T (.fn F_colonnaderef02_Lane) [v, .int .i64 w, .int .i64 i] h fun r h' => r = .int .u64 (wi (laneB bs w i)) ∧ h' = h := by
  obtain ⟨s, hs'⟩ : ∃ s, i * w = s := ⟨_, rfl⟩
  have f0 : (i : Int) * w = (s : Int) := by rw [← hs', Int.natCast_mul]
  have f1 : IntKind.i64.wrap (s : Int) = s := wrap_i64 (by omega) (by omega)
  refine gives_by t_colonnaderef02_Lane (by simp [c_colonnaderef02_Lane]) fun Q hQ => ?_
  simp [c_colonnaderef02_Lane]
  refine go_loopK (fun k ks h2 => ∃ (j : Nat), k = w - j ∧ j ≤ w ∧ ks = [(0, v), (1, .int .i64 w), (2, .int .i64 i), (7, .int .u64 (wi (bvOf (fun j => bbit bs (s + j)) j))), (8, .int .i64 j)] ∧ h2 = h) (n := w) ⟨0, rfl, by omega, rfl, rfl⟩ (by simp [bvOf]) ?_
  rintro I hI k ks e h3 ⟨j, rfl, hj, rfl, rfl⟩
  simp
  refine branch_dec (fun hlt => ?_) (fun hge => ?_)
  · have hil : j < w := by omega
    have e2 : IntKind.i64.wrap ((s : Int) + j) = ((s + j : Nat) : Int) := by rw [wrap_i64 (by omega) (by omega)]; omega
    obtain ⟨s2, hs2⟩ : ∃ s2, s + j = s2 := ⟨_, rfl⟩
    rw [hs2] at e2
    have e3 : IntKind.u64.wrap (j : Int) = j := wrap_u64 (by omega) (by omega)
    have e4 : IntKind.i64.wrap ((j : Int) + 1) = ((j + 1 : Nat) : Int) := by rw [wrap_i64 (by omega) (by omega)]; omega
    simp [f0, f1, e2]
    refine got_call (refBit2_spec r (by omega)) ?_
    rintro _ _ ⟨rfl, rfl⟩
    simp [e3, e4]
    refine ⟨w - (j + 1), by omega, hI _ _ _ _ ⟨j + 1, rfl, by omega, rfl, rfl⟩ ?_⟩
    simp [bvOf, hs2, bitI]
  · have hil : j = w := by omega
    subst hil
    simp
    refine hQ _ _ ⟨?_, rfl⟩
    rw [laneB, hs']

/-- The 64 bits from any bit on. -/
def wordI (bs : List (BitVec 8)) (k : Int) : BitVec 64 := bvOf (fun j => bitI bs (k + j)) 64

theorem wordI_out {bs : List (BitVec 8)} {k : Int} (h : k ≤ -64 ∨ 8 * (bs.length : Int) ≤ k) : wordI bs k = 0#64 := by
  apply BitVec.eq_of_getLsbD_eq
  intro j hj
  rw [wordI, bvOf_bit _ _ _ (Nat.le_refl _)]
  have : bitI bs (k + j) = false := by
    unfold bitI
    rcases h with h | h
    · rw [decide_eq_false (by omega)]; rfl
    · rw [bbit_out (by omega)]; simp
  rw [this]; simp

theorem wordI_neg {bs : List (BitVec 8)} {k : Nat} (hk : k < 64) : wordB bs 0 <<< k = wordI bs (-(k : Int)) := by
  apply BitVec.eq_of_getLsbD_eq
  intro j hj
  rw [wordI, bvOf_bit _ _ _ (Nat.le_refl _), BitVec.getLsbD_shiftLeft, wordB, bvOf_bit _ _ _ (Nat.le_refl _)]
  unfold bitI
  by_cases h : j < k
  · have : ¬ 0 ≤ -(k : Int) + j := by omega
    simp [h, this]
  · have h1 : 0 ≤ -(k : Int) + j := by omega
    have h2 : (-(k : Int) + j).toNat = j - k := by omega
    have h3 : j - k < 64 := by omega
    simp [h, h1, h2, h3, hj]

theorem wordI_nat {bs : List (BitVec 8)} {k : Nat} : wordI bs (k : Int) = wordB bs k := by
  unfold wordI wordB
  apply bvOf_congr
  intro j _
  unfold bitI
  rw [decide_eq_true (by omega)]
  have : ((k : Int) + j).toNat = k + j := by omega
  rw [this]; simp

theorem WordI_spec {h : Heap} {v : Value} {bs : List (BitVec 8)} (r : Bytes h v bs) {k : Int} (hl : bs.length ≤ 1000000000000000) :
    Gives P T (.fn F_pack_Word) [v, .int .i64 k] h fun r h' => r = .int .u64 (wi (wordI bs k)) ∧ h' = h := by
  by_cases h0 : k ≤ -64 ∨ 8 * (bs.length : Int) ≤ k
  · obtain ⟨b, c, rfl, hr⟩ := r.reads.shape
    simp only [List.length_map] at hr ⊢
    refine gives_by t_pack_Word (by simp [c_pack_Word]) fun Q hQ => ?_
    rw [wordI_out h0] at hQ
    obtain ⟨N, hN⟩ : ∃ N, bs.length = N := ⟨_, rfl⟩
    rw [hN] at hl h0 ⊢
    have e8 : IntKind.i64.wrap (8 * (N : Int)) = 8 * (N : Int) := wrap_i64 (by omega) (by omega)
    by_cases h1 : k ≤ -64
    · simp [c_pack_Word, h1, skipV]
      exact hQ _ _ ⟨rfl, rfl⟩
    · have h2 : 8 * (N : Int) ≤ k := by omega
      simp [c_pack_Word, h1, e8, h2]
      exact hQ _ _ ⟨rfl, rfl⟩
  · by_cases hn : k < 0
    · obtain ⟨b, c, ev, hr⟩ := r.reads.shape
      simp only [List.length_map] at hr ev
      refine gives_by t_pack_Word (by simp [c_pack_Word]) fun Q hQ => ?_
      obtain ⟨N, hN⟩ : ∃ N, bs.length = N := ⟨_, rfl⟩
      rw [hN] at hl h0 ev
      have e8 : IntKind.i64.wrap (8 * (N : Int)) = 8 * (N : Int) := wrap_i64 (by omega) (by omega)
      have h1 : ¬ k ≤ -64 := by omega
      have h2 : ¬ 8 * (N : Int) ≤ k := by omega
      obtain ⟨m, rfl⟩ : ∃ m : Nat, k = -(m : Int) := ⟨(-k).toNat, by omega⟩
      have f1 : IntKind.i64.wrap (m : Int) = m := wrap_i64 (by omega) (by omega)
      have hw0 := @Word_spec h v bs r 0 (by omega) (by omega)
      have hlen : lenR h v = some (.int .i64 N, h) := by rw [ev]; simp
      have hmp : 0 < m := by omega
      simp [c_pack_Word, h1, hlen, e8, h2, hn, hmp]
      refine got_call hw0 ?_
      rintro _ _ ⟨rfl, rfl⟩
      have hu : aun P .neg (.int .i64 (-(m : Int))) = some (.int .i64 m) := by
        show some (Value.int .i64 (IntKind.i64.wrap (0 - -(m : Int)))) = _
        rw [show (0 : Int) - -(m : Int) = m by omega, f1]
      simp [hu]
      refine hQ _ _ ⟨?_, rfl⟩
      rw [wordI_neg (by omega)]
    · obtain ⟨k, rfl⟩ : ∃ k' : Nat, k = k' := ⟨k.toNat, by omega⟩
      rw [wordI_nat]
      exact Word_spec r hl (by omega)

/-- The number in a lane, if it is there. -/
def atE (bs : List (BitVec 8)) (w i : Int) : BitVec 64 × Bool :=
  if ¬ (0 ≤ w ∧ w ≤ 64) ∨ i < 0 then (0#64, false) else if w = 0 then (0#64, true) else if ((8 * bs.length / w.toNat : Nat) : Int) ≤ i then (0#64, false) else (laneB bs w.toNat i.toNat, true)

theorem at_le {N w i : Nat} (h0 : 0 < w) (h : i < 8 * N / w) : i * w ≤ 8 * N := by
  have := (Nat.le_div_iff_mul_le h0).1 (Nat.le_of_lt h)
  exact this

end Go.Ax
