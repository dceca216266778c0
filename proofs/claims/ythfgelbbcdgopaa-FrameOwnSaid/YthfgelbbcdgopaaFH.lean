/- Seat frame: what is put is opened again: the plain law. -/
import Derived.Test.YthfgelbbcdgopaaFG
namespace Go.Ax
open Go.Proofs
set_option linter.unusedVariables false
set_option linter.unusedSimpArgs false
set_option maxRecDepth 1000000

theorem awake_run (L : Nat → Nat → Option Value) : (acallN P T 60 (.fn F_colonnadelaw11_awake) [] (heap0 (roBlk noG L))).map (fun r => (r.1, r.2.ro)) = some (.bool true, roBlk noG L) := by kernel_rfl

theorem awake_spec (L : Nat → Nat → Option Value) : Gives P T (.fn F_colonnadelaw11_awake) [] (heap0 (roBlk noG L)) fun v h' => v = .bool true ∧ h'.ro = roBlk noG L := by
  have h := awake_run L
  rw [Option.map_eq_some_iff] at h
  obtain ⟨r, h1, h2⟩ := h
  simp only [Prod.mk.injEq] at h2
  exact gives_closed h1 h2

theorem packs_fine {cs : List (BitVec 64)} {w : Nat} {bs : List (BitVec 8)} (p : Packs cs w bs) (hn : cs.length ≤ 16777216) (hw : w ≤ 64) : Fine bs w cs.length :=
  ⟨hw, hn, p.len, fun i hi => by rw [p.bits]; simp; omega⟩

theorem packs_lane {cs : List (BitVec 64)} {w : Nat} {bs : List (BitVec 8)} (p : Packs cs w bs) (hw : w ≤ 64) (hf : allFit cs w) {i : Nat} (hi : i < cs.length) : laneB bs w i = numA cs i := by
  symm
  apply eq_bvOf hw
  intro j hj
  by_cases hjw : j < w
  · have h1 : i * w + j < cs.length * w := by
      have := Nat.mul_le_mul_right w (show i + 1 ≤ cs.length by omega)
      rw [Nat.add_mul] at this; omega
    rw [p.bits, Nat.mul_comm i w, strm_at hjw]
    rw [Nat.mul_comm i w] at h1
    simp [hjw, h1]
  · have hlt := hf i hi
    have : (numA cs i).getLsbD j = false := by
      show (numA cs i).toNat.testBit j = false
      exact Nat.testBit_lt_two_pow (Nat.lt_of_lt_of_le hlt (Nat.pow_le_pow_right (by omega) (by omega)))
    rw [this]; simp [hjw]

/-- Numbers with a sign, 64 bits wide. -/
def rangeI (cs : List Int) : Prop := ∀ i, i < cs.length → -9223372036854775808 ≤ numI cs i ∧ numI cs i < 9223372036854775808

theorem ofInt_nat {a b : Int} (h1 : b ≤ a) (ha : -9223372036854775808 ≤ a ∧ a < 9223372036854775808) (hb : -9223372036854775808 ≤ b ∧ b < 9223372036854775808) : (BitVec.ofInt 64 a - BitVec.ofInt 64 b).toNat = (a - b).toNat := by
  have e : BitVec.ofInt 64 a - BitVec.ofInt 64 b = BitVec.ofInt 64 (a - b) := by
    rw [BitVec.sub_eq_add_neg, ← BitVec.ofInt_neg, ← BitVec.ofInt_add, Int.sub_eq_add_neg]
  rw [e, BitVec.toNat_ofInt]
  congr 1
  exact Int.emod_eq_of_lt (by omega) (by simp; omega)

theorem codeI_nat {base v : Int} (h1 : base ≤ v) (ha : -9223372036854775808 ≤ v ∧ v < 9223372036854775808) (hb : -9223372036854775808 ≤ base ∧ base < 9223372036854775808) : (codeI base v).toNat = (v - base).toNat := by
  unfold codeI
  rw [if_neg (by omega)]
  exact ofInt_nat h1 ha hb

theorem numA_code {cs : List Int} {base : Int} {i : Nat} (hi : i < cs.length) : numA (cs.map (codeI base)) i = codeI base (numI cs i) := by
  unfold numA numI
  rw [List.getD_eq_getElem?_getD, List.getElem?_map, List.getElem?_eq_getElem hi, List.getD_eq_getElem?_getD, List.getElem?_eq_getElem hi]; rfl

theorem base_range {cs : List Int} (hr : rangeI cs) : -9223372036854775808 ≤ baseL cs ∧ baseL cs < 9223372036854775808 := by
  unfold baseL
  split
  · omega
  · obtain ⟨i, h1, h2⟩ := minI_mem cs cs.length (by omega)
    rw [h2]; exact hr i h1
theorem base_le {cs : List Int} {i : Nat} (hi : i < cs.length) : baseL cs ≤ numI cs i := by
  unfold baseL
  rw [if_neg (by omega)]
  exact minI_le cs hi

theorem lift_code {base v : Int} (h1 : base ≤ v) (ha : -9223372036854775808 ≤ v ∧ v < 9223372036854775808) (hb : -9223372036854775808 ≤ base ∧ base < 9223372036854775808) : liftI base (codeI base v) = v := by
  unfold liftI
  have : wi (codeI base v) = v - base := by unfold wi; rw [codeI_nat h1 ha hb]; omega
  rw [this, wrap_i64 (by omega) (by omega)]; omega

theorem over_code {base v : Int} (h1 : base ≤ v) (ha : -9223372036854775808 ≤ v ∧ v < 9223372036854775808) (hb : -9223372036854775808 ≤ base ∧ base < 9223372036854775808) : overB base (codeI base v) = false := by
  unfold overB
  have e1 : wi (codeI base v) = v - base := by unfold wi; rw [codeI_nat h1 ha hb]; omega
  have e2 : wi (9223372036854775807#64 - BitVec.ofInt 64 base) = 9223372036854775807 - base := by
    have := @ofInt_nat 9223372036854775807 base (by omega) (by omega) hb
    rw [show BitVec.ofInt 64 9223372036854775807 = 9223372036854775807#64 by decide] at this
    unfold wi; rw [this]; omega
  rw [e1, e2]
  exact decide_eq_false (by omega)

theorem fit_fw {cs : List Int} (hr : rangeI cs) (w : Nat) : allFit (cs.map (codeI (baseL cs))) w ↔ fwE cs ≤ w := by
  unfold fwE
  by_cases h0 : cs.length = 0
  · rw [if_pos h0]
    exact ⟨fun _ => Nat.zero_le _, fun _ i hi => by rw [List.length_map] at hi; omega⟩
  rw [if_neg h0, blen_le]
  have hb := base_range hr
  have hbe : baseL cs = minI cs cs.length := by unfold baseL; rw [if_neg h0]
  obtain ⟨m, hm1, hm2⟩ := maxI_mem cs cs.length (by omega)
  have e1 : (codeI (minI cs cs.length) (maxI cs cs.length)).toNat = (maxI cs cs.length - baseL cs).toNat := by
    rw [← hbe, hm2]; exact codeI_nat (base_le hm1) (hr m hm1) hb
  rw [e1]
  constructor
  · intro h
    have := h m (by simpa using hm1)
    rw [numA_code hm1, codeI_nat (base_le hm1) (hr m hm1) hb] at this
    rw [hm2]; exact this
  · intro h i hi
    rw [List.length_map] at hi
    rw [numA_code hi, codeI_nat (base_le hi) (hr i hi) hb]
    have := le_maxI cs hi
    have := base_le hi
    omega

theorem fit_pw {cs : List Int} (hr : rangeI cs) (h : ¬ baseL cs < 0) (w : Nat) : allFit (cs.map (codeI 0)) w ↔ pwE cs ≤ w := by
  unfold pwE
  by_cases h0 : cs.length = 0
  · rw [if_pos h0]
    exact ⟨fun _ => Nat.zero_le _, fun _ i hi => by rw [List.length_map] at hi; omega⟩
  rw [if_neg h0, blen_le]
  obtain ⟨m, hm1, hm2⟩ := maxI_mem cs cs.length (by omega)
  have pos : ∀ i, i < cs.length → 0 ≤ numI cs i := fun i hi => by have := base_le hi; omega
  have e1 : (BitVec.ofInt 64 (maxI cs cs.length)).toNat = (maxI cs cs.length).toNat := by
    have := codeI_nat (pos m hm1) (hr m hm1) (by omega)
    unfold codeI at this
    rw [if_neg (by have := pos m hm1; omega), ← hm2] at this
    simpa using this
  rw [e1]
  constructor
  · intro h
    have := h m (by simpa using hm1)
    rw [numA_code hm1, codeI_nat (pos m hm1) (hr m hm1) (by omega)] at this
    rw [hm2]; simpa using this
  · intro h i hi
    rw [List.length_map] at hi
    rw [numA_code hi, codeI_nat (pos i hi) (hr i hi) (by omega)]
    have := le_maxI cs hi
    have := pos i hi
    omega

theorem fw_le_pw {cs : List Int} (hr : rangeI cs) (h : ¬ baseL cs < 0) : fwE cs ≤ pwE cs := by
  rw [← fit_fw hr, ]
  have hp := (fit_pw hr h (pwE cs)).2 (Nat.le_refl _)
  intro i hi
  have := hp i (by simpa using hi)
  rw [List.length_map] at hi
  rw [numA_code hi] at this ⊢
  have hb := base_range hr
  have := base_le hi
  rw [codeI_nat (base_le hi) (hr i hi) hb]
  rw [codeI_nat (by omega) (hr i hi) (by omega)] at *
  omega

theorem fw_64 (cs : List Int) : fwE cs ≤ 64 := by
  unfold fwE
  split
  · omega
  · exact blen_le.2 (BitVec.isLt _)

theorem wrap_ofInt {b : Int} (hb : -9223372036854775808 ≤ b ∧ b < 9223372036854775808) : IntKind.i64.wrap (wi (BitVec.ofInt 64 b)) = b := by
  have := lift_b b 0#64
  simp only [BitVec.add_zero] at this
  rw [this]
  unfold liftI
  simp
  exact wrap_i64 (by omega) (by omega)

theorem word_head8 (x : BitVec 64) : wordB (head8 x 8) 0 = x := by
  symm
  apply eq_bvOf (Nat.le_refl _)
  intro j hj
  unfold bbit
  rw [Nat.zero_add, head8_get (by omega), BitVec.getLsbD_setWidth, BitVec.getLsbD_ushiftRight, show 8 * (j / 8) + j % 8 = j by omega]
  simp [hj, show j % 8 < 8 by omega]

theorem baseF_put {cs : List Int} (hr : rangeI cs) (bs : List (BitVec 8)) : baseF (head8 (BitVec.ofInt 64 (baseL cs)) 8 ++ bs) = baseL cs := by
  unfold baseF
  rw [List.take_append_of_le_length (by rw [head8_len]; omega), List.take_of_length_le (by rw [head8_len]; omega), word_head8, wrap_ofInt (base_range hr)]

theorem drop_put (x : BitVec 64) (bs : List (BitVec 8)) : (head8 x 8 ++ bs).drop 8 = bs := by
  rw [List.drop_append_of_le_length (by rw [head8_len]; omega), List.drop_of_length_le (by rw [head8_len]; omega)]; rfl

theorem vals_put {cs : List Int} {base : Int} {w : Nat} {bs : List (BitVec 8)} (hr : rangeI cs) (hb : -9223372036854775808 ≤ base ∧ base < 9223372036854775808) (hle : ∀ i, i < cs.length → base ≤ numI cs i) (p : Packs (cs.map (codeI base)) w bs) (hw : w ≤ 64) (hf : allFit (cs.map (codeI base)) w) :
    valsL bs w cs.length base = cs ∧ within bs w cs.length base := by
  have hl : ∀ i, i < cs.length → laneB bs w i = codeI base (numI cs i) := fun i hi => by rw [packs_lane p hw hf (by simpa using hi), numA_code hi]
  constructor
  · apply List.ext_getElem?
    intro i
    by_cases hi : i < cs.length
    · rw [valsL_get hi, hl i hi, lift_code (hle i hi) (hr i hi) hb]
      unfold numI
      rw [List.getD_eq_getElem?_getD, List.getElem?_eq_getElem hi]; rfl
    · rw [List.getElem?_eq_none (by rw [valsL_len]; omega), List.getElem?_eq_none (by omega)]
  · intro i hi
    rw [hl i hi]; exact over_code (hle i hi) (hr i hi) hb

theorem zero_put {cs : List Int} {w : Nat} {bs : List (BitVec 8)} (hr : rangeI cs) (p : Packs (cs.map (codeI (baseL cs))) w bs) (hw : w ≤ 64) (hf : allFit (cs.map (codeI (baseL cs))) w) : zeroF bs w cs.length cs.length (baseL cs) = true := by
  unfold zeroF
  by_cases h0 : cs.length = 0
  · have : baseL cs = 0 := by unfold baseL; rw [if_pos h0]
    rw [this]; simp [h0]
  · obtain ⟨i, h1, h2⟩ := minI_mem cs cs.length (by omega)
    have hbe : baseL cs = numI cs i := by unfold baseL; rw [if_neg h0, h2]
    rw [Bool.or_eq_true]
    right
    rw [List.any_eq_true]
    refine ⟨i, by simpa using h1, decide_eq_true ?_⟩
    rw [packs_lane p hw hf (by simpa using h1), numA_code h1, hbe]
    unfold codeI
    rw [if_neg (by omega)]; simp

end Go.Ax
