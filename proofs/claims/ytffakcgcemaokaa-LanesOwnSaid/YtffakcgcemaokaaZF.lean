/- Seat lanes: faults, tests, intervals, lists. -/
import Derived.Test.YtffakcgcemaokaaZE
namespace Go.Ax
set_option linter.unusedVariables false
set_option linter.unusedSimpArgs false

/-- Is a bit from number a on set? -/
def anyFrom (bs : List (BitVec 8)) (a : Nat) : Bool := (List.range (8 * bs.length)).any fun i => decide (a ≤ i) && bbit bs i

theorem anyFrom_false {bs : List (BitVec 8)} {a : Nat} : anyFrom bs a = false ↔ ∀ i, a ≤ i → bbit bs i = false := by
  unfold anyFrom
  rw [List.any_eq_false]
  constructor
  · intro h i hi
    by_cases hl : i < 8 * bs.length
    · have := h i (by simpa using hl)
      simpa [hi] using this
    · exact bbit_out (by omega)
  · intro h i _
    by_cases hi : a ≤ i
    · simp [h i hi]
    · simp [hi]

/-- Why packed numbers are none. -/
def faultE (bs : List (BitVec 8)) (w n : Int) : Int :=
  if w < 0 ∨ 64 < w then 20 else if n < 0 then 2 else if 16777216 < n then 3 else if (bs.length : Int) < (n * w + 7) / 8 then 22 else if (n * w + 7) / 8 < (bs.length : Int) then 23
  else if anyFrom bs (n * w).toNat then 23 else 0

structure Fine (bs : List (BitVec 8)) (w n : Nat) : Prop where
  wle : w ≤ 64
  nle : n ≤ 16777216
  len : bs.length = (n * w + 7) / 8
  out : ∀ i, n * w ≤ i → bbit bs i = false

theorem Fine.le {bs : List (BitVec 8)} {w n : Nat} (g : Fine bs w n) : n * w ≤ 1073741824 ∧ bs.length ≤ 200000000 := by
  have h1 : n * w ≤ 16777216 * 64 := Nat.mul_le_mul g.nle g.wle
  have h2 := g.len
  omega

theorem faultE_fine {bs : List (BitVec 8)} {w n : Int} (h : faultE bs w n = 0) : ∃ w' n' : Nat, w = w' ∧ n = n' ∧ Fine bs w' n' := by
  unfold faultE at h
  split at h; · omega
  rename_i h1
  split at h; · omega
  rename_i h2
  split at h; · omega
  rename_i h3
  split at h; · omega
  rename_i h4
  split at h; · omega
  rename_i h5
  split at h; · omega
  rename_i h6
  obtain ⟨w', rfl⟩ : ∃ w' : Nat, w = w' := ⟨w.toNat, by omega⟩
  obtain ⟨n', rfl⟩ : ∃ n' : Nat, n = n' := ⟨n.toNat, by omega⟩
  rw [← Int.natCast_mul] at h4 h5 h6
  rw [Int.toNat_natCast] at h6
  refine ⟨w', n', rfl, rfl, by omega, by omega, by omega, anyFrom_false.1 (by simpa using h6)⟩

theorem fine_faultE {bs : List (BitVec 8)} {w n : Nat} (g : Fine bs w n) : faultE bs w n = 0 := by
  have h1 := g.wle
  have h2 := g.nle
  have h3 := g.len
  unfold faultE
  rw [if_neg (by omega), if_neg (by omega), if_neg (by omega), ← Int.natCast_mul, if_neg (by omega), if_neg (by omega), Int.toNat_natCast, anyFrom_false.2 g.out]
  simp

/-- The byte that holds the last lane's end. -/
theorem last_byte {bs : List (BitVec 8)} {a r : Nat} (hr : a % 8 = r) (hr0 : 0 < r) (hl : bs.length = (a + 7) / 8) : (byteA bs (bs.length - 1) >>> r = 0#8) ↔ anyFrom bs a = false := by
  rw [anyFrom_false]
  constructor
  · intro h i hi
    by_cases hil : i < 8 * bs.length
    · have e := congrArg (fun x => x.getLsbD (i % 8 - r)) h
      simp only [BitVec.getLsbD_ushiftRight] at e
      unfold bbit
      rw [show i / 8 = bs.length - 1 by omega]
      rw [show r + (i % 8 - r) = i % 8 by omega] at e
      simpa using e
    · exact bbit_out (by omega)
  · intro h
    apply BitVec.eq_of_getLsbD_eq
    intro j hj
    rw [BitVec.getLsbD_ushiftRight]
    by_cases hj8 : r + j < 8
    · have := h (8 * (bs.length - 1) + (r + j)) (by omega)
      unfold bbit at this
      rw [show (8 * (bs.length - 1) + (r + j)) / 8 = bs.length - 1 by omega, show (8 * (bs.length - 1) + (r + j)) % 8 = r + j by omega] at this
      rw [this]; simp
    · rw [BitVec.getLsbD_of_ge _ _ (by omega)]; simp

theorem fault_spec {h : Heap} {v : Value} {bs : List (BitVec 8)} (r : Reads h v (bs.map bv)) (w n : Int) (hl : bs.length ≤ 1000000000000000) :
    Gives P T (.fn F_lanes_fault) [v, .int .i64 w, .int .i64 n] h fun r h' => r = .int .i64 (faultE bs w n) ∧ h' = h := by
  obtain ⟨b, c, rfl, hr⟩ := r.shape
  simp only [List.length_map] at hr ⊢
  refine gives_by t_lanes_fault (by simp [c_lanes_fault]) fun Q hQ => ?_
  by_cases h1 : w < 0 ∨ 64 < w
  · have : faultE bs w n = 20 := by unfold faultE; rw [if_pos h1]
    rw [this] at hQ
    by_cases h0 : w < 0
    · simp [c_lanes_fault, h0, skipV]; exact hQ _ _ ⟨rfl, rfl⟩
    · have h5 : 64 < w := by omega
      simp [c_lanes_fault, h0, h5]; exact hQ _ _ ⟨rfl, rfl⟩
  have w0 : ¬ w < 0 := by omega
  have w64 : ¬ 64 < w := by omega
  by_cases h2 : n < 0
  · have : faultE bs w n = 2 := by unfold faultE; rw [if_neg h1, if_pos h2]
    rw [this] at hQ
    simp [c_lanes_fault, w0, w64, h2]; exact hQ _ _ ⟨rfl, rfl⟩
  by_cases h3 : 16777216 < n
  · have : faultE bs w n = 3 := by unfold faultE; rw [if_neg h1, if_neg h2, if_pos h3]
    rw [this] at hQ
    simp [c_lanes_fault, w0, w64, h2, h3]; exact hQ _ _ ⟨rfl, rfl⟩
  obtain ⟨w', rfl⟩ : ∃ w' : Nat, w = w' := ⟨w.toNat, by omega⟩
  obtain ⟨n', rfl⟩ : ∃ n' : Nat, n = n' := ⟨n.toNat, by omega⟩
  have hb : n' * w' ≤ 16777216 * 64 := Nat.mul_le_mul (by omega) (by omega)
  obtain ⟨a, ha⟩ : ∃ a, n' * w' = a := ⟨_, rfl⟩
  have f0 : (n' : Int) * w' = (a : Int) := by rw [← ha, Int.natCast_mul]
  have f1 : IntKind.i64.wrap (a : Int) = a := wrap_i64 (by omega) (by omega)
  have f2 : IntKind.i64.wrap ((a : Int) + 7) = ((a + 7 : Nat) : Int) := by rw [wrap_i64 (by omega) (by omega)]; omega
  have f3 := tdiv_nat (a + 7) 8
  obtain ⟨B, hB⟩ : ∃ B, (a + 7) / 8 = B := ⟨_, rfl⟩
  rw [hB] at f3
  obtain ⟨a7, ha7⟩ : ∃ x, a + 7 = x := ⟨_, rfl⟩
  rw [ha7] at f2 f3
  simp only [Int.cast_ofNat_Int] at f3
  have f4 : IntKind.i64.wrap (B : Int) = B := wrap_i64 (by omega) (by omega)
  have f5 := tmod_nat a 8
  obtain ⟨rr, hrr⟩ : ∃ r, a % 8 = r := ⟨_, rfl⟩
  rw [hrr] at f5
  simp only [Int.cast_ofNat_Int] at f5
  obtain ⟨N, hN⟩ : ∃ N, bs.length = N := ⟨_, rfl⟩
  have hq : ((a : Int) + 7) / 8 = B := by omega
  by_cases h4 : N < B
  · have : faultE bs w' n' = 22 := by unfold faultE; rw [if_neg h1, if_neg h2, if_neg h3, f0, if_pos (by omega)]
    rw [this] at hQ
    simp [c_lanes_fault, w0, w64, h2, h3, f0, f1, f2, f3, f4, hN, h4]; exact hQ _ _ ⟨rfl, rfl⟩
  by_cases h5 : B < N
  · have : faultE bs w' n' = 23 := by unfold faultE; rw [if_neg h1, if_neg h2, if_neg h3, f0, if_neg (by omega), if_pos (by omega)]
    rw [this] at hQ
    simp [c_lanes_fault, w0, w64, h2, h3, f0, f1, f2, f3, f4, hN, h4, h5]; exact hQ _ _ ⟨rfl, rfl⟩
  have hE : faultE bs w' n' = if anyFrom bs a then 23 else 0 := by unfold faultE; rw [if_neg h1, if_neg h2, if_neg h3, f0, if_neg (by omega), if_neg (by omega), Int.toNat_natCast]
  rw [hE] at hQ
  by_cases hr0 : rr = 0
  · subst hr0
    have : anyFrom bs a = false := anyFrom_false.2 fun i hi => bbit_out (by omega)
    rw [this] at hQ
    simp [c_lanes_fault, w0, w64, h2, h3, f0, f1, f2, f3, f4, f5, hN, h4, h5, skipV]; exact hQ _ _ ⟨by simp, rfl⟩
  · have g1 : IntKind.i64.wrap ((N : Int) - 1) = ((N - 1 : Nat) : Int) := by rw [wrap_i64 (by omega) (by omega)]; omega
    obtain ⟨N1, hN1⟩ : ∃ x, N - 1 = x := ⟨_, rfl⟩
    rw [hN1] at g1
    have hlt : N1 < N := by omega
    obtain ⟨ad, rfl, hla⟩ := hr N1 (by omega)
    have hld := hla N1 _ (bv_get (by omega))
    have hlb := last_byte (bs := bs) hrr (by omega) (by omega)
    rw [hN, hN1] at hlb
    by_cases hz : byteA bs N1 >>> rr = 0#8
    · rw [hlb.1 hz] at hQ
      simp [c_lanes_fault, w0, w64, h2, h3, f0, f1, f2, f3, f4, f5, hN, h4, h5, hr0, g1, hlt, hld, hz]; exact hQ _ _ ⟨by simp, rfl⟩
    · have hany : anyFrom bs a = true := by
        cases ht : anyFrom bs a with
        | true => rfl
        | false => exact absurd (hlb.2 ht) hz
      rw [hany] at hQ
      simp [c_lanes_fault, w0, w64, h2, h3, f0, f1, f2, f3, f4, f5, hN, h4, h5, hr0, g1, hlt, hld, hz]; exact hQ _ _ ⟨by simp, rfl⟩

theorem zero_bits {n : Nat} (hn : n ≤ 16777216) : Canon n (List.replicate ((n + 63) / 64) 0) ∧ ∀ i, bit (List.replicate ((n + 63) / 64) 0) i = false := by
  have key : ∀ i, bit (List.replicate ((n + 63) / 64) 0) i = false := by
    intro i
    have : word (List.replicate ((n + 63) / 64) 0) (i / 64) = 0#64 := by
      unfold word
      rw [List.getD_eq_getElem?_getD, List.getElem?_replicate]
      split <;> rfl
    unfold bit; rw [this]; simp
  exact ⟨⟨by simp, hn, fun i _ => key i⟩, key⟩

theorem all_spec {h : Heap} {n : Nat} (hn : n ≤ 16777216) (on : Bool) :
    Gives P T (.fn F_lanes_all) [.int .i64 n, .bool on] h fun r h' => ∃ p q ws, r = .tuple #[ptr p, .int .i64 0] ∧ SetAt h' p q n ws ∧ Canon n ws ∧ (∀ i, bit ws i = (decide (i < n) && on)) ∧ Grow h h' ∧ h.dyn.length ≤ p ∧ h.dyn.length ≤ q := by
  refine gives_by t_lanes_all (by simp [c_lanes_all]) fun Q hQ => ?_
  obtain ⟨zc, zb⟩ := zero_bits hn
  simp [c_lanes_all]
  refine got_call (new_spec hn) ?_
  rintro _ h1 ⟨p, q, rfl, s, g, f1, f2⟩
  cases on with
  | false =>
    simp
    exact hQ _ _ ⟨p, q, _, rfl, s, zc, fun i => by rw [zb]; simp, g, f1, f2⟩
  | true =>
    simp
    refine got_call (Not_spec s zc) ?_
    rintro _ h2 ⟨p2, q2, ws2, rfl, s2, c2, hb, g2, f3, f4⟩
    have := g.len
    simp
    exact hQ _ _ ⟨p2, q2, ws2, rfl, s2, c2, fun i => by rw [hb, zb]; simp, g.trans g2, by omega, by omega⟩

/-- A set that says f of n numbers. -/
def SaysAt (h h' : Heap) (p n : Nat) (f : Nat → Bool) : Prop := ∃ q ws, SetAt h' p q n ws ∧ Canon n ws ∧ (∀ i, bit ws i = (decide (i < n) && f i)) ∧ h.dyn.length ≤ p ∧ h.dyn.length ≤ q

theorem lane_lt_w {bs : List (BitVec 8)} {w i : Nat} (hw : w < 64) : (laneB bs w i).toNat < 2 ^ w := by
  apply lt_pow
  intro j hj
  show (laneB bs w i).getLsbD j = false
  rw [laneB, bvOf_bit _ _ _ (by omega)]; simp; omega

theorem big_not {c : BitVec 64} {w : Nat} (h : ¬ c >>> w = 0#64) : 2 ^ w ≤ c.toNat := by
  apply Classical.byContradiction
  intro hc
  apply h
  apply BitVec.eq_of_toNat_eq
  rw [BitVec.toNat_ushiftRight, Nat.shiftRight_eq_div_pow, Nat.div_eq_of_lt (by omega)]; rfl

theorem stB_above {op : Int} {a c : BitVec 64} (o1 : 1 ≤ op) (o2 : op ≤ 6) (h : a.toNat < c.toNat) : stB op a c = (decide (op = 2) || decide (op = 3) || decide (op = 4)) := by
  have e : ¬ a = c := fun e => by rw [e] at h; omega
  have l1 : wi a < wi c := wi_lt_iff.2 h
  have l2 : wi a ≤ wi c := by omega
  have l3 : ¬ wi c < wi a := by omega
  have l4 : ¬ wi c ≤ wi a := by omega
  have hop : op = 1 ∨ op = 2 ∨ op = 3 ∨ op = 4 ∨ op = 5 ∨ op = 6 := by omega
  rcases hop with rfl | rfl | rfl | rfl | rfl | rfl <;> simp [stB, e, l1, l2, l3, l4]

theorem stB_same {op : Int} {a : BitVec 64} (o1 : 1 ≤ op) (o2 : op ≤ 6) : stB op a a = (decide (op = 1) || decide (op = 4) || decide (op = 6)) := by
  have hop : op = 1 ∨ op = 2 ∨ op = 3 ∨ op = 4 ∨ op = 5 ∨ op = 6 := by omega
  rcases hop with rfl | rfl | rfl | rfl | rfl | rfl <;> simp [stB]

theorem Test_spec {h : Heap} {v : Value} {bs : List (BitVec 8)} (r : Bytes h v bs) {w n : Nat} {op : Int} {c : BitVec 64} (g : Fine bs w n) (o1 : 1 ≤ op) (o2 : op ≤ 6) :
    Gives P T (.fn F_lanes_Test) [v, .int .i64 w, .int .i64 n, .int .i64 op, .int .u64 (wi c)] h fun r h' => ∃ p, r = .tuple #[ptr p, .int .i64 0] ∧ SaysAt h h' p n (fun i => stB op (laneB bs w i) c) ∧ Grow h h' := by
  refine gives_by t_lanes_Test (by simp [c_lanes_Test]) fun Q hQ => ?_
  obtain ⟨gb1, gb2⟩ := g.le
  have p1 : ¬ op < 1 := by omega
  have p2 : ¬ 6 < op := by omega
  simp [c_lanes_Test]
  refine got_call (fault_spec r.reads w n (by omega)) ?_
  rintro _ _ ⟨rfl, rfl⟩
  rename_i h
  rw [fine_faultE g]
  simp [p1, p2]
  by_cases hab : w < 64 ∧ ¬ c >>> w = 0#64
  · have hw : (w : Int) < 64 := by omega
    have hbig := big_not hab.2
    have hst : ∀ i, stB op (laneB bs w i) c = (decide (op = 2) || decide (op = 3) || decide (op = 4)) := fun i => stB_above o1 o2 (by have := @lane_lt_w bs w i hab.1; omega)
    simp only [hst] at hQ
    simp [hw, hab.2]
    have hfin : ∀ on : Bool, on = (decide (op = 2) || decide (op = 3) || decide (op = 4)) → ∀ (t : List Value) (k : Cont), True := fun _ _ _ _ => trivial
    by_cases q2 : op = 2
    · subst q2
      simp [skipV]
      refine got_call (all_spec g.nle true) ?_
      rintro _ h2 ⟨p, q, ws, rfl, s, cn, hb, gg, f1, f2⟩
      simp
      exact hQ _ _ ⟨p, rfl, ⟨q, ws, s, cn, by simpa using hb, f1, f2⟩, gg⟩
    by_cases q3 : op = 3
    · subst q3
      simp [skipV]
      refine got_call (all_spec g.nle true) ?_
      rintro _ h2 ⟨p, q, ws, rfl, s, cn, hb, gg, f1, f2⟩
      simp
      exact hQ _ _ ⟨p, rfl, ⟨q, ws, s, cn, by simpa using hb, f1, f2⟩, gg⟩
    simp [q2, q3]
    refine got_call (all_spec g.nle (decide (op = 4))) ?_
    rintro _ h2 ⟨p, q, ws, rfl, s, cn, hb, gg, f1, f2⟩
    simp
    exact hQ _ _ ⟨p, rfl, ⟨q, ws, s, cn, by simpa [q2, q3] using hb, f1, f2⟩, gg⟩
  by_cases hw0 : w = 0
  · subst hw0
    have hc0 : c = 0#64 := by
      apply Classical.byContradiction
      intro hc
      exact hab ⟨by omega, by simpa using hc⟩
    subst hc0
    have hz : ∀ i, laneB bs 0 i = 0#64 := fun i => rfl
    simp only [hz, stB_same o1 o2] at hQ
    have e00 : abin .shr .u64 0 0 = some (.int .u64 0) := by simpa using @ab64_shr 0#64 0 (by omega)
    simp [e00]
    by_cases q1 : op = 1
    · subst q1
      simp [skipV]
      refine got_call (all_spec g.nle true) ?_
      rintro _ h2 ⟨p, q, ws, rfl, s, cn, hb, gg, f1, f2⟩
      simp
      exact hQ _ _ ⟨p, rfl, ⟨q, ws, s, cn, by simpa using hb, f1, f2⟩, gg⟩
    by_cases q4 : op = 4
    · subst q4
      simp [skipV]
      refine got_call (all_spec g.nle true) ?_
      rintro _ h2 ⟨p, q, ws, rfl, s, cn, hb, gg, f1, f2⟩
      simp
      exact hQ _ _ ⟨p, rfl, ⟨q, ws, s, cn, by simpa using hb, f1, f2⟩, gg⟩
    simp [q1, q4]
    refine got_call (all_spec g.nle (decide (op = 6))) ?_
    rintro _ h2 ⟨p, q, ws, rfl, s, cn, hb, gg, f1, f2⟩
    simp
    exact hQ _ _ ⟨p, rfl, ⟨q, ws, s, cn, by simpa [q1, q4] using hb, f1, f2⟩, gg⟩
  · have hw1 : 1 ≤ w := by omega
    have hv : ∀ j, w ≤ j → c.getLsbD j = false := by
      by_cases h64 : w < 64
      · refine fits_bits ?_
        apply Classical.byContradiction
        intro hc
        exact hab ⟨h64, hc⟩
      · exact fun j hj => BitVec.getLsbD_of_ge _ _ (by omega)
    by_cases h64 : w < 64
    · have hw : (w : Int) < 64 := by omega
      have hc0 : c >>> w = 0#64 := by
        apply Classical.byContradiction
        intro hc
        exact hab ⟨h64, hc⟩
      simp [hw, hc0, hw0]
      refine got_call (stands_mk hw1 g.wle hv) ?_
      rintro _ h2 ⟨p1, p2, p3, p4, rfl, cap, g2⟩
      simp
      refine got_call (gather_spec (r.grow g2) hw1 g.wle g.nle (by omega) cap o1 o2 hv) ?_
      rintro _ h3 ⟨p, q, ws, rfl, s, cn, hb, g3, f1, f2⟩
      have := g2.len
      simp
      exact hQ _ _ ⟨p, rfl, ⟨q, ws, s, cn, hb, by omega, by omega⟩, g2.trans g3⟩
    · have hw : ¬ (w : Int) < 64 := by omega
      simp [hw, hw0, skipV]
      refine got_call (stands_mk hw1 g.wle hv) ?_
      rintro _ h2 ⟨p1, p2, p3, p4, rfl, cap, g2⟩
      simp
      refine got_call (gather_spec (r.grow g2) hw1 g.wle g.nle (by omega) cap o1 o2 hv) ?_
      rintro _ h3 ⟨p, q, ws, rfl, s, cn, hb, g3, f1, f2⟩
      have := g2.len
      simp
      exact hQ _ _ ⟨p, rfl, ⟨q, ws, s, cn, hb, by omega, by omega⟩, g2.trans g3⟩

theorem Test_fault {h : Heap} {v : Value} {bs : List (BitVec 8)} (r : Bytes h v bs) (hl : bs.length ≤ 1000000000000000) {w n op : Int} {c : BitVec 64} (hf : ¬ faultE bs w n = 0) :
    Gives P T (.fn F_lanes_Test) [v, .int .i64 w, .int .i64 n, .int .i64 op, .int .u64 (wi c)] h fun r h' => r = .tuple #[.pointer none, .int .i64 (faultE bs w n)] ∧ h' = h := by
  refine gives_by t_lanes_Test (by simp [c_lanes_Test]) fun Q hQ => ?_
  simp [c_lanes_Test]
  refine got_call (fault_spec r.reads w n hl) ?_
  rintro _ _ ⟨rfl, rfl⟩
  simp [hf]
  exact hQ _ _ ⟨rfl, rfl⟩

theorem Test_op {h : Heap} {v : Value} {bs : List (BitVec 8)} (r : Bytes h v bs) (hl : bs.length ≤ 1000000000000000) {w n op : Int} {c : BitVec 64} (hf : faultE bs w n = 0) (ho : ¬ (1 ≤ op ∧ op ≤ 6)) :
    Gives P T (.fn F_lanes_Test) [v, .int .i64 w, .int .i64 n, .int .i64 op, .int .u64 (wi c)] h fun r h' => r = .tuple #[.pointer none, .int .i64 2] ∧ h' = h := by
  refine gives_by t_lanes_Test (by simp [c_lanes_Test]) fun Q hQ => ?_
  simp [c_lanes_Test]
  refine got_call (fault_spec r.reads w n hl) ?_
  rintro _ _ ⟨rfl, rfl⟩
  simp [hf]
  by_cases h1 : op < 1
  · simp [h1, skipV]
    exact hQ _ _ ⟨rfl, rfl⟩
  · have h2 : 6 < op := by omega
    simp [h1, h2]
    exact hQ _ _ ⟨rfl, rfl⟩

end Go.Ax
