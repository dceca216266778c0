/- Seat pack: the document's Pack and Unpack. -/
import Derived.Test.YthfgelbbcdgopaaPE
namespace Go.Ax
set_option linter.unusedVariables false
set_option linter.unusedSimpArgs false

theorem fits_iff {v : BitVec 64} {w : Nat} (hw : w ≤ 64) : (64 ≤ w ∨ v >>> w = 0#64) ↔ v.toNat < 2 ^ w := by
  constructor
  · rintro (h | h)
    · have : w = 64 := by omega
      subst this; exact v.isLt
    · have := congrArg BitVec.toNat h
      rw [BitVec.toNat_ushiftRight, Nat.shiftRight_eq_div_pow] at this
      exact (Nat.div_eq_zero_iff_lt (Nat.two_pow_pos w)).1 (by simpa using this)
  · intro h
    right
    apply BitVec.eq_of_toNat_eq
    rw [BitVec.toNat_ushiftRight, Nat.shiftRight_eq_div_pow, Nat.div_eq_of_lt h]; rfl

theorem Fits_spec {h : Heap} {v : BitVec 64} {w : Nat} (hw : w ≤ 64) : Gives P T (.fn F_colonnaderef02_Fits) [.int .u64 (wi v), .int .i64 w] h fun r h' => r = .bool (decide (v.toNat < 2 ^ w)) ∧ h' = h := by
  refine gives_by t_colonnaderef02_Fits (by simp [c_colonnaderef02_Fits]) fun Q hQ => ?_
  have f := @fits_iff v w hw
  by_cases h64 : w = 64
  · subst h64
    have : v.toNat < 2 ^ 64 := v.isLt
    rw [decide_eq_true this] at hQ
    simp [c_colonnaderef02_Fits, skipV]
    exact hQ _ _ ⟨rfl, rfl⟩
  · have h1 : ¬ (64 : Int) ≤ w := by omega
    have h2 : ¬ 64 ≤ w := by omega
    have f2 : IntKind.u64.wrap (w : Int) = w := wrap_u64 (by omega) (by omega)
    have f3 : v >>> w = 0#64 ↔ v.toNat < 2 ^ w := by rw [← f]; simp [h2]
    simp [c_colonnaderef02_Fits, h1, h2, f2, f3]
    exact hQ _ _ ⟨rfl, rfl⟩

theorem refBytes_spec {h : Heap} {n w : Nat} (h1 : n ≤ 16777216) (h2 : w ≤ 64) : Gives P T (.fn F_colonnaderef02_Bytes) [.int .i64 n, .int .i64 w] h fun r h' => r = .tuple #[.int .i64 ((n * w + 7) / 8 : Nat), .int .i64 0] ∧ h' = h := by
  refine gives_by t_colonnaderef02_Bytes (by simp [c_colonnaderef02_Bytes]) fun Q hQ => ?_
  have n0 : ¬ (n : Int) < 0 := by omega
  have n1 : ¬ 16777216 < (n : Int) := by omega
  have hw : (w : Int) ≤ 64 := by omega
  have hb : n * w ≤ 16777216 * 64 := Nat.mul_le_mul (by omega) (by omega)
  obtain ⟨a, ha⟩ : ∃ a, n * w = a := ⟨_, rfl⟩
  have f0 : (n : Int) * w = (a : Int) := by rw [← ha, Int.natCast_mul]
  have f1 : IntKind.i64.wrap (a : Int) = a := wrap_i64 (by omega) (by omega)
  have f2 : IntKind.i64.wrap ((a : Int) + 7) = ((a + 7 : Nat) : Int) := by rw [wrap_i64 (by omega) (by omega)]; omega
  have f3 := tdiv_nat (a + 7) 8
  obtain ⟨B, hB⟩ : ∃ B, (a + 7) / 8 = B := ⟨_, rfl⟩
  rw [hB] at f3
  obtain ⟨a7, ha7⟩ : ∃ x, a + 7 = x := ⟨_, rfl⟩
  rw [ha7] at f2 f3
  simp only [Int.cast_ofNat_Int] at f3
  have f4 : IntKind.i64.wrap (B : Int) = B := wrap_i64 (by omega) (by omega)
  simp [c_colonnaderef02_Bytes, n0, n1]
  refine got_call (May_spec _) ?_
  rintro _ _ ⟨rfl, rfl⟩
  simp [hw, f0, f1, f2, f3, f4]
  exact hQ _ _ ⟨by rw [← hB, ← ha], rfl⟩

theorem refBytes_bad {h : Heap} {n w : Int} (he : ¬ bytesE n w = 0) : Gives P T (.fn F_colonnaderef02_Bytes) [.int .i64 n, .int .i64 w] h fun r h' => r = .tuple #[.int .i64 0, .int .i64 (bytesE n w)] ∧ h' = h := by
  refine gives_by t_colonnaderef02_Bytes (by simp [c_colonnaderef02_Bytes]) fun Q hQ => ?_
  by_cases h1 : n < 0
  · have : bytesE n w = 2 := by unfold bytesE; rw [if_pos h1]
    rw [this] at hQ
    simp [c_colonnaderef02_Bytes, h1]; exact hQ _ _ ⟨rfl, rfl⟩
  by_cases h2 : 16777216 < n
  · have : bytesE n w = 3 := by unfold bytesE; rw [if_neg h1, if_pos h2]
    rw [this] at hQ
    simp [c_colonnaderef02_Bytes, h1, h2]; exact hQ _ _ ⟨rfl, rfl⟩
  by_cases h3 : 0 ≤ w ∧ w ≤ 64
  · exact absurd (by unfold bytesE; rw [if_neg h1, if_neg h2, if_pos h3]) he
  · have : bytesE n w = 20 := by unfold bytesE; rw [if_neg h1, if_neg h2, if_neg h3]
    rw [this] at hQ
    simp [c_colonnaderef02_Bytes, h1, h2]
    refine got_call (May_spec _) ?_
    rintro _ _ ⟨rfl, rfl⟩
    simp [h3]; exact hQ _ _ ⟨rfl, rfl⟩

theorem Packs.ext {cs : List (BitVec 64)} {w : Nat} {bs bs' : List (BitVec 8)} (p : Packs cs w bs) (p' : Packs cs w bs') : bs = bs' := by
  apply List.ext_getElem?
  intro i
  by_cases hi : i < bs.length
  · have hi' : i < bs'.length := by rw [p'.len, ← p.len]; exact hi
    have e : byteA bs i = byteA bs' i := by
      apply BitVec.eq_of_getLsbD_eq
      intro j hj
      have h1 : bbit bs (8 * i + j) = (byteA bs i).getLsbD j := by
        unfold bbit; rw [show (8 * i + j) / 8 = i by omega, show (8 * i + j) % 8 = j by omega]
      have h2 : bbit bs' (8 * i + j) = (byteA bs' i).getLsbD j := by
        unfold bbit; rw [show (8 * i + j) / 8 = i by omega, show (8 * i + j) % 8 = j by omega]
      rw [← h1, ← h2, p.bits, p'.bits]
    unfold byteA at e
    rw [List.getD_eq_getElem?_getD, List.getD_eq_getElem?_getD, List.getElem?_eq_getElem hi, List.getElem?_eq_getElem hi'] at e
    rw [List.getElem?_eq_getElem hi, List.getElem?_eq_getElem hi']
    simpa using e
  · have hi' : ¬ i < bs'.length := by rw [p'.len, ← p.len]; exact hi
    rw [List.getElem?_eq_none (by omega), List.getElem?_eq_none (by omega)]

theorem bbit_set {bs : List (BitVec 8)} {k : Nat} {b : Bool} (hk : k / 8 < bs.length) (j : Nat) :
    bbit (bs.set (k / 8) (byteA bs (k / 8) ||| (bitV b).setWidth 8 <<< (k % 8))) j = (bbit bs j || (b && decide (j = k))) := by
  unfold bbit
  by_cases hd : j / 8 = k / 8
  · have e : byteA (bs.set (k / 8) (byteA bs (k / 8) ||| (bitV b).setWidth 8 <<< (k % 8))) (j / 8) = byteA bs (k / 8) ||| (bitV b).setWidth 8 <<< (k % 8) := by
      unfold byteA; rw [List.getD_eq_getElem?_getD, hd, List.getElem?_set_self hk]; rfl
    rw [e, BitVec.getLsbD_or, hd, BitVec.getLsbD_shiftLeft, BitVec.getLsbD_setWidth, bitV_bit]
    have h8 : j % 8 < 8 := by omega
    by_cases hjk : j = k
    · subst hjk
      simp [h8]
    · by_cases h1 : j % 8 < k % 8
      · simp [h1, hjk]
      · have h2 : ¬ j % 8 - k % 8 = 0 := by omega
        simp [h1, h2, hjk]
  · have e : byteA (bs.set (k / 8) (byteA bs (k / 8) ||| (bitV b).setWidth 8 <<< (k % 8))) (j / 8) = byteA bs (j / 8) := by
      unfold byteA; rw [List.getD_eq_getElem?_getD, List.getElem?_set_ne (fun e => hd e.symm), List.getD_eq_getElem?_getD]
    have hjk : ¬ j = k := fun e => hd (by rw [e])
    rw [e]; simp [hjk]

theorem refPack_bad {h : Heap} {v : Value} {cs : List (BitVec 64)} (r : Reads h v (cs.map (kv .u64))) {w : Int} (he : ¬ bytesE cs.length w = 0) :
    Gives P T (.fn F_colonnaderef02_Pack) [v, .int .i64 w] h fun r h' => r = .tuple #[.slice none 0 0, .int .i64 (bytesE cs.length w)] ∧ h' = h := by
  obtain ⟨b, c, rfl, hr⟩ := r.shape
  simp only [List.length_map] at hr ⊢
  refine gives_by t_colonnaderef02_Pack (by simp [c_colonnaderef02_Pack]) fun Q hQ => ?_
  simp [c_colonnaderef02_Pack]
  refine got_call (refBytes_bad he) ?_
  rintro _ _ ⟨rfl, rfl⟩
  simp [he]
  exact hQ _ _ ⟨rfl, rfl⟩

theorem refPack_spec {h : Heap} {v : Value} {cs : List (BitVec 64)} (r : Reads h v (cs.map (kv .u64))) {w : Nat} (hn : cs.length ≤ 16777216) (hw : w ≤ 64) :
    Gives P T (.fn F_colonnaderef02_Pack) [v, .int .i64 w] h fun r h' => Grow h h' ∧ ((¬ allFit cs w ∧ r = .tuple #[.slice none 0 0, .int .i64 21]) ∨ ∃ u bs, allFit cs w ∧ r = .tuple #[u, .int .i64 0] ∧ Reads h' u (bs.map bv) ∧ Packs cs w bs ∧ ∃ q, Own h' u q (bs.map bv) ∧ h.dyn.length ≤ q) := by
  obtain ⟨b, c, rfl, hr⟩ := r.shape
  simp only [List.length_map] at hr ⊢
  obtain ⟨N, hN⟩ : ∃ N, cs.length = N := ⟨_, rfl⟩
  rw [hN] at hr hn ⊢
  refine gives_by t_colonnaderef02_Pack (by simp [c_colonnaderef02_Pack]) fun Q hQ => ?_
  have hb : N * w ≤ 16777216 * 64 := Nat.mul_le_mul hn hw
  simp [c_colonnaderef02_Pack]
  refine got_call (refBytes_spec hn hw) ?_
  rintro _ _ ⟨rfl, rfl⟩
  rename_i h
  obtain ⟨B, hB⟩ : ∃ B, (N * w + 7) / 8 = B := ⟨_, rfl⟩
  rw [hB]
  simp [mkS_nat (h := h) (bytes := 1) (n := B) (z := .int .u8 0) (by omega) (by omega)]
  have ez : List.replicate B (Value.int .u8 0) = (List.replicate B 0#8).map bv := by simp [bv]
  have row0 : RowAt (hnew h (List.replicate B (.int .u8 0)) 1) h.dyn.length 0 1 ((List.replicate B 0#8).map bv) := by rw [← ez]; exact RowAt.new _ _ _
  have zb : ∀ j, bbit (List.replicate B 0#8) j = false := by
    intro j
    have : byteA (List.replicate B 0#8) (j / 8) = 0#8 := by
      unfold byteA
      rw [List.getD_eq_getElem?_getD, List.getElem?_replicate]
      split <;> rfl
    unfold bbit; rw [this]; simp
  refine go_loopK (fun k ks h2 => ∃ (i : Nat) (bs : List (BitVec 8)), k = N - i ∧ i ≤ N ∧ ks = [(0, .slice b N c), (1, .int .i64 w), (8, .slice (some ⟨h.dyn.length, 0, some 0⟩) B B), (9, .int .i64 i)] ∧
    bs.length = B ∧ RowAt h2 h.dyn.length 0 1 (bs.map bv) ∧ Grow h h2 ∧ (∀ j, bbit bs j = (decide (j < w * i) && strm cs w j)) ∧ (∀ j, j < i → (numA cs j).toNat < 2 ^ w)) (n := N)
    ⟨0, _, rfl, by omega, rfl, by simp, row0, Grow.new _ _ _, fun j => by rw [zb]; simp, fun j hj => by omega⟩ (by simp) ?_
  rintro I hI k ks e h3 ⟨i, bs, rfl, hi, rfl, hbl, row, gg, hbits, hfit⟩
  simp
  refine branch_dec (fun hlt => ?_) (fun hge => ?_)
  · have hil : i < N := by omega
    obtain ⟨a, rfl, hla⟩ := hr i hil
    have hld := hload_grow gg (hla i _ (kv_get (by omega)))
    have e4 : IntKind.i64.wrap ((i : Int) + 1) = ((i + 1 : Nat) : Int) := by rw [wrap_i64 (by omega) (by omega)]; omega
    simp [hil, hld]
    refine got_call (Fits_spec hw) ?_
    rintro _ _ ⟨rfl, rfl⟩
    rename_i h3
    by_cases hfi : (numA cs i).toNat < 2 ^ w
    case neg =>
      simp [hfi]
      exact hQ _ _ ⟨gg, .inl ⟨fun h => hfi (h i (by omega)), rfl⟩⟩
    have hwi : i * w ≤ 16777216 * 64 := Nat.mul_le_mul (by omega : i ≤ 16777216) hw
    have hwi1 : w * (i + 1) = w * i + w := by rw [Nat.mul_add]; omega
    have hwn : w * (i + 1) ≤ N * w := by rw [Nat.mul_comm]; exact Nat.mul_le_mul_right w (by omega)
    obtain ⟨s, hs⟩ : ∃ s, i * w = s := ⟨_, rfl⟩
    have f0 : (i : Int) * w = (s : Int) := by rw [← hs, Int.natCast_mul]
    have f1 : IntKind.i64.wrap (s : Int) = s := wrap_i64 (by omega) (by omega)
    have hws : w * i = s := by rw [Nat.mul_comm]; exact hs
    simp [hfi]
    refine go_loopK (fun k ks h4 => ∃ (j : Nat) (bs : List (BitVec 8)), k = w - j ∧ j ≤ w ∧ ks = [(0, .slice (some a) N c), (1, .int .i64 w), (8, .slice (some ⟨h.dyn.length, 0, some 0⟩) B B), (9, .int .i64 i), (10, .int .i64 j)] ∧
      bs.length = B ∧ RowAt h4 h.dyn.length 0 1 (bs.map bv) ∧ Grow h h4 ∧ (∀ x, bbit bs x = (decide (x < s + j) && strm cs w x))) (n := w)
      ⟨0, bs, rfl, by omega, rfl, hbl, row, gg, by rw [← hws]; exact hbits⟩ (by simp) ?_
    rintro I2 hI2 k2 ks2 e2 h4 ⟨j, bs, rfl, hj, rfl, hbl, row, gg, hbits⟩
    simp
    refine branch_dec (fun hlt2 => ?_) (fun hge2 => ?_)
    · have hjw : j < w := by omega
      have hld4 := hload_grow gg (hla i _ (kv_get (by omega)))
      have e5 : IntKind.i64.wrap ((j : Int) + 1) = ((j + 1 : Nat) : Int) := by rw [wrap_i64 (by omega) (by omega)]; omega
      have f2 : IntKind.i64.wrap ((s : Int) + j) = ((s + j : Nat) : Int) := by rw [wrap_i64 (by omega) (by omega)]; omega
      obtain ⟨k, hk⟩ : ∃ k, s + j = k := ⟨_, rfl⟩
      rw [hk] at f2
      have d1 := tdiv_nat k 8
      have d2 := tmod_nat k 8
      obtain ⟨d, hd⟩ : ∃ d, k / 8 = d := ⟨_, rfl⟩
      obtain ⟨m, hm⟩ : ∃ m, k % 8 = m := ⟨_, rfl⟩
      rw [hd] at d1
      rw [hm] at d2
      simp only [Int.cast_ofNat_Int] at d1 d2
      have f3 : IntKind.i64.wrap (d : Int) = d := wrap_i64 (by omega) (by omega)
      have f4 : IntKind.u64.wrap (m : Int) = m := wrap_u64 (by omega) (by omega)
      have f5 : IntKind.u64.wrap (j : Int) = j := wrap_u64 (by omega) (by omega)
      have hdB : d < B := by omega
      have hdl : d < bs.length := by omega
      have hset := @bbit_set bs k ((numA cs i).getLsbD j) (by omega)
      rw [hd, hm] at hset
      obtain ⟨x, hx⟩ : ∃ x, byteA bs d ||| (bitV ((numA cs i).getLsbD j)).setWidth 8 <<< m = x := ⟨_, rfl⟩
      rw [hx] at hset
      obtain ⟨h5, e6, row5, c5, n5⟩ := row.store (i := d) (by simpa using hdl) (x := .int .u8 (bi x)) (by simp)
      have hxs : numA cs i >>> j &&& 1#64 = bitV ((numA cs i).getLsbD j) := and_one64 _ _
      obtain ⟨bb, hbb⟩ : ∃ bb, bitV ((numA cs i).getLsbD j) = bb := ⟨_, rfl⟩
      rw [hbb] at hxs hx
      simp [hil, hld4, f0, f1, f2, d1, d2, f3, f4, f5, hdB, row.get (bv_get hdl), hxs, hx, e6, e5]
      refine ⟨w - (j + 1), by omega, hI2 _ _ _ _ ⟨j + 1, bs.set d x, rfl, by omega, rfl, by simpa using hbl, ?_, gg.after c5 (fun n hn hb => by omega), fun y => ?_⟩ (by simp)⟩
      · rw [List.map_set]; exact row5
      · rw [hset, hbits]
        by_cases hy : y = k
        · subst hy
          have h1 : ¬ s + j < s + j := by omega
          have h2 : s + j < s + (j + 1) := by omega
          rw [← hk] at *
          have : strm cs w (s + j) = (numA cs i).getLsbD j := by rw [← hws]; exact strm_at hjw
          simp [this]
        · have : decide (y < s + (j + 1)) = decide (y < s + j) := decide_eq_decide.2 (by omega)
          rw [this]; simp [hy]
    · have hjw : j = w := by omega
      subst hjw
      have : s + j = j * (i + 1) := by omega
      rw [this] at hbits
      simp [e4]
      refine ⟨N - (i + 1), by omega, hI _ _ _ _ ⟨i + 1, bs, rfl, by omega, rfl, hbl, row, gg, hbits, fun x hx => ?_⟩ (by simp)⟩
      by_cases hxi : x = i
      · subst hxi; exact hfi
      · exact hfit x (by omega)
  · have hil : i = N := by omega
    subst hil
    simp
    rw [Nat.mul_comm w i] at hbits
    have hp : Packs cs w bs := ⟨by rw [hbl, hN, hB], fun j => by rw [hbits, hN]⟩
    refine hQ _ _ ⟨gg, .inr ⟨_, bs, fun x hx => hfit x (by omega), rfl, ?_, hp, h.dyn.length, .inr (.inr ⟨0, [], by simp [hbl], by simp [hbl]; unfold gcap; omega, by simpa using row⟩), Nat.le_refl _⟩⟩
    exact .inr ⟨⟨h.dyn.length, 0, some 0⟩, B, by simp [hbl], fun j x hx => by simpa using row.get hx⟩

/-! ### why packed numbers are none -/

/-- Is a bit from number a on set? -/
def anyFrom (bs : List (BitVec 8)) (a : Nat) : Bool := (List.range (8 * bs.length)).any fun i => decide (a ≤ i) && bbit bs i

theorem anyFrom_false {bs : List (BitVec 8)} {a : Nat} : anyFrom bs a = false ↔ ∀ i, a ≤ i → bbit bs i = false := by
  unfold anyFrom
  rw [List.any_eq_false]
  constructor
  · intro h i hi
    by_cases hl : i < 8 * bs.length
    · have := h i (by simpa using hl)
      simpa [hi] using this
    · exact bbit_out (by omega)
  · intro h i _
    by_cases hi : a ≤ i
    · simp [h i hi]
    · simp [hi]

def faultE (bs : List (BitVec 8)) (w n : Int) : Int :=
  if ¬ (0 ≤ w ∧ w ≤ 64) then 20 else if ¬ bytesE n w = 0 then bytesE n w else if (bs.length : Int) < (n * w + 7) / 8 then 22 else if (n * w + 7) / 8 < (bs.length : Int) then 23
  else if anyFrom bs (n * w).toNat then 23 else 0

structure Fine (bs : List (BitVec 8)) (w n : Nat) : Prop where
  wle : w ≤ 64
  nle : n ≤ 16777216
  len : bs.length = (n * w + 7) / 8
  out : ∀ i, n * w ≤ i → bbit bs i = false

theorem faultE_fine {bs : List (BitVec 8)} {w n : Int} (h : faultE bs w n = 0) : ∃ w' n' : Nat, w = w' ∧ n = n' ∧ Fine bs w' n' := by
  unfold faultE at h
  split at h; · omega
  rename_i h1
  split at h
  · rename_i h2; exact absurd h h2
  rename_i h2
  obtain ⟨n', w', rfl, rfl, h3, h4⟩ := bytesE_ok (n := n) (w := w) (by omega)
  split at h; · omega
  rename_i h5
  split at h; · omega
  rename_i h6
  split at h; · omega
  rename_i h7
  rw [← Int.natCast_mul] at h5 h6 h7
  rw [Int.toNat_natCast] at h7
  refine ⟨w', n', rfl, rfl, h4, h3, by omega, anyFrom_false.1 (by simpa using h7)⟩

theorem fine_faultE {bs : List (BitVec 8)} {w n : Nat} (g : Fine bs w n) : faultE bs w n = 0 := by
  have h1 := g.wle
  have h2 := g.nle
  have h3 := g.len
  unfold faultE
  rw [if_neg (by omega), if_neg (by rw [ok_bytesE h2 h1]; simp), ← Int.natCast_mul, if_neg (by omega), if_neg (by omega), Int.toNat_natCast, anyFrom_false.2 g.out]
  simp

theorem word_any {bs : List (BitVec 8)} {a : Nat} (h : 8 * bs.length ≤ a + 64) : wordB bs a = 0#64 ↔ anyFrom bs a = false := by
  rw [anyFrom_false]
  constructor
  · intro h0 i hi
    by_cases hl : i < 8 * bs.length
    · have := congrArg (fun x => x.getLsbD (i - a)) h0
      rw [wordB] at this
      simp only [bvOf_bit _ _ _ (Nat.le_refl 64)] at this
      rw [show a + (i - a) = i by omega] at this
      have h2 : i - a < 64 := by omega
      simpa [h2] using this
    · exact bbit_out (by omega)
  · intro h0
    apply BitVec.eq_of_getLsbD_eq
    intro j hj
    rw [wordB, bvOf_bit _ _ _ (Nat.le_refl _), h0 _ (by omega)]; simp

/-- Do all lanes fit a kind? -/
def lanesFit (bs : List (BitVec 8)) (w n kb : Nat) : Prop := ∀ i, i < n → (laneB bs w i).toNat < 2 ^ kb

/-- The numbers in the lanes. -/
def lanesL (bs : List (BitVec 8)) (w n : Nat) : List (BitVec 64) := (List.range n).map (laneB bs w)
theorem lanesL_succ (bs : List (BitVec 8)) (w n : Nat) : lanesL bs w (n + 1) = lanesL bs w n ++ [laneB bs w n] := by simp [lanesL, List.range_succ]
theorem lanesL_len (bs : List (BitVec 8)) (w n : Nat) : (lanesL bs w n).length = n := by simp [lanesL]

theorem refUnpack_bad {h : Heap} {v : Value} {bs : List (BitVec 8)} (r : Reads h v (bs.map bv)) (hl : bs.length ≤ 140737488351232) {w n kind : Int} (hf : ¬ faultE bs w n = 0) :
    Gives P T (.fn F_colonnaderef02_Unpack) [v, .int .i64 w, .int .i64 n, .int .i64 kind] h fun r h' => r = .tuple #[.slice none 0 0, .int .i64 (faultE bs w n)] ∧ h' = h := by
  obtain ⟨b, c, ev, hr⟩ := r.shape
  simp only [List.length_map] at hr ev
  refine gives_by t_colonnaderef02_Unpack (by simp [c_colonnaderef02_Unpack]) fun Q hQ => ?_
  simp [c_colonnaderef02_Unpack]
  refine got_call (May_spec _) ?_
  rintro _ _ ⟨rfl, rfl⟩
  rename_i h
  by_cases hm : 0 ≤ w ∧ w ≤ 64
  case neg =>
    have : faultE bs w n = 20 := by unfold faultE; rw [if_pos hm]
    rw [this] at hQ
    simp [hm]
    exact hQ _ _ ⟨rfl, rfl⟩
  simp [hm]
  by_cases hb : bytesE n w = 0
  case neg =>
    have : faultE bs w n = bytesE n w := by unfold faultE; rw [if_neg (by simpa using hm), if_pos hb]
    rw [this] at hQ
    refine got_call (refBytes_bad hb) ?_
    rintro _ _ ⟨rfl, rfl⟩
    simp [hb]
    exact hQ _ _ ⟨rfl, rfl⟩
  obtain ⟨n, w, rfl, rfl, hn, hw⟩ := bytesE_ok hb
  refine got_call (refBytes_spec hn hw) ?_
  rintro _ _ ⟨rfl, rfl⟩
  rename_i h
  obtain ⟨N, hN⟩ : ∃ N, bs.length = N := ⟨_, rfl⟩
  rw [hN] at ev
  have hlen : ∀ h, lenR h v = some (.int .i64 N, h) := fun h => by rw [ev]; simp
  have hb1 : n * w ≤ 16777216 * 64 := Nat.mul_le_mul hn hw
  obtain ⟨a, ha⟩ : ∃ a, n * w = a := ⟨_, rfl⟩
  obtain ⟨B, hB⟩ : ∃ B, (a + 7) / 8 = B := ⟨_, rfl⟩
  have f0 : (n : Int) * w = (a : Int) := by rw [← ha, Int.natCast_mul]
  rw [ha, hB]
  have hF : faultE bs w n = if (N : Int) < B then 22 else if (B : Int) < N then 23 else if anyFrom bs a then 23 else 0 := by
    unfold faultE
    rw [if_neg (by simpa using hm), if_neg (by simpa using hb), f0, hN, Int.toNat_natCast]
    have : ((a : Int) + 7) / 8 = (B : Nat) := by omega
    rw [this]
  by_cases h1 : (N : Int) < B
  · rw [hF, if_pos h1] at hQ
    simp [hlen, h1]
    exact hQ _ _ ⟨rfl, rfl⟩
  by_cases h2 : (B : Int) < N
  · rw [hF, if_neg h1, if_pos h2] at hQ
    simp [hlen, h1, h2]
    exact hQ _ _ ⟨rfl, rfl⟩
  have hany : anyFrom bs a = true := by
    rw [hF, if_neg h1, if_neg h2] at hf
    cases he : anyFrom bs a with
    | true => rfl
    | false => rw [he] at hf; simp at hf
  rw [hF, if_neg h1, if_neg h2, if_pos hany] at hQ
  have f1 : IntKind.i64.wrap (a : Int) = a := wrap_i64 (by omega) (by omega)
  have f2 : IntKind.i64.wrap (8 * (B : Int)) = ((8 * B : Nat) : Int) := by rw [wrap_i64 (by omega) (by omega)]; omega
  obtain ⟨B8, hB8⟩ : ∃ x, 8 * B = x := ⟨_, rfl⟩
  rw [hB8] at f2
  simp [hlen, h1, h2, f0, f1]
  refine go_loopK (fun kk ks h2 => ∃ (k : Nat), kk = B8 - k ∧ a ≤ k ∧ k ≤ B8 ∧ ks = [(0, v), (10, .int .i64 B), (12, .int .i64 k)] ∧ (∀ x, a ≤ x → x < k → bbit bs x = false) ∧ h2 = h) (n := B8 - a) ⟨a, rfl, by omega, by omega, rfl, fun x h1 h2 => by omega, rfl⟩ (by simp) ?_
  rintro I hI kk ks e h3 ⟨k, rfl, hk1, hk2, rfl, hno, rfl⟩
  simp [f2]
  refine branch_dec (fun hlt => ?_) (fun hge => ?_)
  · have hkB : k < B8 := by omega
    have e4 : IntKind.i64.wrap ((k : Int) + 1) = ((k + 1 : Nat) : Int) := by rw [wrap_i64 (by omega) (by omega)]; omega
    simp
    refine got_call (refBit2_spec r (by omega)) ?_
    rintro _ _ ⟨rfl, rfl⟩
    rename_i h3
    have hbk : bitI bs k = bbit bs k := by unfold bitI; rw [decide_eq_true (by omega)]; simp
    rw [hbk]
    cases hbit : bbit bs k with
    | true =>
      simp [bitV]
      exact hQ _ _ ⟨rfl, rfl⟩
    | false =>
      simp [bitV, e4]
      refine ⟨B8 - (k + 1), by omega, hI _ _ _ _ ⟨k + 1, rfl, by omega, by omega, rfl, fun x h1 h2 => ?_, rfl⟩ (by simp)⟩
      by_cases hx : x = k
      · rw [hx]; exact hbit
      · exact hno x h1 (by omega)
  · exfalso
    have : anyFrom bs a = false := by
      rw [anyFrom_false]
      intro i hi
      by_cases h5 : i < B8
      · exact hno i hi (by omega)
      · exact bbit_out (by omega)
    rw [this] at hany; cases hany

theorem refUnpack_spec {h : Heap} {v : Value} {bs : List (BitVec 8)} (r : Reads h v (bs.map bv)) {w n kind : Nat} (g : Fine bs w n) (hk : kind ≤ 64) :
    Gives P T (.fn F_colonnaderef02_Unpack) [v, .int .i64 w, .int .i64 n, .int .i64 kind] h fun r h' => Grow h h' ∧ ((¬ lanesFit bs w n kind ∧ r = .tuple #[.slice none 0 0, .int .i64 21]) ∨ ∃ u q, lanesFit bs w n kind ∧ r = .tuple #[u, .int .i64 0] ∧ Own h' u q ((lanesL bs w n).map (kv .u64)) ∧ h.dyn.length ≤ q) := by
  obtain ⟨b, c, ev, hr⟩ := r.shape
  simp only [List.length_map] at hr ev
  have hw := g.wle
  have hn := g.nle
  have hm : 0 ≤ (w : Int) ∧ (w : Int) ≤ 64 := by omega
  refine gives_by t_colonnaderef02_Unpack (by simp [c_colonnaderef02_Unpack]) fun Q hQ => ?_
  simp [c_colonnaderef02_Unpack]
  refine got_call (May_spec _) ?_
  rintro _ _ ⟨rfl, rfl⟩
  rename_i h
  simp [hm]
  refine got_call (refBytes_spec hn hw) ?_
  rintro _ _ ⟨rfl, rfl⟩
  rename_i h
  obtain ⟨N, hN⟩ : ∃ N, bs.length = N := ⟨_, rfl⟩
  rw [hN] at ev
  have hlen : ∀ h, lenR h v = some (.int .i64 N, h) := fun h => by rw [ev]; simp
  have hb1 : n * w ≤ 16777216 * 64 := Nat.mul_le_mul hn hw
  have hgl := g.len
  obtain ⟨a, ha⟩ : ∃ a, n * w = a := ⟨_, rfl⟩
  obtain ⟨B, hB⟩ : ∃ B, (a + 7) / 8 = B := ⟨_, rfl⟩
  have f0 : (n : Int) * w = (a : Int) := by rw [← ha, Int.natCast_mul]
  rw [ha, hB, hN] at hgl
  subst hgl
  rw [ha, hB]
  have hout := g.out
  rw [ha] at hout
  have f1 : IntKind.i64.wrap (a : Int) = a := wrap_i64 (by omega) (by omega)
  have f2 : IntKind.i64.wrap (8 * (N : Int)) = ((8 * N : Nat) : Int) := by rw [wrap_i64 (by omega) (by omega)]; omega
  obtain ⟨B8, hB8⟩ : ∃ x, 8 * N = x := ⟨_, rfl⟩
  rw [hB8] at f2
  simp [hlen, f0, f1]
  refine go_loopK (fun kk ks h2 => ∃ (k : Nat), kk = B8 - k ∧ a ≤ k ∧ k ≤ B8 ∧ ks = [(0, v), (1, .int .i64 w), (2, .int .i64 n), (3, .int .i64 kind), (10, .int .i64 N), (12, .int .i64 k)] ∧ h2 = h) (n := B8 - a) ⟨a, rfl, by omega, by omega, rfl, rfl⟩ (by simp) ?_
  rintro I hI kk ks e h3 ⟨k, rfl, hk1, hk2, rfl, rfl⟩
  simp [f2]
  refine branch_dec (fun hlt => ?_) (fun hge => ?_)
  · have hkB : k < B8 := by omega
    have e4 : IntKind.i64.wrap ((k : Int) + 1) = ((k + 1 : Nat) : Int) := by rw [wrap_i64 (by omega) (by omega)]; omega
    simp
    refine got_call (refBit2_spec r (by omega)) ?_
    rintro _ _ ⟨rfl, rfl⟩
    rename_i h3
    have hbk : bitI bs k = bbit bs k := by unfold bitI; rw [decide_eq_true (by omega)]; simp
    rw [hbk, hout k hk1]
    simp [bitV, e4]
    exact ⟨B8 - (k + 1), by omega, hI _ _ _ _ ⟨k + 1, rfl, by omega, by omega, rfl, rfl⟩ (by simp)⟩
  · simp
    refine go_loopK (fun kk ks h2 => ∃ (i : Nat) (u : Value) (q : Nat), kk = n - i ∧ i ≤ n ∧ ks = [(0, v), (1, .int .i64 w), (2, .int .i64 n), (3, .int .i64 kind), (13, u), (14, .int .i64 i)] ∧ Own h2 u q ((lanesL bs w i).map (kv .u64)) ∧ Grow h3 h2 ∧ h3.dyn.length ≤ q ∧ lanesFit bs w i kind) (n := n)
      ⟨0, .slice none 0 0, h3.dyn.length, rfl, by omega, rfl, by simpa [lanesL] using Own.nil _ _, Chg.refl _, Nat.le_refl _, fun x hx => by omega⟩ (by simp) ?_
    rintro I2 hI2 kk2 ks2 e2 h4 ⟨i, u, q, rfl, hi, rfl, ow, gg, hq, hfit⟩
    simp
    refine branch_dec (fun hlt2 => ?_) (fun hge2 => ?_)
    · have hin : i < n := by omega
      have e4 : IntKind.i64.wrap ((i : Int) + 1) = ((i + 1 : Nat) : Int) := by rw [wrap_i64 (by omega) (by omega)]; omega
      have hiw : i * w ≤ 16777216 * 64 := Nat.mul_le_mul (by omega) hw
      simp
      refine got_call (refLane2_spec (r.grow gg) hw (by omega)) ?_
      rintro _ _ ⟨rfl, rfl⟩
      rename_i h4
      simp
      refine got_call (Fits_spec hk) ?_
      rintro _ _ ⟨rfl, rfl⟩
      rename_i h4
      by_cases hfi : (laneB bs w i).toNat < 2 ^ kind
      · obtain ⟨v', h', q', e8, o', c', l', d'⟩ := ow.push (bytes := 8) (z := .int .u64 0) (x := .int .u64 (wi (laneB bs w i))) (by simp) (by simp [lanesL_len]; omega) (by simp [lanesL_len]; omega)
        simp [hfi, e8, e4]
        refine ⟨n - (i + 1), by omega, hI2 _ _ _ _ ⟨i + 1, v', q', rfl, by omega, rfl, ?_, gg.after c' (fun n hn hb => by have := hb.1; omega), own_q gg.len hq d', fun x hx => ?_⟩ (by simp)⟩
        · rw [lanesL_succ, List.map_append]; exact o'
        · by_cases hxi : x = i
          · rw [hxi]; exact hfi
          · exact hfit x (by omega)
      · simp [hfi]
        exact hQ _ _ ⟨gg, .inl ⟨fun h => hfi (h i hin), rfl⟩⟩
    · have hin : i = n := by omega
      subst hin
      simp
      exact hQ _ _ ⟨gg, .inr ⟨u, q, hfit, rfl, ow, hq⟩⟩

end Go.Ax
