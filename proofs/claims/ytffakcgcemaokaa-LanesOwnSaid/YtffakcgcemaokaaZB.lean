/- Seat lanes: the document's words: bits, lanes, comparisons. -/
import Derived.Test.YtffakcgcemaokaaMR
import Derived.Test.YtffakcgcemaokaaZA
namespace Go.Ax
set_option linter.unusedVariables false
set_option linter.unusedSimpArgs false

theorem refBit_spec {h : Heap} {v : Value} {bs : List (BitVec 8)} (r : Reads h v (bs.map bv)) {k : Nat} (hk : k ≤ 1000000000000000000) :
    Gives P T (.fn F_colonnaderef03_Bit) [v, .int .i64 k] h fun r h' => r = .int .u64 (wi (bitV (bbit bs k))) ∧ h' = h := by
  obtain ⟨b, c, rfl, hr⟩ := r.shape
  simp only [List.length_map] at hr ⊢
  refine gives_by t_colonnaderef03_Bit (by simp [c_colonnaderef03_Bit]) fun Q hQ => ?_
  have e1 := tmod_nat k 8
  have e2 := tdiv_nat k 8
  obtain ⟨m, hm⟩ : ∃ m, k % 8 = m := ⟨_, rfl⟩
  obtain ⟨d, hd⟩ : ∃ d, k / 8 = d := ⟨_, rfl⟩
  rw [hm] at e1
  rw [hd] at e2
  simp only [Int.cast_ofNat_Int] at e1 e2
  have e3 : IntKind.i64.wrap (d : Int) = d := wrap_i64 (by omega) (by omega)
  have e4 : IntKind.u64.wrap (m : Int) = m := wrap_u64 (by omega) (by omega)
  have k0 : ¬ ((k : Int) < 0) := by omega
  by_cases hlt : d < bs.length
  · have h1 : ¬ ((bs.length : Int) ≤ d) := by omega
    obtain ⟨a, rfl, ha⟩ := hr d hlt
    have hl := ha d _ (bv_get hlt)
    simp [c_colonnaderef03_Bit, k0, e1, e2, e3, e4, h1, hlt, hl, and_one64]
    refine hQ _ _ ⟨?_, rfl⟩
    unfold bbit
    rw [hd, hm, decide_eq_true (show m < 64 by omega), Bool.true_and]
  · have h1 : ((bs.length : Int) ≤ d) := by omega
    simp [c_colonnaderef03_Bit, k0, e1, e2, e3, h1]
    refine hQ _ _ ⟨?_, rfl⟩
    rw [bbit_out (by omega)]; rfl

theorem refLane_spec {h : Heap} {v : Value} {bs : List (BitVec 8)} (r : Reads h v (bs.map bv)) {s w : Nat} (hw : w ≤ 64) (hs : s ≤ 100000000000000000) :
    Gives P T (.fn F_colonnaderef03_Lane) [v, .int .i64 s, .int .i64 w] h fun r h' => r = .int .u64 (wi (bvOf (fun j => bbit bs (s + j)) w)) ∧ h' = h := by
  refine gives_by t_colonnaderef03_Lane (by simp [c_colonnaderef03_Lane]) fun Q hQ => ?_
  simp [c_colonnaderef03_Lane]
  refine go_loopK (fun k ks h2 => ∃ (i : Nat), k = w - i ∧ i ≤ w ∧ ks = [(0, v), (1, .int .i64 s), (2, .int .i64 w), (7, .int .u64 (wi (bvOf (fun j => bbit bs (s + j)) i))), (8, .int .i64 i)] ∧ h2 = h) (n := w) ⟨0, rfl, by omega, rfl, rfl⟩ (by simp [bvOf]) ?_
  rintro I hI k ks e h3 ⟨i, rfl, hi, rfl, rfl⟩
  simp
  refine branch_dec (fun hlt => ?_) (fun hge => ?_)
  · have hil : i < w := by omega
    have e2 : IntKind.i64.wrap ((s : Int) + i) = ((s + i : Nat) : Int) := by rw [wrap_i64 (by omega) (by omega)]; omega
    obtain ⟨s2, hs2⟩ : ∃ s2, s + i = s2 := ⟨_, rfl⟩
    rw [hs2] at e2
    have e3 : IntKind.u64.wrap (i : Int) = i := wrap_u64 (by omega) (by omega)
    have e4 : IntKind.i64.wrap ((i : Int) + 1) = ((i + 1 : Nat) : Int) := by rw [wrap_i64 (by omega) (by omega)]; omega
    simp [e2]
    refine got_call (refBit_spec r (by omega)) ?_
    rintro _ _ ⟨rfl, rfl⟩
    simp [e3, e4]
    refine ⟨w - (i + 1), by omega, hI _ _ _ _ ⟨i + 1, rfl, by omega, rfl, rfl⟩ ?_⟩
    simp [bvOf, hs2]
  · have hil : i = w := by omega
    subst hil
    simp
    exact hQ _ _ ⟨rfl, rfl⟩

/-- The bytes of a word. -/
def bytesOfW (x : BitVec 64) : Nat → List (BitVec 8)
  | 0 => []
  | n + 1 => bytesOfW x n ++ [(x >>> (8 * n)).setWidth 8]

theorem bytesOfW_len (x : BitVec 64) : ∀ n, (bytesOfW x n).length = n
  | 0 => rfl
  | n + 1 => by simp [bytesOfW, bytesOfW_len x n]

theorem bytesOfW_get (x : BitVec 64) : ∀ {n i : Nat}, i < n → byteA (bytesOfW x n) i = (x >>> (8 * i)).setWidth 8
  | 0, i, h => by omega
  | n + 1, i, h => by
    have ih := fun (hi : i < n) => bytesOfW_get x hi
    unfold byteA at ih ⊢
    rw [List.getD_eq_getElem?_getD] at ih ⊢
    rw [bytesOfW]
    by_cases hi : i < n
    · rw [List.getElem?_append_left (by rw [bytesOfW_len]; exact hi)]
      exact ih hi
    · have : i = n := by omega
      subst this
      rw [List.getElem?_append_right (by rw [bytesOfW_len]; omega), bytesOfW_len]
      simp

theorem bbit_word (x : BitVec 64) {j : Nat} (hj : j < 64) : bbit (bytesOfW x 8) j = x.getLsbD j := by
  unfold bbit
  rw [bytesOfW_get x (by omega), BitVec.getLsbD_setWidth, BitVec.getLsbD_ushiftRight, show 8 * (j / 8) + j % 8 = j by omega]
  simp [show j % 8 < 8 by omega]

theorem refword_spec {h : Heap} {x : BitVec 64} :
    Gives P T (.fn F_colonnaderef03_word) [.int .u64 (wi x)] h fun r h' => Reads h' r ((bytesOfW x 8).map bv) ∧ Grow h h' := by
  refine gives_by t_colonnaderef03_word (by simp [c_colonnaderef03_word]) fun Q hQ => ?_
  simp [c_colonnaderef03_word]
  refine go_loopK (fun k ks h2 => ∃ (i : Nat) (v : Value) (q : Nat), k = 8 - i ∧ i ≤ 8 ∧ ks = [(0, .int .u64 (wi x)), (3, v), (4, .int .i64 i)] ∧ Own h2 v q ((bytesOfW x i).map bv) ∧ Grow h h2 ∧ h.dyn.length ≤ q) (n := 8)
    ⟨0, .slice none 0 0, h.dyn.length, rfl, by omega, rfl, Own.nil _ _, Chg.refl _, Nat.le_refl _⟩ (by simp) ?_
  rintro I hI k ks e h3 ⟨i, v, q, rfl, hi, rfl, ow, g, hq⟩
  simp
  refine branch_dec (fun hlt => ?_) (fun hge => ?_)
  · have hil : i < 8 := by omega
    have e0 : IntKind.i64.wrap (8 * (i : Int)) = ((8 * i : Nat) : Int) := by rw [wrap_i64 (by omega) (by omega)]; omega
    obtain ⟨s, hs⟩ : ∃ s, 8 * i = s := ⟨_, rfl⟩
    rw [hs] at e0
    have e3 : IntKind.u64.wrap (s : Int) = s := wrap_u64 (by omega) (by omega)
    have e4 : IntKind.i64.wrap ((i : Int) + 1) = ((i + 1 : Nat) : Int) := by rw [wrap_i64 (by omega) (by omega)]; omega
    obtain ⟨v', h', q', e8, o', c', l', d'⟩ := ow.push (bytes := 1) (z := .int .u8 0) (x := .int .u8 (bi ((x >>> s).setWidth 8))) (by simp) (by simp [bytesOfW_len]; omega) (by simp [bytesOfW_len]; omega)
    simp [e0, e3, e8, e4]
    refine ⟨8 - (i + 1), by omega, hI _ _ _ _ ⟨i + 1, v', q', rfl, by omega, rfl, ?_, g.after c' fun n hn hb => by have := hb.1; omega, ?_⟩ (by simp)⟩
    · have : (bytesOfW x (i + 1)).map bv = (bytesOfW x i).map bv ++ [.int .u8 (bi ((x >>> s).setWidth 8))] := by rw [bytesOfW, List.map_append, hs]; rfl
      rw [this]; exact o'
    · have := g.len
      rcases d' with ⟨h1, _⟩ | h1 <;> omega
  · have hil : i = 8 := by omega
    subst hil
    simp
    exact hQ _ _ ⟨ow.reads, g⟩

/-- How two numbers stand. -/
def stB (op : Int) (a b : BitVec 64) : Bool :=
  if op = 1 then decide (a = b) else if op = 2 then decide (¬ a = b) else if op = 3 then decide (wi a < wi b) else if op = 4 then decide (wi a ≤ wi b) else if op = 5 then decide (wi b < wi a) else decide (wi b ≤ wi a)

theorem stands_spec {h : Heap} {a b : BitVec 64} {op : Int} :
    Gives P T (.fn F_colonnaderef03_Stands) [.int .u64 (wi a), .int .i64 op, .int .u64 (wi b)] h fun r h' => r = .bool (stB op a b) ∧ h' = h := by
  refine gives_by t_colonnaderef03_Stands (by simp [c_colonnaderef03_Stands]) fun Q hQ => ?_
  simp [c_colonnaderef03_Stands]
  by_cases h1 : op = 1
  · simp [h1]; exact hQ _ _ ⟨by simp [stB, h1], rfl⟩
  by_cases h2 : op = 2
  · simp [h2]; exact hQ _ _ ⟨by simp [stB, h2], rfl⟩
  by_cases h3 : op = 3
  · simp [h3]; exact hQ _ _ ⟨by simp [stB, h3], rfl⟩
  by_cases h4 : op = 4
  · simp [h4]; exact hQ _ _ ⟨by simp [stB, h4], rfl⟩
  by_cases h5 : op = 5
  · simp [h5]; exact hQ _ _ ⟨by simp [stB, h5], rfl⟩
  simp [h1, h2, h3, h4, h5]
  exact hQ _ _ ⟨by simp [stB, h1, h2, h3, h4, h5], rfl⟩

theorem lane_toNat {x : BitVec 64} {w l : Nat} (h1 : 1 ≤ w) (h2 : w ≤ 64) (hl : l < lc w) : (bvOf (fun j => bbit (bytesOfW x 8) (l * w + j)) w).toNat = ln w x.toNat l := by
  apply Nat.eq_of_testBit_eq
  intro j
  rw [ln_bit]
  show (bvOf (fun j => bbit (bytesOfW x 8) (l * w + j)) w).getLsbD j = _
  rw [bvOf_bit _ _ _ h2]
  by_cases hj : j < w
  · have := lane_lt hl hj
    have := @lc_le w
    rw [bbit_word _ (by rw [Nat.mul_comm]; omega), Nat.mul_comm]; rfl
  · simp [hj]

theorem held_lane {x y : BitVec 64} {w l : Nat} {op : Int} (h1 : 1 ≤ w) (h2 : w ≤ 64) (hl : l < lc w) {a b : BitVec 64} (ha : a.toNat = ln w x.toNat l) (hb : b.toNat = ln w y.toNat l) :
    stB op a b = stB op (BitVec.ofNat 64 (ln w x.toNat l)) (BitVec.ofNat 64 (ln w y.toNat l)) := by
  have e1 : a = BitVec.ofNat 64 (ln w x.toNat l) := by rw [← ha]; simp
  have e2 : b = BitVec.ofNat 64 (ln w y.toNat l) := by rw [← hb]; simp
  rw [← e1, ← e2]

/-- The lanes held against one another, as marks at the top bits. -/
def heldF (op : Int) (x y : BitVec 64) (w j : Nat) : Bool := decide (j % w = w - 1) && stB op (BitVec.ofNat 64 (ln w x.toNat (j / w))) (BitVec.ofNat 64 (ln w y.toNat (j / w)))
def heldB (op : Int) (x y : BitVec 64) (w : Nat) : BitVec 64 := bvOf (fun j => decide (j < w * lc w) && heldF op x y w j) 64

theorem held_step {op : Int} {x y m : BitVec 64} {w i s : Nat} (hs : w * i = s) (hi : i < lc w) (hw : 1 ≤ w) (hm : ∀ j, j < 64 → m.getLsbD j = (decide (j < s) && heldF op x y w j)) :
    ∀ j, j < 64 → (if stB op (BitVec.ofNat 64 (ln w x.toNat i)) (BitVec.ofNat 64 (ln w y.toNat i)) then m ||| 1#64 <<< (s + w - 1) else m).getLsbD j = (decide (j < s + w) && heldF op x y w j) := by
  intro j hj
  have h1 : ∀ j, s ≤ j → j < s + w → j % w = j - s ∧ j / w = i := fun j h1 h2 => by
    have e : j = w * i + (j - s) := by omega
    have a1 : (w * i + (j - s)) % w = j - s := lane_mod (by omega)
    have a2 : (w * i + (j - s)) / w = i := lane_div (by omega)
    rw [← e] at a1 a2
    exact ⟨a1, a2⟩
  by_cases h2 : j < s
  · have h3 : j < s + w := by omega
    have h4 : ¬ s + w - 1 ≤ j := by omega
    have h5 : j < s + w - 1 := by omega
    split
    · rw [BitVec.getLsbD_or, hm j hj, BitVec.getLsbD_shiftLeft]; simp [h2, h3, h5]
    · rw [hm j hj]; simp [h2, h3]
  · by_cases h3 : j < s + w
    · obtain ⟨e1, e2⟩ := h1 j (by omega) h3
      by_cases h4 : j = s + w - 1
      · have h5 : j % w = w - 1 := by omega
        have h6 : ¬ j < s + w - 1 := by omega
        split
        · rename_i hst
          rw [BitVec.getLsbD_or, hm j hj, BitVec.getLsbD_shiftLeft]
          simp [h2, h3, heldF, h5, e2, hst, h6, hj]; omega
        · rename_i hst
          rw [hm j hj]; simp [h2, h3, heldF, h5, e2, hst]
      · have h5 : ¬ j % w = w - 1 := by omega
        have h6 : j < s + w - 1 := by omega
        split
        · rw [BitVec.getLsbD_or, hm j hj, BitVec.getLsbD_shiftLeft]; simp [h2, heldF, h5, h6]
        · rw [hm j hj]; simp [h2, heldF, h5]
    · have h6 : ¬ j < s + w - 1 := by omega
      have h7 : ¬ j - (s + w - 1) = 0 := by omega
      split
      · rw [BitVec.getLsbD_or, hm j hj, BitVec.getLsbD_shiftLeft]; simp [h2, h3, h7]
      · rw [hm j hj]; simp [h2, h3]

theorem held_spec {h : Heap} {x y : BitVec 64} {w : Nat} {op : Int} (h1 : 1 ≤ w) (h2 : w ≤ 64) :
    Gives P T (.fn F_colonnaderef03_Held) [.int .u64 (wi x), .int .u64 (wi y), .int .i64 w, .int .i64 op] h fun r h' => r = .tuple #[.int .u64 (wi (heldB op x y w)), .int .i64 0] ∧ Grow h h' := by
  refine gives_by t_colonnaderef03_Held (by simp [c_colonnaderef03_Held]) fun Q hQ => ?_
  have hw0 : ¬ w = 0 := by omega
  have hw1 : ¬ ((w : Int) < 1) := by omega
  have hw2 : ¬ (64 < (w : Int)) := by omega
  have hlc := @lc_le w
  have hl64 := @lc_64 w
  simp [c_colonnaderef03_Held, hw1, hw2]
  refine go_loopK (fun k ks h2 => ∃ (i : Nat) (m : BitVec 64), k = lc w - i ∧ i ≤ lc w ∧ ks = [(0, .int .u64 (wi x)), (1, .int .u64 (wi y)), (2, .int .i64 w), (3, .int .i64 op), (10, .int .u64 (wi m)), (11, .int .i64 i)] ∧
    (∀ j, j < 64 → m.getLsbD j = (decide (j < w * i) && heldF op x y w j)) ∧ Grow h h2) (n := lc w) ⟨0, 0, rfl, by omega, rfl, by simp, Chg.refl _⟩ (by simp) ?_
  rintro I hI k ks e h3 ⟨i, m, rfl, hi, rfl, hm, g⟩
  simp [hw0, lc_div h1, lc_wrap]
  refine branch_dec (fun hlt => ?_) (fun hge => ?_)
  · have hil : i < lc w := by omega
    have hb := lane_lt hil (show w - 1 < w by omega)
    obtain ⟨s, hs⟩ : ∃ s, i * w = s := ⟨_, rfl⟩
    have hs' : w * i = s := by rw [Nat.mul_comm]; exact hs
    have e0 : (i : Int) * w = (s : Int) := by rw [← hs, Int.natCast_mul]
    have e1 : IntKind.i64.wrap (s : Int) = s := wrap_i64 (by omega) (by omega)
    have e2 : IntKind.i64.wrap ((s : Int) + w) = ((s + w : Nat) : Int) := by rw [wrap_i64 (by omega) (by omega)]; omega
    obtain ⟨s2, hs2⟩ : ∃ s2, s + w = s2 := ⟨_, rfl⟩
    rw [hs2] at e2
    have e3 : IntKind.i64.wrap ((s2 : Int) - 1) = ((s2 - 1 : Nat) : Int) := by rw [wrap_i64 (by omega) (by omega)]; omega
    obtain ⟨s3, hs3⟩ : ∃ s3, s2 - 1 = s3 := ⟨_, rfl⟩
    rw [hs3] at e3
    have e5 : IntKind.u64.wrap (s3 : Int) = s3 := wrap_u64 (by omega) (by omega)
    have e4 : IntKind.i64.wrap ((i : Int) + 1) = ((i + 1 : Nat) : Int) := by rw [wrap_i64 (by omega) (by omega)]; omega
    simp
    refine got_call refword_spec ?_
    rintro v4 h4 ⟨r4, g4⟩
    simp [e0, e1]
    refine got_call (refLane_spec r4 h2 (by omega)) ?_
    rintro _ _ ⟨rfl, rfl⟩
    simp
    refine got_call refword_spec ?_
    rintro v5 h5 ⟨r5, g5⟩
    simp [e0, e1]
    refine got_call (refLane_spec r5 h2 (by omega)) ?_
    rintro _ _ ⟨rfl, rfl⟩
    simp
    refine got_call stands_spec ?_
    rintro _ _ ⟨rfl, rfl⟩
    rename_i hh
    have hst := held_lane (op := op) h1 h2 hil (lane_toNat (x := x) h1 h2 hil) (lane_toNat (x := y) h1 h2 hil)
    rw [hs] at hst
    rw [hst]
    have hstep := held_step (op := op) hs' hil h1 (fun j hj => by rw [← hs']; exact hm j hj)
    rw [show s + w - 1 = s3 by omega, show s + w = w * (i + 1) by rw [Nat.mul_add, hs', Nat.mul_one]] at hstep
    have gg := (g.trans g4).trans g5
    simp
    cases hb2 : stB op (BitVec.ofNat 64 (ln w x.toNat i)) (BitVec.ofNat 64 (ln w y.toNat i)) with
    | true =>
      rw [hb2] at hstep
      simp [e0, e1, e2, e3, e5, e4]
      exact ⟨lc w - (i + 1), by omega, hI _ _ _ _ ⟨i + 1, m ||| 1#64 <<< s3, rfl, by omega, rfl, hstep, gg⟩ (by simp)⟩
    | false =>
      rw [hb2] at hstep
      simp [e4]
      exact ⟨lc w - (i + 1), by omega, hI _ _ _ _ ⟨i + 1, m, rfl, by omega, rfl, hstep, gg⟩ (by simp)⟩
  · have hil : i = lc w := by omega
    subst hil
    simp
    refine hQ _ _ ⟨?_, g⟩
    have : m = heldB op x y w := by
      apply eq_bvOf (by omega)
      intro j hj
      rw [hm j hj]; simp [hj]
    rw [this]

theorem held_bad {h : Heap} {x y : BitVec 64} {w : Int} {op : Int} (hr : ¬ (1 ≤ w ∧ w ≤ 64)) :
    Gives P T (.fn F_colonnaderef03_Held) [.int .u64 (wi x), .int .u64 (wi y), .int .i64 w, .int .i64 op] h fun r h' => r = .tuple #[.int .u64 0, .int .i64 20] ∧ h' = h := by
  refine gives_by t_colonnaderef03_Held (by simp [c_colonnaderef03_Held]) fun Q hQ => ?_
  by_cases h1 : w < 1
  · simp [c_colonnaderef03_Held, h1, skipV]
    exact hQ _ _ ⟨rfl, rfl⟩
  · have h2 : 64 < w := by omega
    simp [c_colonnaderef03_Held, h1, h2]
    exact hQ _ _ ⟨rfl, rfl⟩

theorem refMarks_spec {h : Heap} {m : BitVec 64} {w : Nat} (h1 : 1 ≤ w) (h2 : w ≤ 64) :
    Gives P T (.fn F_colonnaderef03_Marks) [.int .u64 (wi m), .int .i64 w] h fun r h' => r = .tuple #[.int .u64 (wi (marksB m w)), .int .i64 0] ∧ Grow h h' := by
  refine gives_by t_colonnaderef03_Marks (by simp [c_colonnaderef03_Marks]) fun Q hQ => ?_
  have hw0 : ¬ w = 0 := by omega
  have hw1 : ¬ ((w : Int) < 1) := by omega
  have hw2 : ¬ (64 < (w : Int)) := by omega
  have hlc := @lc_le w
  have hl64 := @lc_64 w
  simp [c_colonnaderef03_Marks, hw1, hw2]
  refine go_loopK (fun k ks h2 => ∃ (i : Nat), k = lc w - i ∧ i ≤ lc w ∧ ks = [(0, .int .u64 (wi m)), (1, .int .i64 w), (6, .int .u64 (wi (bvOf (fun l => m.getLsbD (w * l + (w - 1))) i))), (7, .int .i64 i)] ∧
    Grow h h2) (n := lc w) ⟨0, rfl, by omega, rfl, Chg.refl _⟩ (by simp [bvOf]) ?_
  rintro I hI k ks e h3 ⟨i, rfl, hi, rfl, g⟩
  simp [hw0, lc_div h1, lc_wrap]
  refine branch_dec (fun hlt => ?_) (fun hge => ?_)
  · have hil : i < lc w := by omega
    have hb := lane_lt hil (show w - 1 < w by omega)
    obtain ⟨s, hs⟩ : ∃ s, i * w = s := ⟨_, rfl⟩
    have hs' : w * i = s := by rw [Nat.mul_comm]; exact hs
    have e0 : (i : Int) * w = (s : Int) := by rw [← hs, Int.natCast_mul]
    have e1 : IntKind.i64.wrap (s : Int) = s := wrap_i64 (by omega) (by omega)
    have e2 : IntKind.i64.wrap ((s : Int) + w) = ((s + w : Nat) : Int) := by rw [wrap_i64 (by omega) (by omega)]; omega
    obtain ⟨s2, hs2⟩ : ∃ s2, s + w = s2 := ⟨_, rfl⟩
    rw [hs2] at e2
    have e3 : IntKind.i64.wrap ((s2 : Int) - 1) = ((s2 - 1 : Nat) : Int) := by rw [wrap_i64 (by omega) (by omega)]; omega
    obtain ⟨s3, hs3⟩ : ∃ s3, s2 - 1 = s3 := ⟨_, rfl⟩
    rw [hs3] at e3
    have e5 : IntKind.u64.wrap (i : Int) = i := wrap_u64 (by omega) (by omega)
    have e4 : IntKind.i64.wrap ((i : Int) + 1) = ((i + 1 : Nat) : Int) := by rw [wrap_i64 (by omega) (by omega)]; omega
    simp
    refine got_call refword_spec ?_
    rintro v4 h4 ⟨r4, g4⟩
    simp [e0, e1, e2, e3]
    refine got_call (refBit_spec r4 (by omega)) ?_
    rintro _ _ ⟨rfl, rfl⟩
    simp [e5, e4]
    refine ⟨lc w - (i + 1), by omega, hI _ _ _ _ ⟨i + 1, rfl, by omega, rfl, g.trans g4⟩ ?_⟩
    simp [bvOf, show w * i + (w - 1) = s3 by omega, bbit_word m (show s3 < 64 by omega)]
  · have hil : i = lc w := by omega
    subst hil
    simp
    exact hQ _ _ ⟨rfl, g⟩

theorem refMarks_bad {h : Heap} {m : BitVec 64} {w : Int} (hr : ¬ (1 ≤ w ∧ w ≤ 64)) :
    Gives P T (.fn F_colonnaderef03_Marks) [.int .u64 (wi m), .int .i64 w] h fun r h' => r = .tuple #[.int .u64 0, .int .i64 20] ∧ h' = h := by
  refine gives_by t_colonnaderef03_Marks (by simp [c_colonnaderef03_Marks]) fun Q hQ => ?_
  by_cases h1 : w < 1
  · simp [c_colonnaderef03_Marks, h1, skipV]
    exact hQ _ _ ⟨rfl, rfl⟩
  · have h2 : 64 < w := by omega
    simp [c_colonnaderef03_Marks, h1, h2]
    exact hQ _ _ ⟨rfl, rfl⟩

theorem reffits_spec {h : Heap} {v : BitVec 64} {w : Nat} : Gives P T (.fn F_colonnaderef03_fits) [.int .u64 (wi v), .int .i64 w] h fun r h' => r = .bool (decide (64 ≤ w ∨ v >>> w = 0#64)) ∧ h' = h := by
  refine gives_by t_colonnaderef03_fits (by simp [c_colonnaderef03_fits]) fun Q hQ => ?_
  by_cases h1 : 64 ≤ w
  · have : 64 ≤ (w : Int) := by omega
    simp [c_colonnaderef03_fits, this, skipV]
    exact hQ _ _ ⟨by simp [h1], rfl⟩
  · have : ¬ 64 ≤ (w : Int) := by omega
    have e5 : IntKind.u64.wrap (w : Int) = w := wrap_u64 (by omega) (by omega)
    simp [c_colonnaderef03_fits, this, e5]
    exact hQ _ _ ⟨by simp [h1], rfl⟩

theorem refSpread_spec {h : Heap} {v : BitVec 64} {w : Nat} (h1 : 1 ≤ w) (h2 : w ≤ 64) (hv : 64 ≤ w ∨ v >>> w = 0#64) :
    Gives P T (.fn F_colonnaderef03_Spread) [.int .u64 (wi v), .int .i64 w] h fun r h' => r = .tuple #[.int .u64 (wi (spreadB v w)), .int .i64 0] ∧ h' = h := by
  refine gives_by t_colonnaderef03_Spread (by simp [c_colonnaderef03_Spread]) fun Q hQ => ?_
  have hw0 : ¬ w = 0 := by omega
  have hw1 : ¬ ((w : Int) < 1) := by omega
  have hw2 : ¬ (64 < (w : Int)) := by omega
  have hlc := @lc_le w
  have hl64 := @lc_64 w
  have hvb : ∀ j, w ≤ j → v.getLsbD j = false := by
    rcases hv with hv | hv
    · exact fun j hj => BitVec.getLsbD_of_ge _ _ (by omega)
    · exact fits_bits hv
  simp [c_colonnaderef03_Spread, hw1, hw2]
  refine got_call reffits_spec ?_
  rintro _ _ ⟨rfl, rfl⟩
  rename_i h
  simp [hv]
  refine go_loopK (fun k ks h2 => ∃ (i : Nat) (x : BitVec 64), k = lc w - i ∧ i ≤ lc w ∧ ks = [(0, .int .u64 (wi v)), (1, .int .i64 w), (6, .int .u64 (wi x)), (7, .int .i64 i)] ∧
    (∀ j, j < 64 → x.getLsbD j = (decide (j < w * i) && v.getLsbD (j % w))) ∧ h2 = h) (n := lc w) ⟨0, 0, rfl, by omega, rfl, by simp, rfl⟩ (by simp) ?_
  rintro I hI k ks e h3 ⟨i, x, rfl, hi, rfl, hx, rfl⟩
  simp [hw0, lc_div h1, lc_wrap]
  refine branch_dec (fun hlt => ?_) (fun hge => ?_)
  · have hil : i < lc w := by omega
    have hb := lane_lt hil (show w - 1 < w by omega)
    obtain ⟨s, hs⟩ : ∃ s, i * w = s := ⟨_, rfl⟩
    have hs' : w * i = s := by rw [Nat.mul_comm]; exact hs
    have e0 : (i : Int) * w = (s : Int) := by rw [← hs, Int.natCast_mul]
    have e1 : IntKind.i64.wrap (s : Int) = s := wrap_i64 (by omega) (by omega)
    have e5 : IntKind.u64.wrap (s : Int) = s := wrap_u64 (by omega) (by omega)
    have e4 : IntKind.i64.wrap ((i : Int) + 1) = ((i + 1 : Nat) : Int) := by rw [wrap_i64 (by omega) (by omega)]; omega
    simp [e0, e1, e4, e5]
    exact ⟨lc w - (i + 1), by omega, hI _ _ _ _ ⟨i + 1, x ||| v <<< s, rfl, by omega, rfl, spread_step hs hil h1 hvb hx, rfl⟩ (by simp)⟩
  · have hil : i = lc w := by omega
    subst hil
    simp
    refine hQ _ _ ⟨?_, rfl⟩
    have : x = spreadB v w := by
      apply eq_bvOf (by omega)
      intro j hj
      rw [hx j hj]; simp [hj]
    rw [this]

theorem refSpread_bad {h : Heap} {v : BitVec 64} {w : Int} (hr : ¬ (1 ≤ w ∧ w ≤ 64)) :
    Gives P T (.fn F_colonnaderef03_Spread) [.int .u64 (wi v), .int .i64 w] h fun r h' => r = .tuple #[.int .u64 0, .int .i64 20] ∧ h' = h := by
  refine gives_by t_colonnaderef03_Spread (by simp [c_colonnaderef03_Spread]) fun Q hQ => ?_
  by_cases h1 : w < 1
  · simp [c_colonnaderef03_Spread, h1, skipV]
    exact hQ _ _ ⟨rfl, rfl⟩
  · have h2 : 64 < w := by omega
    simp [c_colonnaderef03_Spread, h1, h2]
    exact hQ _ _ ⟨rfl, rfl⟩

theorem refSpread_over {h : Heap} {v : BitVec 64} {w : Nat} (h1 : 1 ≤ w) (h2 : w ≤ 64) (hv : ¬ (64 ≤ w ∨ v >>> w = 0#64)) :
    Gives P T (.fn F_colonnaderef03_Spread) [.int .u64 (wi v), .int .i64 w] h fun r h' => r = .tuple #[.int .u64 0, .int .i64 21] ∧ h' = h := by
  refine gives_by t_colonnaderef03_Spread (by simp [c_colonnaderef03_Spread]) fun Q hQ => ?_
  have hw1 : ¬ ((w : Int) < 1) := by omega
  have hw2 : ¬ (64 < (w : Int)) := by omega
  simp [c_colonnaderef03_Spread, hw1, hw2]
  refine got_call reffits_spec ?_
  rintro _ _ ⟨rfl, rfl⟩
  simp [hv]
  exact hQ _ _ ⟨rfl, rfl⟩

end Go.Ax
