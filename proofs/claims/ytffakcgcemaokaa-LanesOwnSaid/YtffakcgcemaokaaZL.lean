/- Seat lanes: packed numbers; the law of widths. -/
import Derived.Test.YtffakcgcemaokaaZK
import Derived.Test.YtffakcgcemaokaaPB
namespace Go.Ax
open Go.Proofs
set_option linter.unusedVariables false
set_option linter.unusedSimpArgs false

theorem packs_fine {cs : List (BitVec 64)} {w : Nat} {bs : List (BitVec 8)} (p : Packs cs w bs) (hn : cs.length ≤ 16777216) (hw : w ≤ 64) : Fine bs w cs.length :=
  ⟨hw, hn, p.len, fun i hi => by rw [p.bits]; simp; omega⟩

theorem packs_lane {cs : List (BitVec 64)} {w : Nat} {bs : List (BitVec 8)} (p : Packs cs w bs) (hw : w ≤ 64) (hf : allFit cs w) {i : Nat} (hi : i < cs.length) : laneB bs w i = numA cs i := by
  symm
  apply eq_bvOf hw
  intro j hj
  by_cases hjw : j < w
  · have h1 : i * w + j < cs.length * w := by
      have := Nat.mul_le_mul_right w (show i + 1 ≤ cs.length by omega)
      rw [Nat.add_mul] at this; omega
    rw [p.bits, Nat.mul_comm i w, strm_at hjw]
    rw [Nat.mul_comm i w] at h1
    simp [hjw, h1]
  · have hlt := hf i hi
    have : (numA cs i).getLsbD j = false := by
      show (numA cs i).toNat.testBit j = false
      exact Nat.testBit_lt_two_pow (Nat.lt_of_lt_of_le hlt (Nat.pow_le_pow_right (by omega) (by omega)))
    rw [this]; simp [hjw]

/-- A number brought below 2^w. -/
def maskB (w : Nat) (x : BitVec 64) : BitVec 64 := if w < 64 then x &&& (1#64 <<< w - 1#64) else x

theorem maskB_fit {w : Nat} (x : BitVec 64) (hw : w ≤ 64) : (maskB w x).toNat < 2 ^ w := by
  unfold maskB
  split
  · rename_i h
    apply lt_pow
    intro j hj
    show (x &&& (1#64 <<< w - 1#64)).getLsbD j = false
    rw [and_mask h]; simp; omega
  · have : w = 64 := by omega
    subst this; exact x.isLt

theorem fit_all {cs : List (BitVec 64)} {w : Nat} (hw : w ≤ 64) : allFit (cs.map (maskB w)) w := by
  intro i hi
  unfold numA
  rw [List.getD_eq_getElem?_getD, List.getElem?_map, List.getElem?_eq_getElem (by simpa using hi)]
  exact maskB_fit _ hw

theorem allFit_mono {cs : List (BitVec 64)} {w w' : Nat} (h : allFit cs w) (hw : w ≤ w') : allFit cs w' := fun i hi => Nat.lt_of_lt_of_le (h i hi) (Nat.pow_le_pow_right (by omega) hw)

/-- The fields of the argument in their box. -/
def listC (vL vOf : Value) (width : Int) (c lo hi : BitVec 64) : List Value := [vL, .int .i64 width, .int .u64 (wi c), .int .u64 (wi lo), .int .u64 (wi hi), vOf]

theorem fit_spec {h : Heap} {vL vOf : Value} {cs : List (BitVec 64)} (r : Reads h vL (cs.map wv)) (hcs : cs.length * 8 ≤ 140737488351232) (width : Int) (c lo hi : BitVec 64) {w : Nat} (hw : width % 65 = w) :
    Gives P T (.fn F_colonnadelaw03_fit) [.agg (listC vL vOf width c lo hi).toArray] h fun r h' => ∃ u q, r = .tuple #[u, .int .i64 w] ∧ Own h' u q ((cs.map (maskB w)).map wv) ∧ Grow h h' ∧ h.dyn.length ≤ q := by
  obtain ⟨b, cc, ev, hr⟩ := r.shape
  simp only [List.length_map] at hr ev
  obtain ⟨N, hN⟩ : ∃ N, cs.length = N := ⟨_, rfl⟩
  rw [hN] at hr hcs ev
  refine gives_by t_colonnadelaw03_fit (by simp [c_colonnadelaw03_fit]) fun Q hQ => ?_
  have gb := Grow.new h (listC vL vOf width c lo hi) 0
  have rb := RowAt.new h (listC vL vOf width c lo hi) 0
  obtain ⟨t1, t2, t3⟩ := tmod_range width (n := 65) (by omega)
  have hw65 : w < 65 := by omega
  simp only [Int.cast_ofNat_Int] at t1 t2 t3
  simp [c_colonnadelaw03_fit, rb.get (i := 1) rfl]
  obtain ⟨tm, htm⟩ : ∃ z, width.tmod 65 = z := ⟨_, rfl⟩
  rw [htm] at t1 t2 t3
  have hwv : (if tm < 0 then tm + 65 else tm) = (w : Nat) := by rw [t3, hw]
  simp [htm]
  have fin : tm < 0 ∧ IntKind.i64.wrap (tm + 65) = (w : Nat) ∨ ¬ tm < 0 ∧ tm = (w : Nat) := by
    by_cases h0 : tm < 0
    · left; rw [if_pos h0] at hwv; exact ⟨h0, by rw [wrap_i64 (by omega) (by omega)]; exact hwv⟩
    · right; rw [if_neg h0] at hwv; exact ⟨h0, hwv⟩
  have wneg : ¬ (w : Int) < 0 := by omega
  rcases fin with ⟨h0, h1⟩ | ⟨h0, h1⟩
  all_goals
    simp [h0, h1, wneg]
    refine go_loopK (fun k ks h2 => ∃ (i : Nat) (u : Value) (q : Nat), k = N - i ∧ i ≤ N ∧ ks = [(1, .pointer (some ⟨h.dyn.length, 0, some 0⟩)), (4, .int .i64 w), (5, u), (6, .int .i64 i)] ∧ Own h2 u q (((cs.take i).map (maskB w)).map wv) ∧ Grow (hnew h (listC vL vOf width c lo hi) 0) h2 ∧ (hnew h (listC vL vOf width c lo hi) 0).dyn.length ≤ q) (n := N)
      ⟨0, .slice none 0 0, (hnew h (listC vL vOf width c lo hi) 0).dyn.length, rfl, by omega, rfl, by simpa using Own.nil _ _, Chg.refl _, Nat.le_refl _⟩ (by simp) ?_
    rintro I hI k ks e h3 ⟨i, u, q, rfl, hiN, rfl, ow, gg, hq⟩
    have r3 := rb.grow gg
    have hv3 := r3.get (i := 0) (x := vL) rfl
    simp [hv3, ev]
    refine branch_dec (fun hlt => ?_) (fun hge => ?_)
    · have hil : i < N := by omega
      obtain ⟨a, rfl, hla⟩ := hr i hil
      have hld := hload_grow (gb.trans gg) (hla i _ (wordL_get (by omega)))
      have e4 : IntKind.i64.wrap ((i : Int) + 1) = ((i + 1 : Nat) : Int) := by rw [wrap_i64 (by omega) (by omega)]; omega
      have e3 : IntKind.u64.wrap (w : Int) = w := wrap_u64 (by omega) (by omega)
      have htake : ((cs.take (i + 1)).map (maskB w)).map wv = ((cs.take i).map (maskB w)).map wv ++ [.int .u64 (wi (maskB w (wordL cs i)))] := by
        rw [List.take_add_one, List.getElem?_eq_getElem (by omega)]
        simp only [List.map_append, Option.toList_some, List.map_cons, List.map_nil]
        congr 2
        unfold wordL wv
        rw [List.getD_eq_getElem?_getD, List.getElem?_eq_getElem (by omega)]; rfl
      obtain ⟨v', h', q', e8, o', c', l', d'⟩ := ow.push (bytes := 8) (z := .int .u64 0) (x := .int .u64 (wi (maskB w (wordL cs i)))) (by simp) (by simp; omega) (by simp; omega)
      rw [← htake] at o'
      have gg' : Grow (hnew h (listC vL vOf width c lo hi) 0) h' := gg.after c' fun n hn hb => by have := hb.1; omega
      have hq' : (hnew h (listC vL vOf width c lo hi) 0).dyn.length ≤ q' := by
        have := gg.len
        rcases d' with ⟨h1, _⟩ | h1 <;> omega
      subst ev
      by_cases h64 : w < 64
      · have h64' : (w : Int) < 64 := by omega
        rw [show maskB w (wordL cs i) = wordL cs i &&& (1#64 <<< w - 1#64) from if_pos h64] at e8
        simp [hil, hv3, hld, h64', e3, e8, e4]
        exact ⟨N - (i + 1), by omega, hI _ _ _ _ ⟨i + 1, v', q', rfl, by omega, rfl, o', gg', hq'⟩ (by simp)⟩
      · have h64' : ¬ (w : Int) < 64 := by omega
        rw [show maskB w (wordL cs i) = wordL cs i from if_neg h64] at e8
        simp [hil, hv3, hld, h64', e8, e4]
        exact ⟨N - (i + 1), by omega, hI _ _ _ _ ⟨i + 1, v', q', rfl, by omega, rfl, o', gg', hq'⟩ (by simp)⟩
    · have hil : i = N := by omega
      subst hil
      rw [List.take_of_length_le (by omega)] at ow
      simp
      exact hQ _ _ ⟨u, q, rfl, ow, gb.trans gg, by simp at hq; omega⟩

theorem same_true {h : Heap} {p q p' q' n : Nat} {ws ws' : List (BitVec 64)} (s : SetAt h p q n ws) (cn : Canon n ws) (s' : SetAt h p' q' n ws') (cn' : Canon n ws') (hb : ∀ i, i < n → bit ws i = bit ws' i) :
    Gives P T (.fn F_colonnadelaw03_same) [ptr p, ptr p'] h fun r h' => r = .bool true ∧ h' = h := by
  have hn := cn.le
  refine gives_by t_colonnadelaw03_same (by simp [c_colonnadelaw03_same]) fun Q hQ => ?_
  simp [c_colonnadelaw03_same, ptr]
  refine got_call (len_spec s) ?_
  rintro _ _ ⟨rfl, rfl⟩
  simp
  refine got_call (len_spec s') ?_
  rintro _ _ ⟨rfl, rfl⟩
  rename_i h
  simp
  refine go_loopK (fun k ks h2 => ∃ (i : Nat), k = n - i ∧ i ≤ n ∧ ks = [(0, ptr p), (1, ptr p'), (5, .int .i64 i)] ∧ h2 = h) (n := n) ⟨0, rfl, by omega, rfl, rfl⟩ (by simp [ptr]) ?_
  rintro I hI k ks e h3 ⟨i, rfl, hi, rfl, rfl⟩
  simp
  refine got_call (len_spec s) ?_
  rintro _ _ ⟨rfl, rfl⟩
  rename_i h3
  simp
  refine branch_dec (fun hlt => ?_) (fun hge => ?_)
  · have hil : i < n := by omega
    have e4 : IntKind.i64.wrap ((i : Int) + 1) = ((i + 1 : Nat) : Int) := by rw [wrap_i64 (by omega) (by omega)]; omega
    simp
    refine got_call (get_spec s cn i) ?_
    rintro _ _ ⟨rfl, rfl⟩
    rename_i h3
    simp
    refine got_call (get_spec s' cn' i) ?_
    rintro _ _ ⟨rfl, rfl⟩
    simp [hb i hil, e4]
    exact ⟨n - (i + 1), by omega, hI _ _ _ _ ⟨i + 1, rfl, by omega, rfl, rfl⟩ (by simp [ptr])⟩
  · simp
    exact hQ _ _ ⟨rfl, rfl⟩

theorem same_says {h0 h1 h : Heap} {p p' n : Nat} {f f' : Nat → Bool} (s : SaysAt h0 h p n f) (s' : SaysAt h1 h p' n f') (hb : ∀ i, i < n → f i = f' i) :
    Gives P T (.fn F_colonnadelaw03_same) [ptr p, ptr p'] h fun r h' => r = .bool true ∧ h' = h := by
  obtain ⟨q, ws, s, c, b, _, _⟩ := s
  obtain ⟨q', ws', s', c', b', _, _⟩ := s'
  exact same_true s c s' c' fun i hi => by rw [b, b']; simp [hi, hb i hi]

theorem count_says {h0 h : Heap} {p n : Nat} {f : Nat → Bool} (s : SaysAt h0 h p n f) :
    Gives P T (.fn F_colonnadelaw03_count) [ptr p, .int .i64 n] h fun r h' => (∃ m : Nat, r = .int .i64 m) ∧ h' = h := by
  obtain ⟨q, ws, s, c, b, _, _⟩ := s
  refine gives_by t_colonnadelaw03_count (by simp [c_colonnadelaw03_count]) fun Q hQ => ?_
  simp [c_colonnadelaw03_count, ptr]
  refine got_call (len_spec s) ?_
  rintro _ _ ⟨rfl, rfl⟩
  simp
  refine got_call (count_spec s c) ?_
  rintro _ _ ⟨rfl, rfl⟩
  simp
  exact hQ _ _ ⟨⟨_, rfl⟩, rfl⟩

theorem sum_congr {bs bs' : List (BitVec 8)} {w w' : Nat} : ∀ {n : Nat}, (∀ i, i < n → laneB bs w i = laneB bs' w' i) → sumB bs w n = sumB bs' w' n
  | 0, _ => rfl
  | n + 1, h => by rw [sumB, sumB, sum_congr fun i hi => h i (by omega), h n (by omega)]
theorem min_congr {bs bs' : List (BitVec 8)} {w w' : Nat} : ∀ {n : Nat}, (∀ i, i < n → laneB bs w i = laneB bs' w' i) → minB bs w n = minB bs' w' n
  | 0, _ => rfl
  | n + 1, h => by rw [minB, minB, min_congr fun i hi => h i (by omega), h n (by omega)]
theorem max_congr {bs bs' : List (BitVec 8)} {w w' : Nat} : ∀ {n : Nat}, (∀ i, i < n → laneB bs w i = laneB bs' w' i) → maxB bs w n = maxB bs' w' n
  | 0, _ => rfl
  | n + 1, h => by rw [maxB, maxB, max_congr fun i hi => h i (by omega), h n (by omega)]

/-- The ends, whatever the width. -/
theorem ends_any {bs : List (BitVec 8)} {w n : Nat} : (if n = 0 ∨ w = 0 then 0 else minB bs w n) = (if n = 0 then 0 else minB bs w n) ∧ (if n = 0 ∨ w = 0 then 0 else maxB bs w n) = (if n = 0 then 0 else maxB bs w n) := by
  by_cases hn : n = 0
  · simp [hn]
  · by_cases hw : w = 0
    · subst hw
      obtain ⟨m, rfl⟩ : ∃ m, n = m + 1 := ⟨n - 1, by omega⟩
      obtain ⟨h1, h2⟩ := ends_zero (bs := bs) m
      simp [h1, h2]
    · simp [hn, hw]

theorem wvkv (cs : List (BitVec 64)) : cs.map wv = cs.map (kv .u64) := rfl

end Go.Ax
