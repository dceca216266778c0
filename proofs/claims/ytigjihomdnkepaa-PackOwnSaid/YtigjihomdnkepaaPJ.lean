/- Seat pack: numbers brought to a width; what is packed is opened again; awake. -/
import Derived.Test.YtigjihomdnkepaaPI
namespace Go.Ax
open Go.Proofs
set_option linter.unusedVariables false
set_option linter.unusedSimpArgs false
set_option maxRecDepth 1000000

theorem awake_run (L : Nat → Nat → Option Value) : (acallN P T 60 (.fn F_colonnadelaw02_awake) [] (heap0 (roBlk noG L))).map (fun r => (r.1, r.2.ro)) = some (.bool true, roBlk noG L) := by kernel_rfl

theorem awake_spec (L : Nat → Nat → Option Value) : Gives P T (.fn F_colonnadelaw02_awake) [] (heap0 (roBlk noG L)) fun v h' => v = .bool true ∧ h'.ro = roBlk noG L := by
  have h := awake_run L
  rw [Option.map_eq_some_iff] at h
  obtain ⟨r, h1, h2⟩ := h
  simp only [Prod.mk.injEq] at h2
  exact gives_closed h1 h2

theorem packs_fine {cs : List (BitVec 64)} {w : Nat} {bs : List (BitVec 8)} (p : Packs cs w bs) (hn : cs.length ≤ 16777216) (hw : w ≤ 64) : Fine bs w cs.length :=
  ⟨hw, hn, p.len, fun i hi => by rw [p.bits]; simp; omega⟩

theorem packs_lane {cs : List (BitVec 64)} {w : Nat} {bs : List (BitVec 8)} (p : Packs cs w bs) (hw : w ≤ 64) (hf : allFit cs w) {i : Nat} (hi : i < cs.length) : laneB bs w i = numA cs i := by
  symm
  apply eq_bvOf hw
  intro j hj
  by_cases hjw : j < w
  · have h1 : i * w + j < cs.length * w := by
      have := Nat.mul_le_mul_right w (show i + 1 ≤ cs.length by omega)
      rw [Nat.add_mul] at this; omega
    rw [p.bits, Nat.mul_comm i w, strm_at hjw]
    rw [Nat.mul_comm i w] at h1
    simp [hjw, h1]
  · have hlt := hf i hi
    have : (numA cs i).getLsbD j = false := by
      show (numA cs i).toNat.testBit j = false
      exact Nat.testBit_lt_two_pow (Nat.lt_of_lt_of_le hlt (Nat.pow_le_pow_right (by omega) (by omega)))
    rw [this]; simp [hjw]

theorem packs_lanes {cs : List (BitVec 64)} {w : Nat} {bs : List (BitVec 8)} (p : Packs cs w bs) (hw : w ≤ 64) (hf : allFit cs w) : lanesL bs w cs.length = cs := by
  apply List.ext_getElem?
  intro i
  by_cases hi : i < cs.length
  · unfold lanesL
    rw [List.getElem?_map, List.getElem?_range hi, Option.map_some, packs_lane p hw hf hi]
    unfold numA
    rw [List.getD_eq_getElem?_getD, List.getElem?_eq_getElem hi]; rfl
  · rw [List.getElem?_eq_none (by rw [lanesL_len]; omega), List.getElem?_eq_none (by omega)]

/-- A number brought below 2^w. -/
def maskB (w : Nat) (x : BitVec 64) : BitVec 64 := if w < 64 then x &&& (1#64 <<< w - 1#64) else x

theorem mask_toNat {w : Nat} (h : w < 64) (x : BitVec 64) : (x &&& (1#64 <<< w - 1#64)).toNat < 2 ^ w := by
  apply Nat.lt_pow_two_of_testBit
  intro j hj
  rw [BitVec.toNat_and, Nat.testBit_and]
  show (x.toNat.testBit j && (1#64 <<< w - 1#64).getLsbD j) = false
  by_cases h64 : j < 64
  · rw [mask_bit w j h h64]; simp; intro _; omega
  · have : (1#64 <<< w - 1#64).getLsbD j = false := BitVec.getLsbD_of_ge _ _ (by omega)
    rw [this]; simp

theorem fit_all {cs : List (BitVec 64)} {w : Nat} (hw : w ≤ 64) : allFit (cs.map (maskB w)) w := by
  intro i hi
  unfold numA
  rw [List.getD_eq_getElem?_getD, List.getElem?_map, List.getElem?_eq_getElem (by simpa using hi)]
  show (maskB w _).toNat < _
  unfold maskB
  split
  · rename_i h; exact mask_toNat h _
  · have : w = 64 := by omega
    subst this; exact BitVec.isLt _

/-- The numbers brought to a width: at most 2^20 of them. -/
def fitL (cs : List (BitVec 64)) (w : Nat) : List (BitVec 64) := (cs.take 1048576).map (maskB w)

theorem fitL_len (cs : List (BitVec 64)) (w : Nat) : (fitL cs w).length ≤ 1048576 := by simp [fitL]; omega

theorem fit_spec {h : Heap} {v : Value} {cs : List (BitVec 64)} (r : Reads h v (cs.map (kv .u64))) (hcs : cs.length * 8 ≤ 140737488351232) (width : Int) {w : Nat} (hw : width % 65 = w) :
    Gives P T (.fn F_colonnadelaw02_fit) [v, .int .i64 width] h fun r h' => ∃ u q, r = .tuple #[u, .int .i64 w] ∧ Own h' u q ((fitL cs w).map (kv .u64)) ∧ Grow h h' ∧ h.dyn.length ≤ q := by
  obtain ⟨b, cc, ev, hr⟩ := r.shape
  simp only [List.length_map] at hr ev
  obtain ⟨N, hN⟩ : ∃ N, cs.length = N := ⟨_, rfl⟩
  rw [hN] at hr hcs ev
  refine gives_by t_colonnadelaw02_fit (by simp [c_colonnadelaw02_fit]) fun Q hQ => ?_
  obtain ⟨t1, t2, t3⟩ := tmod_range width (n := 65) (by omega)
  have hw65 : w < 65 := by omega
  simp only [Int.cast_ofNat_Int] at t1 t2 t3
  subst ev
  simp [c_colonnadelaw02_fit]
  obtain ⟨tm, htm⟩ : ∃ z, width.tmod 65 = z := ⟨_, rfl⟩
  rw [htm] at t1 t2 t3
  have hwv : (if tm < 0 then tm + 65 else tm) = (w : Nat) := by rw [t3, hw]
  simp [htm]
  have fin : tm < 0 ∧ IntKind.i64.wrap (tm + 65) = (w : Nat) ∨ ¬ tm < 0 ∧ tm = (w : Nat) := by
    by_cases h0 : tm < 0
    · left; rw [if_pos h0] at hwv; exact ⟨h0, by rw [wrap_i64 (by omega) (by omega)]; exact hwv⟩
    · right; rw [if_neg h0] at hwv; exact ⟨h0, hwv⟩
  have wneg : ¬ (w : Int) < 0 := by omega
  rcases fin with ⟨h0, h1⟩ | ⟨h0, h1⟩
  all_goals
    simp [h0, h1, wneg]
    refine go_loopK (fun k ks h2 => ∃ (i : Nat) (u : Value) (q : Nat), k = N - i ∧ i ≤ N ∧ i ≤ 1048576 ∧ ks = [(0, .slice b N cc), (6, .int .i64 w), (7, u), (8, .int .i64 i)] ∧ Own h2 u q (((cs.take i).map (maskB w)).map (kv .u64)) ∧ Grow h h2 ∧ h.dyn.length ≤ q) (n := N)
      ⟨0, .slice none 0 0, h.dyn.length, rfl, by omega, by omega, rfl, by simpa using Own.nil _ _, Chg.refl _, Nat.le_refl _⟩ (by simp) ?_
    rintro I hI k ks e h3 ⟨i, u, q, rfl, hiN, hiM, rfl, ow, gg, hq⟩
    by_cases hlt : i < N
    · have hlt' : (i : Int) < N := by omega
      by_cases hlm : i < 1048576
      · have hlm' : (i : Int) < 1048576 := by omega
        obtain ⟨a, rfl, hla⟩ := hr i hlt
        have hld := hload_grow gg (hla i _ (kv_get (by omega)))
        have e4 : IntKind.i64.wrap ((i : Int) + 1) = ((i + 1 : Nat) : Int) := by rw [wrap_i64 (by omega) (by omega)]; omega
        have e3 : IntKind.u64.wrap (w : Int) = w := wrap_u64 (by omega) (by omega)
        have htake : ((cs.take (i + 1)).map (maskB w)).map (kv .u64) = ((cs.take i).map (maskB w)).map (kv .u64) ++ [.int .u64 (wi (maskB w (numA cs i)))] := by
          rw [List.take_add_one, List.getElem?_eq_getElem (by omega)]
          simp only [List.map_append, Option.toList_some, List.map_cons, List.map_nil]
          congr 2
          unfold numA kv
          rw [List.getD_eq_getElem?_getD, List.getElem?_eq_getElem (by omega)]; rfl
        obtain ⟨v', h', q', e8, o', c', l', d'⟩ := ow.push (bytes := 8) (z := .int .u64 0) (x := .int .u64 (wi (maskB w (numA cs i)))) (by simp) (by simp; omega) (by simp; omega)
        rw [← htake] at o'
        have gg' : Grow h h' := gg.after c' fun n hn hb => by have := hb.1; omega
        have hq' : h.dyn.length ≤ q' := own_q gg.len hq d'
        by_cases h64 : w < 64
        · have h64' : (w : Int) < 64 := by omega
          rw [show maskB w (numA cs i) = numA cs i &&& (1#64 <<< w - 1#64) from if_pos h64] at e8
          simp [hlt, hlt', hlm', hld, h64', e3, e8, e4]
          exact ⟨N - (i + 1), by omega, hI _ _ _ _ ⟨i + 1, v', q', rfl, by omega, by omega, rfl, o', gg', hq'⟩ (by simp)⟩
        · have h64' : ¬ (w : Int) < 64 := by omega
          rw [show maskB w (numA cs i) = numA cs i from if_neg h64] at e8
          simp [hlt, hlt', hlm', hld, h64', e8, e4]
          exact ⟨N - (i + 1), by omega, hI _ _ _ _ ⟨i + 1, v', q', rfl, by omega, by omega, rfl, o', gg', hq'⟩ (by simp)⟩
      · have hlm' : ¬ (i : Int) < 1048576 := by omega
        have him : i = 1048576 := by omega
        subst him
        have h7 : (1048576 : Int) < N := by omega
        simp [h7]
        exact hQ _ _ ⟨u, q, rfl, ow, gg, hq⟩
    · have hlt' : ¬ (i : Int) < N := by omega
      have hil : i = N := by omega
      subst hil
      have e9 : cs.take 1048576 = cs.take i := by rw [List.take_of_length_le (by omega), List.take_of_length_le (by omega)]
      simp
      exact hQ _ _ ⟨u, q, rfl, by unfold fitL; rw [e9]; exact ow, gg, hq⟩

end Go.Ax
