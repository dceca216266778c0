/- Seat lanes: lists; what every right program says first. -/
import Derived.Test.YtffakcgcemaokaaZH
namespace Go.Ax
open Go.Proofs
set_option linter.unusedVariables false
set_option linter.unusedSimpArgs false

/-- Is a number one of these (the first j)? -/
def anyB (cs : List (BitVec 64)) (x : BitVec 64) : Nat → Bool
  | 0 => false
  | j + 1 => anyB cs x j || decide (x = cs.getD j 0)

theorem anyB_congr {cs cs' : List (BitVec 64)} {x : BitVec 64} : ∀ {j : Nat}, (∀ i, i < j → cs.getD i 0 = cs'.getD i 0) → anyB cs x j = anyB cs' x j
  | 0, _ => rfl
  | j + 1, h => by rw [anyB, anyB, anyB_congr fun i hi => h i (by omega), h j (by omega)]

def wordL (cs : List (BitVec 64)) (i : Nat) : BitVec 64 := cs.getD i 0
theorem wordL_get {cs : List (BitVec 64)} {i : Nat} (hi : i < cs.length) : (cs.map wv)[i]? = some (.int .u64 (wi (wordL cs i))) := by
  unfold wordL
  rw [List.getElem?_map, List.getElem?_eq_getElem hi, List.getD_eq_getElem?_getD, List.getElem?_eq_getElem hi]; rfl

theorem In_spec {h : Heap} {v v' : Value} {bs : List (BitVec 8)} {cs : List (BitVec 64)} (r : Bytes h v bs) (r' : Reads h v' (cs.map wv)) {w n : Nat} (g : Fine bs w n) (hcs : cs.length ≤ 100000000000000) :
    Gives P T (.fn F_lanes_In) [v, .int .i64 w, .int .i64 n, v'] h fun r h' => ∃ p, r = .tuple #[ptr p, .int .i64 0] ∧ SaysAt h h' p n (fun i => anyB cs (laneB bs w i) cs.length) ∧ Grow h h' := by
  obtain ⟨b, cc, rfl, hr⟩ := r'.shape
  simp only [List.length_map] at hr ⊢
  obtain ⟨m, hm⟩ : ∃ m, cs.length = m := ⟨_, rfl⟩
  rw [hm] at hr hcs ⊢
  refine gives_by t_lanes_In (by simp [c_lanes_In]) fun Q hQ => ?_
  obtain ⟨gb1, gb2⟩ := g.le
  have gn := g.nle
  simp [c_lanes_In]
  refine got_call (fault_spec r.reads w n (by omega)) ?_
  rintro _ _ ⟨rfl, rfl⟩
  rename_i h
  rw [fine_faultE g]
  simp
  refine got_call (new_spec gn) ?_
  rintro _ h1 ⟨p1, q1, rfl, s1, g1, f1, f2⟩
  obtain ⟨zc, zb⟩ := zero_bits gn
  have sa1 : SaysAt h h1 p1 n (fun i => anyB cs (laneB bs w i) 0) := ⟨q1, _, s1, zc, fun i => by rw [zb]; simp [anyB], f1, f2⟩
  simp
  refine go_loopK (fun k ks h2 => ∃ (j p : Nat), k = m - j ∧ j ≤ m ∧ ks = [(0, v), (1, .int .i64 w), (2, .int .i64 n), (11, ptr p), (25, .slice b m cc), (26, .int .i64 m), (27, .int .i64 j)] ∧ SaysAt h h2 p n (fun i => anyB cs (laneB bs w i) j) ∧ Grow h h2) (n := m)
    ⟨0, p1, rfl, by omega, rfl, sa1, g1⟩ (by simp [ptr]) ?_
  rintro I hI k ks e h3 ⟨j, p, rfl, hj, rfl, sa, gg⟩
  simp
  refine branch_dec (fun hlt => ?_) (fun hge => ?_)
  · have hjm : j < m := by omega
    obtain ⟨a, rfl, hla⟩ := hr j hjm
    have hld := hload_grow gg (hla j _ (wordL_get (by omega)))
    have e4 : IntKind.i64.wrap ((j : Int) + 1) = ((j + 1 : Nat) : Int) := by rw [wrap_i64 (by omega) (by omega)]; omega
    simp [hjm, hld]
    refine got_call (Test_spec (c := wordL cs j) (r.grow gg) g (by omega) (by omega)) ?_
    rintro _ h4 ⟨p4, rfl, s4, g4⟩
    simp
    refine got_call (Or_says (sa.grow g4) (s4.base gg.len)) ?_
    rintro _ h5 ⟨p5, rfl, s5, g5⟩
    have l1 := gg.len
    have l2 := g4.len
    simp [e4]
    refine ⟨m - (j + 1), by omega, hI _ _ _ _ ⟨j + 1, p5, rfl, by omega, rfl, ?_, (gg.trans g4).trans g5⟩ (by simp [ptr])⟩
    have := s5.base (h1 := h) (by omega)
    simpa [anyB, stB, wordL] using this
  · have hjm : j = m := by omega
    subst hjm
    simp
    exact hQ _ _ ⟨p, rfl, sa, gg⟩

theorem In_bad {h : Heap} {v v' : Value} {bs : List (BitVec 8)} (r : Bytes h v bs) (hl : bs.length ≤ 1000000000000000) {w n : Int} (hf : ¬ faultE bs w n = 0) :
    Gives P T (.fn F_lanes_In) [v, .int .i64 w, .int .i64 n, v'] h fun r h' => r = .tuple #[.pointer none, .int .i64 (faultE bs w n)] ∧ h' = h := by
  refine gives_by t_lanes_In (by simp [c_lanes_In]) fun Q hQ => ?_
  simp [c_lanes_In]
  refine got_call (fault_spec r.reads w n hl) ?_
  rintro _ _ ⟨rfl, rfl⟩
  simp [hf]
  exact hQ _ _ ⟨rfl, rfl⟩

theorem refIn_bad {h : Heap} {v v' : Value} {bs : List (BitVec 8)} (r : Reads h v (bs.map bv)) (hl : bs.length ≤ 1000000000000000) {w n : Int} (hf : ¬ faultE bs w n = 0) :
    Gives P T (.fn F_colonnaderef03_In) [v, .int .i64 w, .int .i64 n, v'] h fun r h' => r = .tuple #[.slice none 0 0, .int .i64 (faultE bs w n)] ∧ h' = h := by
  refine gives_by t_colonnaderef03_In (by simp [c_colonnaderef03_In]) fun Q hQ => ?_
  simp [c_colonnaderef03_In]
  refine got_call (refFault_spec r w n hl) ?_
  rintro _ _ ⟨rfl, rfl⟩
  simp [hf]
  exact hQ _ _ ⟨rfl, rfl⟩

theorem refIn_spec {h : Heap} {v v' : Value} {bs : List (BitVec 8)} {cs : List (BitVec 64)} (r : Reads h v (bs.map bv)) (r' : Reads h v' (cs.map wv)) {w n : Nat} (g : Fine bs w n) (hcs : cs.length ≤ 100000000000000) :
    Gives P T (.fn F_colonnaderef03_In) [v, .int .i64 w, .int .i64 n, v'] h fun r h' => ∃ u, r = .tuple #[u, .int .i64 0] ∧ Reads h' u (tL (fun i => anyB cs (laneB bs w i) cs.length) n) ∧ Grow h h' := by
  obtain ⟨b', cc', rfl, hr'⟩ := r'.shape
  simp only [List.length_map] at hr' ⊢
  obtain ⟨m, hm⟩ : ∃ m, cs.length = m := ⟨_, rfl⟩
  rw [hm] at hr' hcs ⊢
  refine gives_by t_colonnaderef03_In (by simp [c_colonnaderef03_In]) fun Q hQ => ?_
  obtain ⟨gb1, gb2⟩ := g.le
  have gn := g.nle
  simp [c_colonnaderef03_In]
  refine got_call (refFault_spec r w n (by omega)) ?_
  rintro _ _ ⟨rfl, rfl⟩
  rename_i h
  rw [fine_faultE g]
  simp
  refine got_call (Numbers_spec r g) ?_
  rintro u1 h1 ⟨r1, g1⟩
  obtain ⟨b, cc, rfl, hr⟩ := r1.shape
  have hnl : (numsV bs w n).length = n := by simp [numsV]
  rw [hnl] at hr ⊢
  simp
  refine go_loopK (fun k ks h2 => ∃ (i : Nat) (u : Value) (q : Nat), k = n - i ∧ i ≤ n ∧ ks = [(3, .slice b' m cc'), (11, u), (12, .slice b n cc), (13, .int .i64 i)] ∧ Own h2 u q (tL (fun i => anyB cs (laneB bs w i) m) i) ∧ Grow h1 h2 ∧ h1.dyn.length ≤ q) (n := n)
    ⟨0, .slice none 0 0, h1.dyn.length, rfl, by omega, rfl, Own.nil _ _, Chg.refl _, Nat.le_refl _⟩ (by simp) ?_
  rintro I hI k ks e h3 ⟨i, u, q, rfl, hi, rfl, ow, gg, hq⟩
  simp
  refine branch_dec (fun hlt => ?_) (fun hge => ?_)
  · have hil : i < n := by omega
    obtain ⟨a, rfl, hla⟩ := hr i hil
    have hld := hload_grow gg (hla i _ (range_get (fun i => wv (laneB bs w i)) hil))
    have e4 : IntKind.i64.wrap ((i : Int) + 1) = ((i + 1 : Nat) : Int) := by rw [wrap_i64 (by omega) (by omega)]; omega
    simp only [wv] at hld
    simp
    refine go_loopK (fun k ks h2 => ∃ (j : Nat), k = m - j ∧ j ≤ m ∧ ks = [(3, .slice b' m cc'), (11, u), (12, .slice (some a) n cc), (13, .int .i64 i), (14, .bool (anyB cs (laneB bs w i) j)), (15, .int .i64 j)] ∧ h2 = h3) (n := m)
      ⟨0, rfl, by omega, rfl, rfl⟩ (by simp [anyB]) ?_
    rintro I2 hI2 k2 ks2 e2 h4 ⟨j, rfl, hj, rfl, rfl⟩
    simp
    refine branch_dec (fun hlt2 => ?_) (fun hge2 => ?_)
    · have hjm : j < m := by omega
      obtain ⟨a2, rfl, hla2⟩ := hr' j hjm
      have hld2 := hload_grow (g1.trans gg) (hla2 j _ (wordL_get (by omega)))
      have e5 : IntKind.i64.wrap ((j : Int) + 1) = ((j + 1 : Nat) : Int) := by rw [wrap_i64 (by omega) (by omega)]; omega
      cases hb : anyB cs (laneB bs w i) j with
      | true =>
        simp [skipV, e5]
        exact ⟨m - (j + 1), by omega, hI2 _ _ _ _ ⟨j + 1, rfl, by omega, rfl, rfl⟩ (by simp [anyB, hb])⟩
      | false =>
        simp [hjm, hil, hld, hld2, e5]
        refine ⟨m - (j + 1), by omega, hI2 _ _ _ _ ⟨j + 1, rfl, by omega, rfl, rfl⟩ ?_⟩
        have : decide (wordL cs j = laneB bs w i) = decide (laneB bs w i = cs.getD j 0) := decide_eq_decide.2 ⟨fun h => h.symm, fun h => h.symm⟩
        simp [anyB, hb, this]
    · have hjm : j = m := by omega
      subst hjm
      obtain ⟨v', h', q', e8, o', c', l', d'⟩ := ow.push (bytes := 1) (z := .bool false) (x := .bool (anyB cs (laneB bs w i) j)) (by simp) (by rw [tL_len]; omega) (by rw [tL_len]; omega)
      simp [e8, e4]
      refine ⟨n - (i + 1), by omega, hI _ _ _ _ ⟨i + 1, v', q', rfl, by omega, rfl, by rw [tL_succ]; exact o', gg.after c' fun n hn hb => by have := hb.1; omega, ?_⟩ (by simp)⟩
      have := gg.len
      rcases d' with ⟨h1, _⟩ | h1 <;> omega
  · have hil : i = n := by omega
    subst hil
    simp
    exact hQ _ _ ⟨u, rfl, ow.reads, g1.trans gg⟩

theorem lit_reads {h : Heap} (l : List Value) : Reads (hnew h l 1) (.slice (some ⟨h.dyn.length, 0, some 0⟩) l.length l.length) l :=
  .inr ⟨_, _, rfl, fun i x hx => by simpa using (RowAt.new h l 1).get hx⟩
theorem lit_bytes {h : Heap} (bs : List (BitVec 8)) (hl : bs.length < gcap) : Bytes (hnew h (bs.map bv) 1) (.slice (some ⟨h.dyn.length, 0, some 0⟩) bs.length bs.length) bs := by
  refine ⟨by simpa using lit_reads (h := h) (bs.map bv), fun a n c e => ?_⟩
  simp only [Value.slice.injEq, Option.some.injEq] at e
  obtain ⟨rfl, rfl, rfl⟩ := e
  exact ⟨by simp [esOk, hnew], fun _ => Nat.le_refl _, by omega⟩

set_option maxRecDepth 100000

def knB : List (BitVec 8) := [0xD5#8, 0x01#8]
theorem kn_fine : Fine knB 3 4 := by
  refine ⟨by omega, by omega, by decide, ?_⟩
  rw [← anyFrom_false]
  decide
theorem kn_test : ∀ i, i < 4 → stB 3 (laneB knB 3 i) 5#64 = [false, true, false, true].getD i false := by decide
theorem kn_in : ∀ i, i < 4 → anyB [7#64, 9#64, 0#64] (laneB knB 3 i) 3 = [false, false, true, true].getD i false := by decide
theorem kn_sum : sumB knB 3 4 = 14 := by decide
theorem kn_equal : equalB (usedB 8) (topsB 8) 72623859790382856#64 72623842610513664#64 = 9259541573518000128#64 := by decide +kernel
theorem kn_spread : spreadB 5#64 16 = 1407396358717445#64 := by decide +kernel
theorem kn_marks : marksB 9259541573518000128#64 8 = 238#64 := by decide +kernel

end Go.Ax
