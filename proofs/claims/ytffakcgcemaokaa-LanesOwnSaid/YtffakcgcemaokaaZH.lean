/- Seat lanes: sums, ends, lists. -/
import Derived.Test.YtffakcgcemaokaaZG
namespace Go.Ax
open Go.Proofs
set_option linter.unusedVariables false
set_option linter.unusedSimpArgs false

theorem add64_find : Extern.find Try.f68 = some ((Go.Extern.MathBitsCarry.rows.headD ("", fun _ => .pure undef)).2) := by kernel_rfl
theorem add64_run (a b : Int) : (Go.Extern.MathBitsCarry.rows.headD ("", fun _ => .pure undef)).2 #[.int .u64 a, .int .u64 b, .int .u64 0] = .pure (Go.Extern.MathBitsCarry.pair ((a.toNat + b.toNat + 0) % 2 ^ 64) ((a.toNat + b.toNat + 0) / 2 ^ 64)) := rfl

theorem add64_spec {h : Heap} {x y : BitVec 64} : Gives P T (.fn 68) [.int .u64 (wi x), .int .u64 (wi y), .int .u64 0] h fun r h' => r = .tuple #[.int .u64 (wi (x + y)), .int .u64 (wi (BitVec.ofNat 64 ((x.toNat + y.toNat) / 2 ^ 64)))] ∧ h' = h := by
  have hx := x.isLt
  have hy := y.isLt
  refine gives_ext (f := 68) rfl (v := .tuple #[.int .u64 (wi (x + y)), .int .u64 (wi (BitVec.ofNat 64 ((x.toNat + y.toNat) / 2 ^ 64)))]) ?_ ⟨rfl, rfl⟩
  have e1 : runExt P 68 [.int .u64 (wi x), .int .u64 (wi y), .int .u64 0] h = (pures P (.pure (Go.Extern.MathBitsCarry.pair (((wi x).toNat + (wi y).toNat + 0) % 2 ^ 64) (((wi x).toNat + (wi y).toNat + 0) / 2 ^ 64)))).map fun v => (v, h) := by
    unfold runExt
    rw [show P.funcs[68]? = some Try.f68 from Try.func68]
    simp only
    rw [if_pos (by
      have h1 : Try.f68.body.isNone = true := by kernel_rfl
      have h2 : (Try.f68.name == numG) = false := by kernel_rfl
      have h3 : (Extern.findNext Try.f68).isNone = true := by kernel_rfl
      rw [h1, h2, h3]; rfl), add64_find]
    simp only [add64_run, List.toArray]
  rw [e1]
  have t1 : (wi x).toNat = x.toNat := by unfold wi; simp
  have t2 : (wi y).toNat = y.toNat := by unfold wi; simp
  rw [t1, t2, Nat.add_zero]
  have t3 : wi (x + y) = (((x.toNat + y.toNat) % 2 ^ 64 : Nat) : Int) := by unfold wi; rw [BitVec.toNat_add]
  have t4 : wi (BitVec.ofNat 64 ((x.toNat + y.toNat) / 2 ^ 64)) = (((x.toNat + y.toNat) / 2 ^ 64 : Nat) : Int) := by
    unfold wi; rw [BitVec.toNat_ofNat, Nat.mod_eq_of_lt]; omega
  rw [t3, t4]
  rfl

theorem at_spec {h : Heap} {v : Value} {bs : List (BitVec 8)} (r : Bytes h v bs) {w n i : Nat} (g : Fine bs w n) (hi : i < n) :
    Gives P T (.fn F_lanes_at) [v, .int .i64 w, .int .i64 i] h fun r h' => r = .int .u64 (wi (laneB bs w i)) ∧ h' = h := by
  refine gives_by t_lanes_at (by simp [c_lanes_at]) fun Q hQ => ?_
  obtain ⟨gb1, gb2⟩ := g.le
  have gw := g.wle
  have gn := g.nle
  by_cases hw0 : w = 0
  · subst hw0
    simp [c_lanes_at]
    exact hQ _ _ ⟨rfl, rfl⟩
  · have hs := Nat.mul_le_mul (show i ≤ 16777216 by omega) gw
    obtain ⟨s, hs'⟩ : ∃ s, i * w = s := ⟨_, rfl⟩
    rw [hs'] at hs
    have f0 : (i : Int) * w = (s : Int) := by rw [← hs', Int.natCast_mul]
    have f1 : IntKind.i64.wrap (s : Int) = s := wrap_i64 (by omega) (by omega)
    have f2 : IntKind.i64.wrap (64 - (w : Int)) = ((64 - w : Nat) : Int) := by rw [wrap_i64 (by omega) (by omega)]; omega
    obtain ⟨w1, hw1⟩ : ∃ x, 64 - w = x := ⟨_, rfl⟩
    rw [hw1] at f2
    have f3 : abin .shr .u64 18446744073709551615 (w1 : Int) = some (.int .u64 (wi (BitVec.allOnes 64 >>> w1))) := by
      have := @ab64_shr (BitVec.allOnes 64) (w1 : Int) (by omega)
      rw [Int.toNat_natCast] at this
      exact this
    simp [c_lanes_at, hw0, f0, f1]
    refine got_call (Word_spec r (by omega) (by omega)) ?_
    rintro _ _ ⟨rfl, rfl⟩
    simp [f2, f3]
    refine hQ _ _ ⟨?_, rfl⟩
    have : wordB bs s &&& 18446744073709551615#64 >>> w1 = laneB bs w i := by
      apply eq_bvOf gw
      intro j hj
      rw [BitVec.getLsbD_and, wordB, bvOf_bit _ _ _ (by omega), show (18446744073709551615#64 : BitVec 64) = BitVec.allOnes 64 from rfl, BitVec.getLsbD_ushiftRight, BitVec.getLsbD_allOnes, hs']
      by_cases hjw : j < w
      · have : w1 + j < 64 := by omega
        simp [hj, hjw, this]
      · have : ¬ w1 + j < 64 := by omega
        simp [hjw, this]
    rw [this]

/-- The sum of the first i numbers. -/
def sumB (bs : List (BitVec 8)) (w : Nat) : Nat → Nat
  | 0 => 0
  | i + 1 => sumB bs w i + (laneB bs w i).toNat

def hiB (S : Nat) : BitVec 64 := BitVec.ofNat 64 (S / 2 ^ 64)
def loB (S : Nat) : BitVec 64 := BitVec.ofNat 64 S

theorem lo_step (S : Nat) (x : BitVec 64) : loB S + x = loB (S + x.toNat) := by
  unfold loB
  apply BitVec.eq_of_toNat_eq
  simp [BitVec.toNat_add]

theorem hi_step (S : Nat) (x : BitVec 64) : hiB S + BitVec.ofNat 64 (((loB S).toNat + x.toNat) / 2 ^ 64) = hiB (S + x.toNat) := by
  unfold hiB loB
  apply BitVec.eq_of_toNat_eq
  simp only [BitVec.toNat_add, BitVec.toNat_ofNat]
  have : (S + x.toNat) / 2 ^ 64 = S / 2 ^ 64 + (S % 2 ^ 64 + x.toNat) / 2 ^ 64 := by omega
  rw [this]
  omega

theorem hi_carry (S : Nat) (x : BitVec 64) : (if wi (loB S + x) < wi (loB S) then hiB S + 1#64 else hiB S) = hiB (S + x.toNat) := by
  rw [← hi_step]
  have h1 := (loB S).isLt
  have h2 := x.isLt
  have h3 : wi (loB S + x) < wi (loB S) ↔ ((loB S).toNat + x.toNat) % 2 ^ 64 < (loB S).toNat := by rw [wi_lt_iff, BitVec.toNat_add]
  by_cases h : ((loB S).toNat + x.toNat) % 2 ^ 64 < (loB S).toNat
  · rw [if_pos (h3.2 h)]
    have : ((loB S).toNat + x.toNat) / 2 ^ 64 = 1 := by omega
    rw [this]
  · rw [if_neg (fun h' => h (h3.1 h'))]
    have : ((loB S).toNat + x.toNat) / 2 ^ 64 = 0 := by omega
    rw [this]; simp

theorem sum_zero {bs : List (BitVec 8)} : ∀ i, sumB bs 0 i = 0
  | 0 => rfl
  | i + 1 => by rw [sumB, sum_zero i]; rfl

theorem Sum_spec {h : Heap} {v : Value} {bs : List (BitVec 8)} (r : Bytes h v bs) {w n : Nat} (g : Fine bs w n) :
    Gives P T (.fn F_lanes_Sum) [v, .int .i64 w, .int .i64 n] h fun r h' => r = .tuple #[.int .u64 (wi (hiB (sumB bs w n))), .int .u64 (wi (loB (sumB bs w n))), .int .i64 0] ∧ h' = h := by
  refine gives_by t_lanes_Sum (by simp [c_lanes_Sum]) fun Q hQ => ?_
  obtain ⟨gb1, gb2⟩ := g.le
  have gw := g.wle
  have gn := g.nle
  simp [c_lanes_Sum]
  refine got_call (fault_spec r.reads w n (by omega)) ?_
  rintro _ _ ⟨rfl, rfl⟩
  rename_i h
  rw [fine_faultE g]
  by_cases hw0 : w = 0
  · subst hw0
    rw [sum_zero] at hQ
    simp
    exact hQ _ _ ⟨by simp [hiB, loB], rfl⟩
  simp [hw0]
  refine go_loopK (fun k ks h2 => ∃ (i : Nat), k = n - i ∧ i ≤ n ∧ ks = [(0, v), (1, .int .i64 w), (6, .int .u64 (wi (hiB (sumB bs w i)))), (7, .int .u64 (wi (loB (sumB bs w i)))), (21, .int .i64 n), (22, .int .i64 i)] ∧ h2 = h) (n := n)
    ⟨0, rfl, by omega, rfl, rfl⟩ (by simp [sumB, hiB, loB]) ?_
  rintro I hI k ks e h3 ⟨i, rfl, hi, rfl, rfl⟩
  simp
  refine branch_dec (fun hlt => ?_) (fun hge => ?_)
  · have hil : i < n := by omega
    have e4 : IntKind.i64.wrap ((i : Int) + 1) = ((i + 1 : Nat) : Int) := by rw [wrap_i64 (by omega) (by omega)]; omega
    simp
    refine got_call (at_spec r g hil) ?_
    rintro _ _ ⟨rfl, rfl⟩
    rename_i h3
    simp
    refine got_call add64_spec ?_
    rintro _ _ ⟨rfl, rfl⟩
    rename_i h3
    have e5 := hi_step (sumB bs w i) (laneB bs w i)
    rw [lo_step]
    simp only [Nat.reducePow] at e5
    simp [e4, e5]
    exact ⟨n - (i + 1), by omega, hI _ _ _ _ ⟨i + 1, rfl, by omega, rfl, rfl⟩ (by simp [sumB])⟩
  · have hil : i = n := by omega
    subst hil
    simp
    exact hQ _ _ ⟨rfl, rfl⟩

theorem Sum_bad {h : Heap} {v : Value} {bs : List (BitVec 8)} (r : Bytes h v bs) (hl : bs.length ≤ 1000000000000000) {w n : Int} (hf : ¬ faultE bs w n = 0) :
    Gives P T (.fn F_lanes_Sum) [v, .int .i64 w, .int .i64 n] h fun r h' => r = .tuple #[.int .u64 0, .int .u64 0, .int .i64 (faultE bs w n)] ∧ h' = h := by
  refine gives_by t_lanes_Sum (by simp [c_lanes_Sum]) fun Q hQ => ?_
  simp [c_lanes_Sum]
  refine got_call (fault_spec r.reads w n hl) ?_
  rintro _ _ ⟨rfl, rfl⟩
  simp [hf]
  exact hQ _ _ ⟨rfl, rfl⟩

theorem refSum_spec {h : Heap} {v : Value} {bs : List (BitVec 8)} (r : Reads h v (bs.map bv)) {w n : Nat} (g : Fine bs w n) :
    Gives P T (.fn F_colonnaderef03_Sum) [v, .int .i64 w, .int .i64 n] h fun r h' => r = .tuple #[.int .u64 (wi (hiB (sumB bs w n))), .int .u64 (wi (loB (sumB bs w n))), .int .i64 0] ∧ Grow h h' := by
  refine gives_by t_colonnaderef03_Sum (by simp [c_colonnaderef03_Sum]) fun Q hQ => ?_
  obtain ⟨gb1, gb2⟩ := g.le
  have gn := g.nle
  simp [c_colonnaderef03_Sum]
  refine got_call (refFault_spec r w n (by omega)) ?_
  rintro _ _ ⟨rfl, rfl⟩
  rename_i h
  rw [fine_faultE g]
  simp
  refine got_call (Numbers_spec r g) ?_
  rintro u1 h1 ⟨r1, g1⟩
  obtain ⟨b, cc, rfl, hr⟩ := r1.shape
  have hnl : (numsV bs w n).length = n := by simp [numsV]
  rw [hnl] at hr ⊢
  simp
  refine go_loopK (fun k ks h2 => ∃ (i : Nat), k = n - i ∧ i ≤ n ∧ ks = [(10, .int .u64 (wi (hiB (sumB bs w i)))), (11, .int .u64 (wi (loB (sumB bs w i)))), (12, .slice b n cc), (13, .int .i64 i)] ∧ h2 = h1) (n := n)
    ⟨0, rfl, by omega, rfl, rfl⟩ (by simp [sumB, hiB, loB]) ?_
  rintro I hI k ks e h3 ⟨i, rfl, hi, rfl, rfl⟩
  simp
  refine branch_dec (fun hlt => ?_) (fun hge => ?_)
  · have hil : i < n := by omega
    obtain ⟨a, rfl, hla⟩ := hr i hil
    have hld := hla i _ (range_get (fun i => wv (laneB bs w i)) hil)
    have e4 : IntKind.i64.wrap ((i : Int) + 1) = ((i + 1 : Nat) : Int) := by rw [wrap_i64 (by omega) (by omega)]; omega
    simp only [wv] at hld
    have e5 := hi_carry (sumB bs w i) (laneB bs w i)
    by_cases hc : wi (loB (sumB bs w i) + laneB bs w i) < wi (loB (sumB bs w i))
    · rw [if_pos hc] at e5
      simp [hil, hld, hc, e4, e5]
      exact ⟨n - (i + 1), by omega, hI _ _ _ _ ⟨i + 1, rfl, by omega, rfl, rfl⟩ (by simp [sumB, lo_step])⟩
    · rw [if_neg hc] at e5
      simp [hil, hld, hc, e4]
      exact ⟨n - (i + 1), by omega, hI _ _ _ _ ⟨i + 1, rfl, by omega, rfl, rfl⟩ (by simp [sumB, lo_step, e5])⟩
  · have hil : i = n := by omega
    subst hil
    simp
    exact hQ _ _ ⟨rfl, g1⟩

theorem refSum_bad {h : Heap} {v : Value} {bs : List (BitVec 8)} (r : Reads h v (bs.map bv)) (hl : bs.length ≤ 1000000000000000) {w n : Int} (hf : ¬ faultE bs w n = 0) :
    Gives P T (.fn F_colonnaderef03_Sum) [v, .int .i64 w, .int .i64 n] h fun r h' => r = .tuple #[.int .u64 0, .int .u64 0, .int .i64 (faultE bs w n)] ∧ h' = h := by
  refine gives_by t_colonnaderef03_Sum (by simp [c_colonnaderef03_Sum]) fun Q hQ => ?_
  simp [c_colonnaderef03_Sum]
  refine got_call (refFault_spec r w n hl) ?_
  rintro _ _ ⟨rfl, rfl⟩
  simp [hf]
  exact hQ _ _ ⟨rfl, rfl⟩

/-- The least and the greatest of the first i numbers. -/
def minB (bs : List (BitVec 8)) (w : Nat) : Nat → Int
  | 0 => 18446744073709551615
  | i + 1 => min (minB bs w i) (wi (laneB bs w i))
def maxB (bs : List (BitVec 8)) (w : Nat) : Nat → Int
  | 0 => 0
  | i + 1 => max (maxB bs w i) (wi (laneB bs w i))

theorem Ends_spec {h : Heap} {v : Value} {bs : List (BitVec 8)} (r : Bytes h v bs) {w n : Nat} (g : Fine bs w n) :
    Gives P T (.fn F_lanes_Ends) [v, .int .i64 w, .int .i64 n] h fun r h' => r = .tuple #[.int .u64 (if n = 0 ∨ w = 0 then 0 else minB bs w n), .int .u64 (if n = 0 ∨ w = 0 then 0 else maxB bs w n), .int .i64 0] ∧ h' = h := by
  refine gives_by t_lanes_Ends (by simp [c_lanes_Ends]) fun Q hQ => ?_
  obtain ⟨gb1, gb2⟩ := g.le
  have gw := g.wle
  have gn := g.nle
  simp [c_lanes_Ends]
  refine got_call (fault_spec r.reads w n (by omega)) ?_
  rintro _ _ ⟨rfl, rfl⟩
  rename_i h
  rw [fine_faultE g]
  by_cases hn0 : n = 0
  · subst hn0
    simp [skipV]
    exact hQ _ _ ⟨by simp, rfl⟩
  by_cases hw0 : w = 0
  · subst hw0
    simp [hn0]
    exact hQ _ _ ⟨by simp, rfl⟩
  have hc : ¬ (n = 0 ∨ w = 0) := by omega
  rw [if_neg hc, if_neg hc] at hQ
  simp [hn0, hw0]
  refine go_loopK (fun k ks h2 => ∃ (i : Nat), k = n - i ∧ i ≤ n ∧ ks = [(0, v), (1, .int .i64 w), (6, .int .u64 (minB bs w i)), (7, .int .u64 (maxB bs w i)), (27, .int .i64 n), (28, .int .i64 i)] ∧ h2 = h) (n := n)
    ⟨0, rfl, by omega, rfl, rfl⟩ (by simp [minB, maxB]) ?_
  rintro I hI k ks e h3 ⟨i, rfl, hi, rfl, rfl⟩
  simp
  refine branch_dec (fun hlt => ?_) (fun hge => ?_)
  · have hil : i < n := by omega
    have e4 : IntKind.i64.wrap ((i : Int) + 1) = ((i + 1 : Nat) : Int) := by rw [wrap_i64 (by omega) (by omega)]; omega
    simp
    refine got_call (at_spec r g hil) ?_
    rintro _ _ ⟨rfl, rfl⟩
    rename_i h3
    simp [e4]
    exact ⟨n - (i + 1), by omega, hI _ _ _ _ ⟨i + 1, rfl, by omega, rfl, rfl⟩ (by simp [minB, maxB])⟩
  · have hil : i = n := by omega
    subst hil
    simp
    exact hQ _ _ ⟨rfl, rfl⟩

theorem Ends_bad {h : Heap} {v : Value} {bs : List (BitVec 8)} (r : Bytes h v bs) (hl : bs.length ≤ 1000000000000000) {w n : Int} (hf : ¬ faultE bs w n = 0) :
    Gives P T (.fn F_lanes_Ends) [v, .int .i64 w, .int .i64 n] h fun r h' => r = .tuple #[.int .u64 0, .int .u64 0, .int .i64 (faultE bs w n)] ∧ h' = h := by
  refine gives_by t_lanes_Ends (by simp [c_lanes_Ends]) fun Q hQ => ?_
  simp [c_lanes_Ends]
  refine got_call (fault_spec r.reads w n hl) ?_
  rintro _ _ ⟨rfl, rfl⟩
  simp [hf, skipV]
  exact hQ _ _ ⟨rfl, rfl⟩

theorem min_first {bs : List (BitVec 8)} {w : Nat} : ∀ i, min (wi (laneB bs w 0)) (minB bs w i) = if i = 0 then wi (laneB bs w 0) else minB bs w i
  | 0 => by have := wi_lt (laneB bs w 0); simp [minB]; omega
  | 1 => by have := wi_lt (laneB bs w 0); simp [minB]; omega
  | i + 2 => by
    have := min_first (bs := bs) (w := w) (i + 1)
    rw [if_neg (by omega)] at this ⊢
    rw [minB, ← Int.min_assoc, this]
theorem max_first {bs : List (BitVec 8)} {w : Nat} : ∀ i, max (wi (laneB bs w 0)) (maxB bs w i) = if i = 0 then wi (laneB bs w 0) else maxB bs w i
  | 0 => by have := wi_nonneg (laneB bs w 0); simp [maxB]; omega
  | 1 => by have := wi_nonneg (laneB bs w 0); simp [maxB]; omega
  | i + 2 => by
    have := max_first (bs := bs) (w := w) (i + 1)
    rw [if_neg (by omega)] at this ⊢
    rw [maxB, ← Int.max_assoc, this]

theorem ends_zero {bs : List (BitVec 8)} : ∀ i, minB bs 0 (i + 1) = 0 ∧ maxB bs 0 (i + 1) = 0
  | 0 => by simp [minB, maxB, laneB, bvOf]; omega
  | i + 1 => by
    obtain ⟨h1, h2⟩ := ends_zero (bs := bs) i
    rw [minB, maxB, h1, h2]; simp [laneB, bvOf]

theorem refEnds_spec {h : Heap} {v : Value} {bs : List (BitVec 8)} (r : Reads h v (bs.map bv)) {w n : Nat} (g : Fine bs w n) :
    Gives P T (.fn F_colonnaderef03_Ends) [v, .int .i64 w, .int .i64 n] h fun r h' => r = .tuple #[.int .u64 (if n = 0 ∨ w = 0 then 0 else minB bs w n), .int .u64 (if n = 0 ∨ w = 0 then 0 else maxB bs w n), .int .i64 0] ∧ Grow h h' := by
  refine gives_by t_colonnaderef03_Ends (by simp [c_colonnaderef03_Ends]) fun Q hQ => ?_
  obtain ⟨gb1, gb2⟩ := g.le
  have gn := g.nle
  simp [c_colonnaderef03_Ends]
  refine got_call (refFault_spec r w n (by omega)) ?_
  rintro _ _ ⟨rfl, rfl⟩
  rename_i h
  rw [fine_faultE g]
  by_cases hn0 : n = 0
  · subst hn0
    simp
    exact hQ _ _ ⟨by simp, Chg.refl _⟩
  simp [hn0]
  refine got_call (Numbers_spec r g) ?_
  rintro u1 h1 ⟨r1, g1⟩
  obtain ⟨b, cc, rfl, hr⟩ := r1.shape
  have hnl : (numsV bs w n).length = n := by simp [numsV]
  rw [hnl] at hr ⊢
  obtain ⟨a, rfl, hla⟩ := hr 0 (by omega)
  have hld0 := hla 0 _ (range_get (fun i => wv (laneB bs w i)) (by omega : 0 < n))
  simp only [wv, aadd_zero] at hld0
  have hi0 : iadR h1 1 (.slice (some a) n cc) (.int .i64 0) = some (.pointer (some a), h1) := by
    have := iad_nat (h := h1) (es := 1) (j := 0) (len := n) (c := cc) (a := a) (kd := .i64) (by omega)
    simpa using this
  simp [hi0, hld0]
  refine go_loopK (fun k ks h2 => ∃ (i : Nat), k = n - i ∧ i ≤ n ∧ ks = [(10, .slice (some a) n cc), (11, .int .u64 (min (wi (laneB bs w 0)) (minB bs w i))), (12, .int .u64 (max (wi (laneB bs w 0)) (maxB bs w i))), (13, .int .i64 i)] ∧ h2 = h1) (n := n)
    ⟨0, rfl, by omega, rfl, rfl⟩ (by have := min_first (bs := bs) (w := w) 0; have := max_first (bs := bs) (w := w) 0; simp_all) ?_
  rintro I hI k ks e h3 ⟨i, rfl, hi, rfl, rfl⟩
  simp
  refine branch_dec (fun hlt => ?_) (fun hge => ?_)
  · have hil : i < n := by omega
    have hld := hla i _ (range_get (fun i => wv (laneB bs w i)) hil)
    have e4 : IntKind.i64.wrap ((i : Int) + 1) = ((i + 1 : Nat) : Int) := by rw [wrap_i64 (by omega) (by omega)]; omega
    simp only [wv] at hld
    simp [hil, hld, e4]
    exact ⟨n - (i + 1), by omega, hI _ _ _ _ ⟨i + 1, rfl, by omega, rfl, rfl⟩ (by simp [minB, maxB, Int.min_assoc, Int.max_assoc])⟩
  · have hil : i = n := by omega
    subst hil
    have m1 := min_first (bs := bs) (w := w) i
    have m2 := max_first (bs := bs) (w := w) i
    rw [if_neg hn0] at m1 m2
    rw [m1, m2]
    simp
    refine hQ _ _ ⟨?_, g1⟩
    by_cases hw0 : w = 0
    · subst hw0
      obtain ⟨m, rfl⟩ : ∃ m, i = m + 1 := ⟨i - 1, by omega⟩
      obtain ⟨z1, z2⟩ := ends_zero (bs := bs) m
      rw [z1, z2]; simp
    · simp [hn0, hw0]

theorem refEnds_bad {h : Heap} {v : Value} {bs : List (BitVec 8)} (r : Reads h v (bs.map bv)) (hl : bs.length ≤ 1000000000000000) {w n : Int} (hf : ¬ faultE bs w n = 0) :
    Gives P T (.fn F_colonnaderef03_Ends) [v, .int .i64 w, .int .i64 n] h fun r h' => r = .tuple #[.int .u64 0, .int .u64 0, .int .i64 (faultE bs w n)] ∧ h' = h := by
  refine gives_by t_colonnaderef03_Ends (by simp [c_colonnaderef03_Ends]) fun Q hQ => ?_
  simp [c_colonnaderef03_Ends]
  refine got_call (refFault_spec r w n hl) ?_
  rintro _ _ ⟨rfl, rfl⟩
  simp [hf, skipV]
  exact hQ _ _ ⟨rfl, rfl⟩

end Go.Ax
