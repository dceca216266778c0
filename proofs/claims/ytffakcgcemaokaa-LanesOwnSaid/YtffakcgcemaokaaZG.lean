/- Seat lanes: the document's tests, intervals and lists; sets held against lists of truths. -/
import Derived.Test.YtffakcgcemaokaaZF
import Derived.Test.YtffakcgcemaokaaYI
namespace Go.Ax
set_option linter.unusedVariables false
set_option linter.unusedSimpArgs false

theorem refFault_spec {h : Heap} {v : Value} {bs : List (BitVec 8)} (r : Reads h v (bs.map bv)) (w n : Int) (hl : bs.length ≤ 1000000000000000) :
    Gives P T (.fn F_colonnaderef03_Fault) [v, .int .i64 w, .int .i64 n] h fun r h' => r = .int .i64 (faultE bs w n) ∧ h' = h := by
  obtain ⟨b, c, ev, hr⟩ := r.shape
  simp only [List.length_map] at hr ev
  have hlen : ∀ h, lenR h v = some (.int .i64 bs.length, h) := fun h => by rw [ev]; rfl
  refine gives_by t_colonnaderef03_Fault (by simp [c_colonnaderef03_Fault]) fun Q hQ => ?_
  by_cases h1 : w < 0 ∨ 64 < w
  · have : faultE bs w n = 20 := by unfold faultE; rw [if_pos h1]
    rw [this] at hQ
    by_cases h0 : w < 0
    · simp [c_colonnaderef03_Fault, h0, skipV]; exact hQ _ _ ⟨rfl, rfl⟩
    · have h5 : 64 < w := by omega
      simp [c_colonnaderef03_Fault, h0, h5]; exact hQ _ _ ⟨rfl, rfl⟩
  have w0 : ¬ w < 0 := by omega
  have w64 : ¬ 64 < w := by omega
  by_cases h2 : n < 0
  · have : faultE bs w n = 2 := by unfold faultE; rw [if_neg h1, if_pos h2]
    rw [this] at hQ
    simp [c_colonnaderef03_Fault, w0, w64, h2]; exact hQ _ _ ⟨rfl, rfl⟩
  by_cases h3 : 16777216 < n
  · have : faultE bs w n = 3 := by unfold faultE; rw [if_neg h1, if_neg h2, if_pos h3]
    rw [this] at hQ
    simp [c_colonnaderef03_Fault, w0, w64, h2, h3]; exact hQ _ _ ⟨rfl, rfl⟩
  obtain ⟨w', rfl⟩ : ∃ w' : Nat, w = w' := ⟨w.toNat, by omega⟩
  obtain ⟨n', rfl⟩ : ∃ n' : Nat, n = n' := ⟨n.toNat, by omega⟩
  have hb : n' * w' ≤ 16777216 * 64 := Nat.mul_le_mul (by omega) (by omega)
  obtain ⟨a, ha⟩ : ∃ a, n' * w' = a := ⟨_, rfl⟩
  have f0 : (n' : Int) * w' = (a : Int) := by rw [← ha, Int.natCast_mul]
  have f1 : IntKind.i64.wrap (a : Int) = a := wrap_i64 (by omega) (by omega)
  have f2 : IntKind.i64.wrap ((a : Int) + 7) = ((a + 7 : Nat) : Int) := by rw [wrap_i64 (by omega) (by omega)]; omega
  have f3 := tdiv_nat (a + 7) 8
  obtain ⟨B, hB⟩ : ∃ B, (a + 7) / 8 = B := ⟨_, rfl⟩
  rw [hB] at f3
  obtain ⟨a7, ha7⟩ : ∃ x, a + 7 = x := ⟨_, rfl⟩
  rw [ha7] at f2 f3
  simp only [Int.cast_ofNat_Int] at f3
  have f4 : IntKind.i64.wrap (B : Int) = B := wrap_i64 (by omega) (by omega)
  obtain ⟨N, hN⟩ : ∃ N, bs.length = N := ⟨_, rfl⟩
  rw [hN] at hlen hl
  by_cases h4 : N < B
  · have : faultE bs w' n' = 22 := by unfold faultE; rw [if_neg h1, if_neg h2, if_neg h3, f0, if_pos (by omega)]
    rw [this] at hQ
    simp [c_colonnaderef03_Fault, w0, w64, h2, h3, f0, f1, f2, f3, f4, hlen, h4]; exact hQ _ _ ⟨rfl, rfl⟩
  by_cases h5 : B < N
  · have : faultE bs w' n' = 23 := by unfold faultE; rw [if_neg h1, if_neg h2, if_neg h3, f0, if_neg (by omega), if_pos (by omega)]
    rw [this] at hQ
    simp [c_colonnaderef03_Fault, w0, w64, h2, h3, f0, f1, f2, f3, f4, hlen, h4, h5]; exact hQ _ _ ⟨rfl, rfl⟩
  have hE : faultE bs w' n' = if anyFrom bs a then 23 else 0 := by unfold faultE; rw [if_neg h1, if_neg h2, if_neg h3, f0, if_neg (by omega), if_neg (by omega), Int.toNat_natCast]
  rw [hE] at hQ
  simp [c_colonnaderef03_Fault, w0, w64, h2, h3, f0, f1, f2, f3, f4, hlen, h4, h5]
  refine go_loopK (fun k ks h2 => ∃ (i : Nat), k = 8 * N + 8 - i ∧ a ≤ i ∧ i ≤ 8 * N + 7 ∧ ks = [(0, v), (7, .int .i64 i)] ∧ (∀ j, a ≤ j → j < i → bbit bs j = false) ∧ h2 = h) (n := 8 * N + 8 - a)
    ⟨a, rfl, Nat.le_refl _, by omega, rfl, fun j h1 h2 => by omega, rfl⟩ (by simp) ?_
  rintro I hI k ks e h6 ⟨i, rfl, hai, hi, rfl, hz, rfl⟩
  have e8 : IntKind.i64.wrap (8 * (N : Int)) = 8 * (N : Int) := wrap_i64 (by omega) (by omega)
  simp [hlen, e8]
  refine branch_dec (fun hlt => ?_) (fun hge => ?_)
  · have e4 : IntKind.i64.wrap ((i : Int) + 1) = ((i + 1 : Nat) : Int) := by rw [wrap_i64 (by omega) (by omega)]; omega
    simp
    refine got_call (refBit_spec r (by omega)) ?_
    rintro _ _ ⟨rfl, rfl⟩
    cases hbt : bbit bs i with
    | true =>
      have : anyFrom bs a = true := by
        cases ht : anyFrom bs a with
        | true => rfl
        | false => rw [anyFrom_false.1 ht i hai] at hbt; cases hbt
      rw [this] at hQ
      simp [bitV]
      exact hQ _ _ ⟨by simp, rfl⟩
    | false =>
      simp [bitV, e4]
      refine ⟨8 * N + 8 - (i + 1), by omega, hI _ _ _ _ ⟨i + 1, rfl, by omega, by omega, rfl, fun j h1 h2 => ?_, rfl⟩ (by simp)⟩
      by_cases hj : j = i
      · subst hj; exact hbt
      · exact hz j h1 (by omega)
  · have : anyFrom bs a = false := anyFrom_false.2 fun j hj => by
      by_cases hji : j < i
      · exact hz j hj hji
      · exact bbit_out (by omega)
    rw [this] at hQ
    simp
    exact hQ _ _ ⟨by simp, rfl⟩

/-- The numbers, one by one. -/
def numsV (bs : List (BitVec 8)) (w n : Nat) : List Value := (List.range n).map fun i => wv (laneB bs w i)

theorem range_get {α : Type} {n i : Nat} (f : Nat → α) (h : i < n) : ((List.range n).map f)[i]? = some (f i) := by simp [h]

theorem Numbers_spec {h : Heap} {v : Value} {bs : List (BitVec 8)} (r : Reads h v (bs.map bv)) {w n : Nat} (g : Fine bs w n) :
    Gives P T (.fn F_colonnaderef03_Numbers) [v, .int .i64 w, .int .i64 n] h fun r h' => Reads h' r (numsV bs w n) ∧ Grow h h' := by
  refine gives_by t_colonnaderef03_Numbers (by simp [c_colonnaderef03_Numbers]) fun Q hQ => ?_
  have gw := g.wle
  have gn := g.nle
  simp [c_colonnaderef03_Numbers]
  refine go_loopK (fun k ks h2 => ∃ (i : Nat) (u : Value) (q : Nat), k = n - i ∧ i ≤ n ∧ ks = [(0, v), (1, .int .i64 w), (2, .int .i64 n), (7, u), (8, .int .i64 i)] ∧ Own h2 u q (numsV bs w i) ∧ Grow h h2 ∧ h.dyn.length ≤ q) (n := n)
    ⟨0, .slice none 0 0, h.dyn.length, rfl, by omega, rfl, Own.nil _ _, Chg.refl _, Nat.le_refl _⟩ (by simp) ?_
  rintro I hI k ks e h3 ⟨i, u, q, rfl, hi, rfl, ow, gg, hq⟩
  simp
  refine branch_dec (fun hlt => ?_) (fun hge => ?_)
  · have hil : i < n := by omega
    have hs := Nat.mul_le_mul (show i ≤ 16777216 by omega) gw
    obtain ⟨s, hs'⟩ : ∃ s, i * w = s := ⟨_, rfl⟩
    rw [hs'] at hs
    have f0 : (i : Int) * w = (s : Int) := by rw [← hs', Int.natCast_mul]
    have f1 : IntKind.i64.wrap (s : Int) = s := wrap_i64 (by omega) (by omega)
    have e4 : IntKind.i64.wrap ((i : Int) + 1) = ((i + 1 : Nat) : Int) := by rw [wrap_i64 (by omega) (by omega)]; omega
    simp [f0, f1]
    refine got_call (refLane_spec (r.grow gg) gw (by omega)) ?_
    rintro _ _ ⟨rfl, rfl⟩
    rename_i h3
    have hlane : bvOf (fun j => bbit bs (s + j)) w = laneB bs w i := by rw [laneB, hs']
    rw [hlane]
    obtain ⟨v', h', q', e8, o', c', l', d'⟩ := ow.push (bytes := 8) (z := .int .u64 0) (x := .int .u64 (wi (laneB bs w i))) (by simp) (by simp [numsV]; omega) (by simp [numsV]; omega)
    simp [e8, e4]
    refine ⟨n - (i + 1), by omega, hI _ _ _ _ ⟨i + 1, v', q', rfl, by omega, rfl, ?_, gg.after c' fun n hn hb => by have := hb.1; omega, ?_⟩ (by simp)⟩
    · have : numsV bs w (i + 1) = numsV bs w i ++ [.int .u64 (wi (laneB bs w i))] := by unfold numsV; rw [List.range_succ, List.map_append]; rfl
      rw [this]; exact o'
    · have := gg.len
      rcases d' with ⟨h1, _⟩ | h1 <;> omega
  · have hil : i = n := by omega
    subst hil
    simp
    exact hQ _ _ ⟨ow.reads, gg⟩

/-- A list of truths. -/
def tL (f : Nat → Bool) (n : Nat) : List Value := (List.range n).map fun i => .bool (f i)

theorem tL_succ (f : Nat → Bool) (n : Nat) : tL f (n + 1) = tL f n ++ [.bool (f n)] := by unfold tL; rw [List.range_succ, List.map_append]; rfl
theorem tL_len (f : Nat → Bool) (n : Nat) : (tL f n).length = n := by simp [tL]
theorem tL_get {f : Nat → Bool} {n i : Nat} (h : i < n) : (tL f n)[i]? = some (.bool (f i)) := by simp [tL, h]

theorem refTest_spec {h : Heap} {v : Value} {bs : List (BitVec 8)} (r : Reads h v (bs.map bv)) {w n : Nat} {op : Int} {c : BitVec 64} (g : Fine bs w n) (o1 : 1 ≤ op) (o2 : op ≤ 6) :
    Gives P T (.fn F_colonnaderef03_Test) [v, .int .i64 w, .int .i64 n, .int .i64 op, .int .u64 (wi c)] h fun r h' => ∃ u, r = .tuple #[u, .int .i64 0] ∧ Reads h' u (tL (fun i => stB op (laneB bs w i) c) n) ∧ Grow h h' := by
  refine gives_by t_colonnaderef03_Test (by simp [c_colonnaderef03_Test]) fun Q hQ => ?_
  obtain ⟨gb1, gb2⟩ := g.le
  have gn := g.nle
  have p1 : ¬ op < 1 := by omega
  have p2 : ¬ 6 < op := by omega
  simp [c_colonnaderef03_Test]
  refine got_call (refFault_spec r w n (by omega)) ?_
  rintro _ _ ⟨rfl, rfl⟩
  rename_i h
  rw [fine_faultE g]
  simp [p1, p2]
  refine got_call (Numbers_spec r g) ?_
  rintro u1 h1 ⟨r1, g1⟩
  obtain ⟨b, cc, rfl, hr⟩ := r1.shape
  have hnl : (numsV bs w n).length = n := by simp [numsV]
  rw [hnl] at hr ⊢
  simp
  refine go_loopK (fun k ks h2 => ∃ (i : Nat) (u : Value) (q : Nat), k = n - i ∧ i ≤ n ∧ ks = [(3, .int .i64 op), (4, .int .u64 (wi c)), (13, u), (14, .slice b n cc), (15, .int .i64 i)] ∧ Own h2 u q (tL (fun i => stB op (laneB bs w i) c) i) ∧ Grow h1 h2 ∧ h1.dyn.length ≤ q) (n := n)
    ⟨0, .slice none 0 0, h1.dyn.length, rfl, by omega, rfl, Own.nil _ _, Chg.refl _, Nat.le_refl _⟩ (by simp) ?_
  rintro I hI k ks e h3 ⟨i, u, q, rfl, hi, rfl, ow, gg, hq⟩
  simp
  refine branch_dec (fun hlt => ?_) (fun hge => ?_)
  · have hil : i < n := by omega
    obtain ⟨a, rfl, hla⟩ := hr i hil
    have hld := hload_grow gg (hla i _ (range_get (fun i => wv (laneB bs w i)) hil))
    have e4 : IntKind.i64.wrap ((i : Int) + 1) = ((i + 1 : Nat) : Int) := by rw [wrap_i64 (by omega) (by omega)]; omega
    simp only [wv] at hld
    simp [hil, hld]
    refine got_call stands_spec ?_
    rintro _ _ ⟨rfl, rfl⟩
    rename_i h3
    obtain ⟨v', h', q', e8, o', c', l', d'⟩ := ow.push (bytes := 1) (z := .bool false) (x := .bool (stB op (laneB bs w i) c)) (by simp) (by rw [tL_len]; omega) (by rw [tL_len]; omega)
    simp [e8, e4]
    refine ⟨n - (i + 1), by omega, hI _ _ _ _ ⟨i + 1, v', q', rfl, by omega, rfl, by rw [tL_succ]; exact o', gg.after c' fun n hn hb => by have := hb.1; omega, ?_⟩ (by simp)⟩
    have := gg.len
    rcases d' with ⟨h1, _⟩ | h1 <;> omega
  · have hil : i = n := by omega
    subst hil
    simp
    exact hQ _ _ ⟨u, rfl, ow.reads, g1.trans gg⟩

theorem refTest_bad {h : Heap} {v : Value} {bs : List (BitVec 8)} (r : Reads h v (bs.map bv)) (hl : bs.length ≤ 1000000000000000) {w n op : Int} {c : BitVec 64} (hf : ¬ faultE bs w n = 0) :
    Gives P T (.fn F_colonnaderef03_Test) [v, .int .i64 w, .int .i64 n, .int .i64 op, .int .u64 (wi c)] h fun r h' => r = .tuple #[.slice none 0 0, .int .i64 (faultE bs w n)] ∧ h' = h := by
  refine gives_by t_colonnaderef03_Test (by simp [c_colonnaderef03_Test]) fun Q hQ => ?_
  simp [c_colonnaderef03_Test]
  refine got_call (refFault_spec r w n hl) ?_
  rintro _ _ ⟨rfl, rfl⟩
  simp [hf]
  exact hQ _ _ ⟨rfl, rfl⟩

theorem refTest_op {h : Heap} {v : Value} {bs : List (BitVec 8)} (r : Reads h v (bs.map bv)) (hl : bs.length ≤ 1000000000000000) {w n op : Int} {c : BitVec 64} (hf : faultE bs w n = 0) (ho : ¬ (1 ≤ op ∧ op ≤ 6)) :
    Gives P T (.fn F_colonnaderef03_Test) [v, .int .i64 w, .int .i64 n, .int .i64 op, .int .u64 (wi c)] h fun r h' => r = .tuple #[.slice none 0 0, .int .i64 2] ∧ h' = h := by
  refine gives_by t_colonnaderef03_Test (by simp [c_colonnaderef03_Test]) fun Q hQ => ?_
  simp [c_colonnaderef03_Test]
  refine got_call (refFault_spec r w n hl) ?_
  rintro _ _ ⟨rfl, rfl⟩
  simp [hf]
  by_cases h1 : op < 1
  · simp [h1, skipV]
    exact hQ _ _ ⟨rfl, rfl⟩
  · have h2 : 6 < op := by omega
    simp [h1, h2]
    exact hQ _ _ ⟨rfl, rfl⟩

theorem refBetween_spec {h : Heap} {v : Value} {bs : List (BitVec 8)} (r : Reads h v (bs.map bv)) {w n : Nat} {lo hi : BitVec 64} (g : Fine bs w n) :
    Gives P T (.fn F_colonnaderef03_Between) [v, .int .i64 w, .int .i64 n, .int .u64 (wi lo), .int .u64 (wi hi)] h fun r h' => ∃ u, r = .tuple #[u, .int .i64 0] ∧ Reads h' u (tL (fun i => decide (wi lo ≤ wi (laneB bs w i)) && decide (wi (laneB bs w i) ≤ wi hi)) n) ∧ Grow h h' := by
  refine gives_by t_colonnaderef03_Between (by simp [c_colonnaderef03_Between]) fun Q hQ => ?_
  obtain ⟨gb1, gb2⟩ := g.le
  have gn := g.nle
  simp [c_colonnaderef03_Between]
  refine got_call (refFault_spec r w n (by omega)) ?_
  rintro _ _ ⟨rfl, rfl⟩
  rename_i h
  rw [fine_faultE g]
  simp
  refine got_call (Numbers_spec r g) ?_
  rintro u1 h1 ⟨r1, g1⟩
  obtain ⟨b, cc, rfl, hr⟩ := r1.shape
  have hnl : (numsV bs w n).length = n := by simp [numsV]
  rw [hnl] at hr ⊢
  simp
  refine go_loopK (fun k ks h2 => ∃ (i : Nat) (u : Value) (q : Nat), k = n - i ∧ i ≤ n ∧ ks = [(3, .int .u64 (wi lo)), (4, .int .u64 (wi hi)), (13, u), (14, .slice b n cc), (15, .int .i64 i)] ∧ Own h2 u q (tL (fun i => decide (wi lo ≤ wi (laneB bs w i)) && decide (wi (laneB bs w i) ≤ wi hi)) i) ∧ Grow h1 h2 ∧ h1.dyn.length ≤ q) (n := n)
    ⟨0, .slice none 0 0, h1.dyn.length, rfl, by omega, rfl, Own.nil _ _, Chg.refl _, Nat.le_refl _⟩ (by simp) ?_
  rintro I hI k ks e h3 ⟨i, u, q, rfl, hin, rfl, ow, gg, hq⟩
  simp
  refine branch_dec (fun hlt => ?_) (fun hge => ?_)
  · have hil : i < n := by omega
    obtain ⟨a, rfl, hla⟩ := hr i hil
    have hld := hload_grow gg (hla i _ (range_get (fun i => wv (laneB bs w i)) hil))
    have e4 : IntKind.i64.wrap ((i : Int) + 1) = ((i + 1 : Nat) : Int) := by rw [wrap_i64 (by omega) (by omega)]; omega
    simp only [wv] at hld
    obtain ⟨v', h', q', e8, o', c', l', d'⟩ := ow.push (bytes := 1) (z := .bool false) (x := .bool (decide (wi lo ≤ wi (laneB bs w i)) && decide (wi (laneB bs w i) ≤ wi hi))) (by simp) (by rw [tL_len]; omega) (by rw [tL_len]; omega)
    rw [← tL_succ (fun i => decide (wi lo ≤ wi (laneB bs w i)) && decide (wi (laneB bs w i) ≤ wi hi))] at o'
    have gg' : Grow h1 h' := gg.after c' fun n hn hb => by have := hb.1; omega
    have hq' : h1.dyn.length ≤ q' := by
      have := gg.len
      rcases d' with ⟨h1, _⟩ | h1 <;> omega
    by_cases hlo : wi lo ≤ wi (laneB bs w i)
    · simp only [hlo, decide_true, Bool.true_and] at e8
      simp [hil, hld, hlo, e8, e4]
      exact ⟨n - (i + 1), by omega, hI _ _ _ _ ⟨i + 1, v', q', rfl, by omega, rfl, o', gg', hq'⟩ (by simp)⟩
    · simp only [hlo, decide_false, Bool.false_and] at e8
      simp [hil, hld, hlo, skipV, e8, e4]
      exact ⟨n - (i + 1), by omega, hI _ _ _ _ ⟨i + 1, v', q', rfl, by omega, rfl, o', gg', hq'⟩ (by simp)⟩
  · have hil : i = n := by omega
    subst hil
    simp
    exact hQ _ _ ⟨u, rfl, ow.reads, g1.trans gg⟩

theorem refBetween_bad {h : Heap} {v : Value} {bs : List (BitVec 8)} (r : Reads h v (bs.map bv)) (hl : bs.length ≤ 1000000000000000) {w n : Int} {lo hi : BitVec 64} (hf : ¬ faultE bs w n = 0) :
    Gives P T (.fn F_colonnaderef03_Between) [v, .int .i64 w, .int .i64 n, .int .u64 (wi lo), .int .u64 (wi hi)] h fun r h' => r = .tuple #[.slice none 0 0, .int .i64 (faultE bs w n)] ∧ h' = h := by
  refine gives_by t_colonnaderef03_Between (by simp [c_colonnaderef03_Between]) fun Q hQ => ?_
  simp [c_colonnaderef03_Between]
  refine got_call (refFault_spec r w n hl) ?_
  rintro _ _ ⟨rfl, rfl⟩
  simp [hf]
  exact hQ _ _ ⟨rfl, rfl⟩

/-! ### a set held against a list of truths -/

theorem like_true {h : Heap} {p q n : Nat} {ws : List (BitVec 64)} {v : Value} {f : Nat → Bool} (s : SetAt h p q n ws) (cn : Canon n ws) (r : Reads h v (tL f n)) (hb : ∀ i, i < n → bit ws i = f i) :
    Gives P T (.fn F_colonnadelaw03_like) [ptr p, v, .int .i64 0] h fun r h' => r = .bool true ∧ h' = h := by
  have hn := cn.le
  obtain ⟨b, cc, rfl, hr⟩ := r.shape
  rw [tL_len] at hr ⊢
  refine gives_by t_colonnadelaw03_like (by simp [c_colonnadelaw03_like]) fun Q hQ => ?_
  simp [c_colonnadelaw03_like, ptr]
  refine got_call (len_spec s) ?_
  rintro _ _ ⟨rfl, rfl⟩
  rename_i h
  simp
  refine go_loopK (fun k ks h2 => ∃ (i : Nat), k = n - i ∧ i ≤ n ∧ ks = [(0, ptr p), (1, .slice b n cc), (7, .int .i64 i)] ∧ h2 = h) (n := n) ⟨0, rfl, by omega, rfl, rfl⟩ (by simp [ptr]) ?_
  rintro I hI k ks e h3 ⟨i, rfl, hi, rfl, rfl⟩
  simp
  refine branch_dec (fun hlt => ?_) (fun hge => ?_)
  · have hil : i < n := by omega
    obtain ⟨a, rfl, hla⟩ := hr i hil
    have hld := hla i _ (tL_get hil)
    have e4 : IntKind.i64.wrap ((i : Int) + 1) = ((i + 1 : Nat) : Int) := by rw [wrap_i64 (by omega) (by omega)]; omega
    simp
    refine got_call (get_spec s cn i) ?_
    rintro _ _ ⟨rfl, rfl⟩
    simp [hil, hld, hb i hil, e4]
    exact ⟨n - (i + 1), by omega, hI _ _ _ _ ⟨i + 1, rfl, by omega, rfl, rfl⟩ (by simp [ptr])⟩
  · simp
    exact hQ _ _ ⟨rfl, rfl⟩

theorem like_nil {h : Heap} {v : Value} {e : Int} (he : ¬ e = 0) :
    Gives P T (.fn F_colonnadelaw03_like) [.pointer none, v, .int .i64 e] h fun r h' => r = .bool true ∧ h' = h := by
  refine gives_by t_colonnadelaw03_like (by simp [c_colonnadelaw03_like]) fun Q hQ => ?_
  simp [c_colonnadelaw03_like, he]
  exact hQ _ _ ⟨rfl, rfl⟩

theorem twin_spec {h : Heap} {v : Value} {bs : List (BitVec 8)} (r : Reads h v (bs.map bv)) (hl : bs.length ≤ 140737488351232) :
    Gives P T (.fn F_colonnadelaw03_twin) [v] h fun r h' => ∃ q, Own h' r q (bs.map bv) ∧ Grow h h' ∧ h.dyn.length ≤ q := by
  refine gives_by t_colonnadelaw03_twin (by simp [c_colonnadelaw03_twin]) fun Q hQ => ?_
  simp [c_colonnadelaw03_twin]
  have hv : slen v = some (bs.map bv).length ∧ firstN h 1 (bs.map bv).length v = some (bs.map bv) := by
    rcases r with ⟨rfl, h0⟩ | ⟨a, c, rfl, hl⟩
    · rw [h0]; exact ⟨rfl, rfl⟩
    · refine ⟨rfl, ?_⟩
      simp only [firstN, Nat.mul_one]
      exact loadN_of _ _ hl
  by_cases h0 : bs = []
  · subst h0
    have e := (Own.nil h h.dyn.length).app0 (by simp) (bytes := 1) (z := .int .u8 0) hv.1 hv.2
    rw [e]
    simp
    exact hQ _ _ ⟨h.dyn.length, Own.nil _ _, Chg.refl _, Nat.le_refl _⟩
  · have hg : (bs.map bv).all goodC = true := by rw [List.all_eq_true]; intro x hx; rw [List.mem_map] at hx; obtain ⟨y, _, rfl⟩ := hx; simp [bv]
    obtain ⟨v', h', q', e, o, c, _, d⟩ := (Own.nil h h.dyn.length).app (bytes := 1) (z := .int .u8 0) (by simpa using h0) hv.1 hv.2 hg (by simp; omega) (by simp; omega)
    rw [e]
    simp
    refine hQ _ _ ⟨q', by simpa using o, c.mono fun n hn hb => by have := hb.1; omega, ?_⟩
    rcases d with ⟨h1, _⟩ | h1 <;> omega

theorem large_spec {h : Heap} (n : Int) : Gives P T (.fn F_colonnadelaw03_large) [.int .i64 n] h fun r h' => r = .bool (decide (1048576 < n) && decide (n ≤ 16777216)) ∧ h' = h := by
  refine gives_by t_colonnadelaw03_large (by simp [c_colonnadelaw03_large]) fun Q hQ => ?_
  by_cases h1 : 1048576 < n
  · simp [c_colonnadelaw03_large, h1]; exact hQ _ _ ⟨by simp [h1], rfl⟩
  · simp [c_colonnadelaw03_large, h1, skipV]; exact hQ _ _ ⟨by simp [h1], rfl⟩

theorem And_says {h h0 : Heap} {p p' n : Nat} {f f' : Nat → Bool} (s : SaysAt h0 h p n f) (s' : SaysAt h0 h p' n f') :
    Gives P T (.fn F_bits_Set_And) [ptr p, ptr p'] h fun r h' => ∃ p2, r = .tuple #[ptr p2, .int .i64 0] ∧ SaysAt h h' p2 n (fun i => f i && f' i) ∧ Grow h h' := by
  obtain ⟨q, ws, s, c, b, _, _⟩ := s
  obtain ⟨q', ws', s', c', b', _, _⟩ := s'
  refine (And_spec s s' c c').mono ?_
  rintro _ h' ⟨p2, q2, ws2, rfl, s2, c2, b2, g, f1, f2⟩
  refine ⟨p2, rfl, ⟨q2, ws2, s2, c2, fun i => ?_, f1, f2⟩, g⟩
  rw [b2, b, b']
  by_cases hi : i < n <;> simp [hi]

theorem Or_says {h h0 h1 : Heap} {p p' n : Nat} {f f' : Nat → Bool} (s : SaysAt h0 h p n f) (s' : SaysAt h1 h p' n f') :
    Gives P T (.fn F_bits_Set_Or) [ptr p, ptr p'] h fun r h' => ∃ p2, r = .tuple #[ptr p2, .int .i64 0] ∧ SaysAt h h' p2 n (fun i => f i || f' i) ∧ Grow h h' := by
  obtain ⟨q, ws, s, c, b, _, _⟩ := s
  obtain ⟨q', ws', s', c', b', _, _⟩ := s'
  refine (Or_spec s s' c c').mono ?_
  rintro _ h' ⟨p2, q2, ws2, rfl, s2, c2, b2, g, f1, f2⟩
  refine ⟨p2, rfl, ⟨q2, ws2, s2, c2, fun i => ?_, f1, f2⟩, g⟩
  rw [b2, b, b']
  by_cases hi : i < n <;> simp [hi]

theorem SaysAt.grow {h0 h h' : Heap} {p n : Nat} {f : Nat → Bool} (s : SaysAt h0 h p n f) (g : Grow h h') : SaysAt h0 h' p n f := by
  obtain ⟨q, ws, s, c, b, f1, f2⟩ := s
  exact ⟨q, ws, s.grow g, c, b, f1, f2⟩
theorem SaysAt.base {h0 h1 h : Heap} {p n : Nat} {f : Nat → Bool} (s : SaysAt h0 h p n f) (g : h1.dyn.length ≤ h0.dyn.length) : SaysAt h1 h p n f := by
  obtain ⟨q, ws, s, c, b, f1, f2⟩ := s
  exact ⟨q, ws, s, c, b, by omega, by omega⟩

theorem Between_spec {h : Heap} {v : Value} {bs : List (BitVec 8)} (r : Bytes h v bs) {w n : Nat} {lo hi : BitVec 64} (g : Fine bs w n) :
    Gives P T (.fn F_lanes_Between) [v, .int .i64 w, .int .i64 n, .int .u64 (wi lo), .int .u64 (wi hi)] h fun r h' => ∃ p, r = .tuple #[ptr p, .int .i64 0] ∧ SaysAt h h' p n (fun i => decide (wi lo ≤ wi (laneB bs w i)) && decide (wi (laneB bs w i) ≤ wi hi)) ∧ Grow h h' := by
  refine gives_by t_lanes_Between (by simp [c_lanes_Between]) fun Q hQ => ?_
  simp [c_lanes_Between]
  refine got_call (Test_spec (c := lo) r g (by omega) (by omega)) ?_
  rintro _ h1 ⟨p1, rfl, s1, g1⟩
  simp
  refine got_call (Test_spec (c := hi) (r.grow g1) g (by omega) (by omega)) ?_
  rintro _ h2 ⟨p2, rfl, s2, g2⟩
  simp
  refine got_call (And_says (s1.grow g2) (s2.base g1.len)) ?_
  rintro _ h3 ⟨p3, rfl, s3, g3⟩
  have := g1.len
  have := g2.len
  simp
  refine hQ _ _ ⟨p3, rfl, ?_, (g1.trans g2).trans g3⟩
  have := s3.base (h1 := h) (by omega)
  simpa [stB] using this

theorem Between_bad {h : Heap} {v : Value} {bs : List (BitVec 8)} (r : Bytes h v bs) (hl : bs.length ≤ 1000000000000000) {w n : Int} {lo hi : BitVec 64} (hf : ¬ faultE bs w n = 0) :
    Gives P T (.fn F_lanes_Between) [v, .int .i64 w, .int .i64 n, .int .u64 (wi lo), .int .u64 (wi hi)] h fun r h' => r = .tuple #[.pointer none, .int .i64 (faultE bs w n)] ∧ h' = h := by
  refine gives_by t_lanes_Between (by simp [c_lanes_Between]) fun Q hQ => ?_
  simp [c_lanes_Between]
  refine got_call (Test_fault r hl hf) ?_
  rintro _ _ ⟨rfl, rfl⟩
  simp [hf]
  exact hQ _ _ ⟨rfl, rfl⟩

end Go.Ax
