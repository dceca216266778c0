/- Seat sel: a selection of a list of numbers. -/
import Derived.Test.YtahllahgeldjcaaDoorSG
namespace Go.Ax
open Go.Proofs
set_option linter.unusedVariables false
set_option linter.unusedSimpArgs false
set_option maxRecDepth 100000

theorem filt_sorted (f : Nat → Bool) (n : Nat) : (filt f n).Pairwise (· < ·) := by unfold filt; exact List.Pairwise.filter _ List.pairwise_lt_range

theorem At_s {h : Heap} {L : Nat → Nat → Option Value} (hro : h.ro = roBlk tabG L) {vl : Value} {n : Nat} (hn : n ≤ 16777216) {xs : List Nat} (r : Reads h vl (iL xs)) (hlen : xs.length ≤ 1000000000) (hs : xs.Pairwise (· < ·)) (hb : ∀ x ∈ xs, x < n) :
    Gives P T (.fn F_sel_At) [.int .i64 n, vl] h fun t h' => ∃ v', t = .tuple #[v', .int .i64 0] ∧ Made h h' v' n (fun i => decide (i ∈ xs)) := by
  refine gives_by t_sel_At (by simp [c_sel_At]) fun Q hQ => ?_
  obtain ⟨cz, bz⟩ := canon_zero hn
  obtain ⟨b, c, rfl, hr⟩ := r.shape
  simp only [iL_len] at hr ⊢
  obtain ⟨N, hN⟩ : ∃ N, xs.length = N := ⟨_, rfl⟩
  rw [hN] at hr hlen ⊢
  simp [c_sel_At]
  refine got_call (new_spec hn) ?_
  rintro _ h2 ⟨p2, q2, rfl, s2, g2, hp2, hq2⟩
  simp [ptr]
  refine go_loopK (fun kk ks h3 => ∃ (i : Nat) (wi : List (BitVec 64)), kk = N - i ∧ i ≤ N ∧ ks = [(1, .slice b N c), (6, ptr p2), (13, .slice b N c), (14, .int .i64 N), (15, .int .i64 i)] ∧ SetAt h3 p2 q2 n wi ∧ Canon n wi ∧ (∀ j, bit wi j = decide (j ∈ xs.take i)) ∧ Grow h h3) (n := N)
    ⟨0, _, rfl, by omega, rfl, s2, cz, fun j => by rw [bz]; simp, g2⟩ (by simp [ptr]) ?_
  rintro I hI kk ks e h3 ⟨i, wi, rfl, hi, rfl, s3, c3, hb3, g3⟩
  simp
  refine branch_dec (fun hlt => ?_) (fun hge => ?_)
  · have hiN : i < N := by omega
    have e4 : IntKind.i64.wrap ((i : Int) + 1) = ((i + 1 : Nat) : Int) := by rw [wrap_i64 (by omega) (by omega)]; omega
    obtain ⟨a, rfl, hla⟩ := hr i hiN
    obtain ⟨x, hx⟩ : ∃ x, xs[i]? = some x := ⟨_, List.getElem?_eq_getElem (by omega)⟩
    have ld := hload_grow g3 (hla i (.int .i64 (x : Nat)) (by unfold iL; rw [List.getElem?_map, hx]; rfl))
    have hxn := hb x (List.mem_of_getElem? hx)
    have htk : xs.take (i + 1) = xs.take i ++ [x] := by rw [List.take_add_one, hx]; rfl
    have fin : ∀ h4 w4, SetAt h4 p2 q2 n w4 → Canon n w4 → (∀ j, bit w4 j = if j = x then true else bit wi j) → Chg (· = q2) h3 h4 →
        ∃ (i' : Nat) (wi : List (BitVec 64)), N - (i + 1) = N - i' ∧ i' ≤ N ∧ [(1, Value.slice (some a) N c), (6, ptr p2), (13, .slice (some a) N c), (14, .int .i64 N), (15, .int .i64 (i + 1 : Nat))] = [(1, Value.slice (some a) N c), (6, ptr p2), (13, .slice (some a) N c), (14, .int .i64 N), (15, .int .i64 (i' : Nat))] ∧ SetAt h4 p2 q2 n wi ∧ Canon n wi ∧ (∀ j, bit wi j = decide (j ∈ xs.take i')) ∧ Grow h h4 := fun h4 w4 s4 c4 hb4 ch4 => by
      refine ⟨i + 1, w4, rfl, by omega, rfl, s4, c4, fun j => ?_, g3.after ch4 fun n hn e => by omega⟩
      rw [hb4, hb3, htk]
      by_cases hj : j = x
      · subst hj; simp
      · simp [hj]
    by_cases hz : 0 < i
    · obtain ⟨y, hy⟩ : ∃ y, xs[i - 1]? = some y := ⟨_, List.getElem?_eq_getElem (by omega)⟩
      have ldy := hload_grow g3 (hla (i - 1) (.int .i64 (y : Nat)) (by unfold iL; rw [List.getElem?_map, hy]; rfl))
      have hyx : y < x := by
        obtain ⟨h1, e1⟩ := List.getElem?_eq_some_iff.1 hx
        obtain ⟨h2, e2⟩ := List.getElem?_eq_some_iff.1 hy
        have := List.pairwise_iff_getElem.1 hs (i - 1) i h2 h1 (by omega)
        omega
      have hz' : (0 : Int) < i := by omega
      have e3 : IntKind.i64.wrap ((i : Int) - 1) = ((i - 1 : Nat) : Int) := by rw [wrap_i64 (by omega) (by omega)]; omega
      have hi1 : i - 1 < N := by omega
      have hc : ¬ (x : Int) ≤ y := by omega
      have hc' : ¬ x ≤ y := by omega
      simp [hiN, ld, hz, hz', e3, hi1, ldy, hc, hc', skipV]
      refine got_call (Put_spec s3 c3 hxn true) ?_
      rintro _ h4 ⟨rfl, w4, s4, c4, hb4, ch4⟩
      simp [e4]
      exact ⟨N - (i + 1), by omega, hI _ _ _ _ (fin h4 w4 s4 c4 hb4 ch4) (by simp [ptr])⟩
    · have hz' : ¬ (0 : Int) < i := by omega
      simp [hiN, ld, hz, hz', skipV]
      refine got_call (Put_spec s3 c3 hxn true) ?_
      rintro _ h4 ⟨rfl, w4, s4, c4, hb4, ch4⟩
      simp [e4]
      exact ⟨N - (i + 1), by omega, hI _ _ _ _ (fin h4 w4 s4 c4 hb4 ch4) (by simp [ptr])⟩
  have hiN : i = N := by omega
  simp
  refine got_call (own_made (g3.ro.trans hro) s3 c3 g3.l hp2 hq2 (B := fun i => decide (i ∈ xs)) (fun j _ => by rw [hb3, hiN, ← hN, List.take_length])) ?_
  rintro v' h6 m6
  obtain ⟨w6, p6, q6, S6, c6, hb6, g6, hp6, hq6⟩ := m6
  simp
  exact hQ _ _ ⟨v', rfl, w6, p6, q6, S6, c6, hb6, g6, hp6, hq6⟩

end Go.Ax
