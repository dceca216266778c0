/- Seat frame: the least and the greatest, codes, widths, frames put. -/
import Derived.Test.YthfgelbbcdgopaaFE
namespace Go.Ax
set_option linter.unusedVariables false
set_option linter.unusedSimpArgs false

def numI (cs : List Int) (i : Nat) : Int := cs.getD i 0
theorem numI_get {cs : List Int} {i : Nat} (hi : i < cs.length) : (cs.map iv)[i]? = some (.int .i64 (numI cs i)) := by
  unfold numI
  rw [List.getElem?_map, List.getElem?_eq_getElem hi, List.getD_eq_getElem?_getD, List.getElem?_eq_getElem hi]; rfl
def minI (cs : List Int) : Nat → Int
  | 0 => numI cs 0
  | i + 1 => min (minI cs i) (numI cs i)
def maxI (cs : List Int) : Nat → Int
  | 0 => numI cs 0
  | i + 1 => max (maxI cs i) (numI cs i)

theorem minI_le (cs : List Int) : ∀ {n i : Nat}, i < n → minI cs n ≤ numI cs i
  | 0, i, h => by omega
  | n + 1, i, h => by
    rw [minI]
    by_cases hi : i = n
    · subst hi; omega
    · have := minI_le cs (n := n) (i := i) (by omega); omega
theorem le_maxI (cs : List Int) : ∀ {n i : Nat}, i < n → numI cs i ≤ maxI cs n
  | 0, i, h => by omega
  | n + 1, i, h => by
    rw [maxI]
    by_cases hi : i = n
    · subst hi; omega
    · have := le_maxI cs (n := n) (i := i) (by omega); omega
theorem minI_mem (cs : List Int) : ∀ n, 0 < n → ∃ i, i < n ∧ minI cs n = numI cs i
  | 0, h => by omega
  | 1, _ => ⟨0, by omega, by simp [minI]⟩
  | n + 2, _ => by
    obtain ⟨i, h1, h2⟩ := minI_mem cs (n + 1) (by omega)
    rw [minI]
    by_cases h : minI cs (n + 1) ≤ numI cs (n + 1)
    · exact ⟨i, by omega, by omega⟩
    · exact ⟨n + 1, by omega, by omega⟩
theorem maxI_mem (cs : List Int) : ∀ n, 0 < n → ∃ i, i < n ∧ maxI cs n = numI cs i
  | 0, h => by omega
  | 1, _ => ⟨0, by omega, by simp [maxI]⟩
  | n + 2, _ => by
    obtain ⟨i, h1, h2⟩ := maxI_mem cs (n + 1) (by omega)
    rw [maxI]
    by_cases h : numI cs (n + 1) ≤ maxI cs (n + 1)
    · exact ⟨i, by omega, by omega⟩
    · exact ⟨n + 1, by omega, by omega⟩

theorem iad_zero {h : Heap} {a : Addr} {N c : Nat} (hN : 0 < N) : iadR h 1 (.slice (some a) N c) (.int .i64 0) = some (.pointer (some a), h) := by
  have := iad_nat (h := h) (es := 1) (j := 0) (len := N) (c := c) (a := a) (kd := .i64) hN
  simpa using this

theorem Min_spec {h : Heap} {v : Value} {cs : List Int} (r : Reads h v (cs.map iv)) (hl : cs.length ≤ 140737488351232) (h0 : 0 < cs.length) :
    Gives P T (.fn F_slices_Min_int64_int64) [v] h fun r h' => r = .int .i64 (minI cs cs.length) ∧ h' = h := by
  obtain ⟨b, c, rfl, hr⟩ := r.shape
  simp only [List.length_map] at hr ⊢
  obtain ⟨N, hN⟩ : ∃ N, cs.length = N := ⟨_, rfl⟩
  rw [hN] at hr hl h0 ⊢
  refine gives_by t_slices_Min_int64_int64 (by simp [c_slices_Min_int64_int64]) fun Q hQ => ?_
  have n1 : ¬ (N : Int) < 1 := by omega
  have n2 : ¬ N = 0 := by omega
  obtain ⟨a, rfl, hla⟩ := hr 0 h0
  have hld := hla 0 _ (numI_get (by omega))
  simp only [aadd_zero] at hld
  simp [c_slices_Min_int64_int64, n1, n2, iad_zero h0, hld]
  refine go_loopK (fun kk ks h2 => ∃ (i : Nat), kk = N - i ∧ 1 ≤ i ∧ i ≤ N ∧ ks = [(0, .slice (some a) N c), (3, .int .i64 (minI cs i)), (4, .int .i64 i)] ∧ h2 = h) (n := N - 1) ⟨1, rfl, by omega, by omega, rfl, rfl⟩ (by simp [minI]) ?_
  rintro I hI kk ks e h3 ⟨i, rfl, hi1, hi, rfl, rfl⟩
  simp
  refine branch_dec (fun hlt => ?_) (fun hge => ?_)
  · have hil : i < N := by omega
    have e4 : IntKind.i64.wrap ((i : Int) + 1) = ((i + 1 : Nat) : Int) := by rw [wrap_i64 (by omega) (by omega)]; omega
    have hld2 := hla i _ (numI_get (by omega))
    simp [hil, hld2, e4]
    exact ⟨N - (i + 1), by omega, hI _ _ _ _ ⟨i + 1, rfl, by omega, by omega, rfl, rfl⟩ (by simp [minI])⟩
  · have hil : i = N := by omega
    subst hil
    simp
    exact hQ _ _ ⟨rfl, rfl⟩

theorem Max_spec {h : Heap} {v : Value} {cs : List Int} (r : Reads h v (cs.map iv)) (hl : cs.length ≤ 140737488351232) (h0 : 0 < cs.length) :
    Gives P T (.fn F_slices_Max_int64_int64) [v] h fun r h' => r = .int .i64 (maxI cs cs.length) ∧ h' = h := by
  obtain ⟨b, c, rfl, hr⟩ := r.shape
  simp only [List.length_map] at hr ⊢
  obtain ⟨N, hN⟩ : ∃ N, cs.length = N := ⟨_, rfl⟩
  rw [hN] at hr hl h0 ⊢
  refine gives_by t_slices_Max_int64_int64 (by simp [c_slices_Max_int64_int64]) fun Q hQ => ?_
  have n1 : ¬ (N : Int) < 1 := by omega
  have n2 : ¬ N = 0 := by omega
  obtain ⟨a, rfl, hla⟩ := hr 0 h0
  have hld := hla 0 _ (numI_get (by omega))
  simp only [aadd_zero] at hld
  simp [c_slices_Max_int64_int64, n1, n2, iad_zero h0, hld]
  refine go_loopK (fun kk ks h2 => ∃ (i : Nat), kk = N - i ∧ 1 ≤ i ∧ i ≤ N ∧ ks = [(0, .slice (some a) N c), (3, .int .i64 (maxI cs i)), (4, .int .i64 i)] ∧ h2 = h) (n := N - 1) ⟨1, rfl, by omega, by omega, rfl, rfl⟩ (by simp [maxI]) ?_
  rintro I hI kk ks e h3 ⟨i, rfl, hi1, hi, rfl, rfl⟩
  simp
  refine branch_dec (fun hlt => ?_) (fun hge => ?_)
  · have hil : i < N := by omega
    have e4 : IntKind.i64.wrap ((i : Int) + 1) = ((i + 1 : Nat) : Int) := by rw [wrap_i64 (by omega) (by omega)]; omega
    have hld2 := hla i _ (numI_get (by omega))
    simp [hil, hld2, e4]
    exact ⟨N - (i + 1), by omega, hI _ _ _ _ ⟨i + 1, rfl, by omega, by omega, rfl, rfl⟩ (by simp [maxI])⟩
  · have hil : i = N := by omega
    subst hil
    simp
    exact hQ _ _ ⟨rfl, rfl⟩

/-- The base of numbers. -/
def baseL (cs : List Int) : Int := if cs.length = 0 then 0 else minI cs cs.length

theorem base_spec {h : Heap} {v : Value} {cs : List Int} (r : Reads h v (cs.map iv)) (hl : cs.length ≤ 140737488351232) :
    Gives P T (.fn F_frame_base) [v] h fun r h' => r = .int .i64 (baseL cs) ∧ h' = h := by
  obtain ⟨b, c, ev, hr⟩ := r.shape
  simp only [List.length_map] at ev hr
  have hlen : lenR h v = some (.int .i64 cs.length, h) := by rw [ev]; simp
  refine gives_by t_frame_base (by simp [c_frame_base]) fun Q hQ => ?_
  unfold baseL at hQ
  by_cases h0 : cs.length = 0
  · rw [if_pos h0] at hQ
    simp [c_frame_base, hlen, h0]
    exact hQ _ _ ⟨rfl, rfl⟩
  · rw [if_neg h0] at hQ
    have hne : ¬ cs = [] := fun e => h0 (by rw [e]; rfl)
    simp [c_frame_base, hlen, hne]
    refine got_call (Min_spec r hl (by omega)) ?_
    rintro _ _ ⟨rfl, rfl⟩
    simp
    exact hQ _ _ ⟨rfl, rfl⟩

/-- The code of a number over a base. -/
def codeI (base v : Int) : BitVec 64 := if v < base then 0#64 else BitVec.ofInt 64 v - BitVec.ofInt 64 base

theorem Drop_spec {h : Heap} {base v : Int} : Gives P T (.fn F_frame_Drop) [.int .i64 base, .int .i64 v] h fun r h' => r = .tuple #[.int .u64 (wi (codeI base v)), .bool (decide (¬ v < base))] ∧ h' = h := by
  refine gives_by t_frame_Drop (by simp [c_frame_Drop]) fun Q hQ => ?_
  unfold codeI at hQ
  by_cases h1 : v < base
  · rw [if_pos h1] at hQ
    simp [c_frame_Drop, h1]
    exact hQ _ _ ⟨by simp [h1], rfl⟩
  · rw [if_neg h1] at hQ
    have e1 := wrap_wi base
    have e2 := wrap_wi v
    simp [c_frame_Drop, h1, e1, e2]
    exact hQ _ _ ⟨by simp [h1], rfl⟩

theorem above_spec {h : Heap} {v : Value} {cs : List Int} (r : Reads h v (cs.map iv)) (hl : cs.length * 8 ≤ 140737488351232) (base : Int) :
    Gives P T (.fn F_frame_above) [v, .int .i64 base] h fun r h' => ∃ q, Own h' r q ((cs.map (codeI base)).map (kv .u64)) ∧ Grow h h' ∧ h.dyn.length ≤ q ∧ q < h'.dyn.length := by
  obtain ⟨b, c, rfl, hr⟩ := r.shape
  simp only [List.length_map] at hr ⊢
  obtain ⟨N, hN⟩ : ∃ N, cs.length = N := ⟨_, rfl⟩
  rw [hN] at hr hl ⊢
  refine gives_by t_frame_above (by simp [c_frame_above]) fun Q hQ => ?_
  simp [c_frame_above, mkS_nat (h := h) (bytes := 8) (n := N) (z := .int .u64 0) (by omega) (by omega)]
  refine go_loopK (fun kk ks h2 => ∃ (i : Nat) (L : List Value), kk = N - i ∧ i ≤ N ∧ ks = [(1, .int .i64 base), (5, .slice (some ⟨h.dyn.length, 0, some 0⟩) N N), (11, .slice b N c), (12, .int .i64 N), (13, .int .i64 i)] ∧ L.length = N ∧ (∀ j, j < i → L[j]? = some (.int .u64 (wi (codeI base (numI cs j))))) ∧ RowAt h2 h.dyn.length 0 1 L ∧ Grow h h2) (n := N)
    ⟨0, List.replicate N (.int .u64 0), rfl, by omega, rfl, by simp, fun j hj => by omega, RowAt.new _ _ _, Grow.new _ _ _⟩ (by simp) ?_
  rintro I2 hI2 kk2 ks2 e2 h4 ⟨i, L, rfl, hi, rfl, hL, hv, row, gg⟩
  simp
  refine branch_dec (fun hlt => ?_) (fun hge => ?_)
  · have hin : i < N := by omega
    have e4 : IntKind.i64.wrap ((i : Int) + 1) = ((i + 1 : Nat) : Int) := by rw [wrap_i64 (by omega) (by omega)]; omega
    obtain ⟨a, rfl, hla⟩ := hr i hin
    have hld := hload_grow gg (hla i _ (numI_get (by omega)))
    simp [hin, hld]
    refine got_call Drop_spec ?_
    rintro _ _ ⟨rfl, rfl⟩
    rename_i h4
    obtain ⟨h5, es, row5, c5, n5⟩ := row.store (i := i) (by omega) (x := .int .u64 (wi (codeI base (numI cs i)))) (by simp)
    simp [hin, es, e4]
    refine ⟨N - (i + 1), by omega, hI2 _ _ _ _ ⟨i + 1, _, rfl, by omega, rfl, by simpa using hL, fun j hj => ?_, row5, gg.after c5 (fun n hn hb => by omega)⟩ (by simp)⟩
    by_cases hji : j = i
    · subst hji; rw [List.getElem?_set_self (by omega)]
    · rw [List.getElem?_set_ne (fun e => hji e.symm)]; exact hv j (by omega)
  · have hin : i = N := by omega
    subst hin
    simp
    have hLe : L = (cs.map (codeI base)).map (kv .u64) := by
      apply List.ext_getElem?
      intro j
      by_cases hj : j < i
      · rw [hv j hj, List.getElem?_map, List.getElem?_map, List.getElem?_eq_getElem (by omega)]
        simp [kv, numI, List.getD_eq_getElem?_getD, List.getElem?_eq_getElem (show j < cs.length by omega)]
      · rw [List.getElem?_eq_none (by omega), List.getElem?_eq_none (by simp; omega)]
    subst hLe
    exact hQ _ _ ⟨h.dyn.length, .inr (.inr ⟨0, [], by simp [hN], by simp [hN]; unfold gcap; omega, by simpa using row⟩), gg, Nat.le_refl _, row.lt⟩

end Go.Ax
