/- Seat sel: a selection, its methods, and what is made of a set. -/
import Derived.Test.YtahllahgeldjcaaDoorSC
import Derived.Test.YtahllahgeldjcaaDoorYH
import Derived.Test.YtahllahgeldjcaaDoorYL
namespace Go.Ax
open Go.Proofs
set_option linter.unusedVariables false
set_option linter.unusedSimpArgs false
set_option maxRecDepth 100000

theorem SetAt.growL {h h' : Heap} {p q n : Nat} {ws : List (BitVec 64)} (s : SetAt h p q n ws) (g : GrowL h h') : SetAt h' p q n ws := s.chgL g id id
theorem Own.growL {h h' : Heap} {v : Value} {q : Nat} {l : List Value} (o : Own h v q l) (g : GrowL h h') : Own h' v q l := o.chgL g id

/-- A selection: by a set, or by a list. -/
def SelV (h : Heap) (v : Value) (n : Nat) (ws : List (BitVec 64)) (f : Bool) (p q : Nat) : Prop :=
  (f = false ∧ v = .iface 53 (.agg #[ptr p]) ∧ SetAt h p q n ws) ∨ (f = true ∧ p = q ∧ ∃ sl, v = .iface 80 (.agg #[.int .i64 n, sl]) ∧ Own h sl q (iL (filt (bit ws) n)))

def fewB (ws : List (BitVec 64)) (n : Nat) : Bool := decide (32 * cnt (bit ws) n ≤ n)

theorem SelV.growL {h h' : Heap} {v : Value} {n p q : Nat} {ws : List (BitVec 64)} {f : Bool} (S : SelV h v n ws f p q) (g : GrowL h h') : SelV h' v n ws f p q := by
  rcases S with ⟨e, e2, s⟩ | ⟨e, e2, sl, e3, o⟩
  · exact .inl ⟨e, e2, s.growL g⟩
  · exact .inr ⟨e, e2, sl, e3, o.growL g⟩

theorem iL_good (xs : List Nat) : (iL xs).all goodC = true := by rw [List.all_eq_true]; intro x hx; unfold iL at hx; rw [List.mem_map] at hx; obtain ⟨y, _, rfl⟩ := hx; simp

theorem filt_mem {f : Nat → Bool} {n j : Nat} : j ∈ filt f n ↔ j < n ∧ f j = true := by unfold filt; rw [List.mem_filter, List.mem_range]

theorem filt_le (f : Nat → Bool) (n : Nat) : (filt f n).length ≤ n := by rw [filt_len]; exact cnt_le _ _

theorem few_spec {h : Heap} {c n : Nat} (hc : c ≤ 1000000000) : Gives P T (.fn F_sel_few) [.int .i64 c, .int .i64 n] h fun v h' => v = .bool (decide (32 * c ≤ n)) ∧ h' = h := by
  refine gives_by t_sel_few (by simp [c_sel_few]) fun Q hQ => ?_
  have e : IntKind.i64.wrap (32 * (c : Int)) = ((32 * c : Nat) : Int) := by rw [wrap_i64 (by omega) (by omega)]; omega
  have e2 : decide (((32 * c : Nat) : Int) ≤ n) = decide (32 * c ≤ n) := by
    by_cases h : 32 * c ≤ n
    · have : ((32 * c : Nat) : Int) ≤ n := by omega
      rw [decide_eq_true this, decide_eq_true h]
    · have : ¬ ((32 * c : Nat) : Int) ≤ n := by omega
      rw [decide_eq_false this, decide_eq_false h]
  simp only [c_sel_few]
  simp [e]
  exact hQ _ _ ⟨by rw [← e2]; simp, rfl⟩

theorem own_spec {h : Heap} {L : Nat → Nat → Option Value} (hro : h.ro = roBlk tabG L) {p q n : Nat} {ws : List (BitVec 64)} (s : SetAt h p q n ws) (cn : Canon n ws) :
    Gives P T (.fn F_sel_own) [ptr p] h fun v h' => ∃ p' q', SelV h' v n ws (fewB ws n) p' q' ∧ GrowL h h' ∧ (p' = p ∧ q' = q ∨ h.dyn.length ≤ p' ∧ h.dyn.length ≤ q') := by
  have hn := cn.le
  have hcl := cnt_le (bit ws) n
  refine gives_by t_sel_own (by simp [c_sel_own]) fun Q hQ => ?_
  simp [c_sel_own]
  refine got_call (count_spec s cn) ?_
  rintro _ _ ⟨rfl, rfl⟩
  rename_i h
  simp
  refine got_call (len_spec s) ?_
  rintro _ _ ⟨rfl, rfl⟩
  rename_i h
  simp
  refine got_call (few_spec (by omega)) ?_
  rintro _ _ ⟨rfl, rfl⟩
  rename_i h
  by_cases hf : 32 * cnt (bit ws) n ≤ n
  · simp [hf]
    refine got_call (len_spec s) ?_
    rintro _ _ ⟨rfl, rfl⟩
    rename_i h
    simp
    refine got_call (All_spec (by simp [ptr])) ?_
    rintro _ _ ⟨rfl, rfl⟩
    have g1 := Grow.new h [ptr p] 0
    simp
    refine got_call (collect_spec (L := L) (g1.ro.trans hro) ((RowAt.new h [ptr p] 0).get (i := 0) rfl) (s.grow g1) cn) ?_
    rintro v h' ⟨q', o, g, hq, _⟩
    simp at hq
    simp [o.good]
    exact hQ _ _ ⟨q', q', .inr ⟨by simp [fewB, hf], rfl, v, rfl, o⟩, g1.l.trans g, .inr ⟨by omega, by omega⟩⟩
  · simp [hf, ptr]
    exact hQ _ _ ⟨p, q, .inl ⟨by simp [fewB, hf], rfl, s⟩, (Chg.refl h).l, .inl ⟨rfl, rfl⟩⟩

theorem clone_own {h : Heap} {v : Value} {q : Nat} {l : List Value} (o : Own h v q l) (hg : l.all goodC = true) (hl : l.length ≤ 1000000000) :
    Gives P T (.fn F_slices_Clone_int_int) [v] h fun v h' => ∃ q', Own h' v q' l ∧ Grow h h' ∧ h.dyn.length ≤ q' ∧ (v ≠ nilS → q' < h'.dyn.length) := by
  refine gives_by t_slices_Clone_int_int (by simp [c_slices_Clone_int_int]) fun Q hQ => ?_
  by_cases hv : v = nilS
  · have hl0 : l = [] := by
      rcases o with ⟨_, e⟩ | ⟨u, e, _⟩ | ⟨u, rest, e, _⟩
      · exact e
      · rw [hv] at e; simp [nilS] at e
      · rw [hv] at e; simp [nilS] at e
    subst hv hl0
    simp [c_slices_Clone_int_int, nilS]
    exact hQ _ _ ⟨h.dyn.length, Own.nil _ _, Chg.refl _, Nat.le_refl _, fun h => absurd rfl h⟩
  · obtain ⟨v1, h3, q1, e1, o1, g1, hq1, hl1, _⟩ := clone_any (bytes := 8) (z := .int .i64 0) o.reads hg (by omega) (by omega)
    have hs : ∃ a c, v = .slice (some a) l.length c := by
      rcases o with ⟨e, _⟩ | ⟨u, e, _⟩ | ⟨u, rest, e, _⟩
      · exact absurd e hv
      · exact ⟨_, _, e⟩
      · exact ⟨_, _, e⟩
    obtain ⟨a, c, rfl⟩ := hs
    simp [c_slices_Clone_int_int, e1]
    exact hQ _ _ ⟨q1, o1, g1, hq1, fun _ => hl1⟩

section
variable {h : Heap} {v : Value} {n p q : Nat} {ws : List (BitVec 64)} {f : Bool} {K : Value → Heap → Prop}

theorem got_len (S : SelV h v n ws f p q) (i : ∀ h', Grow h h' → K (.int .i64 n) h') : got (callR (acallW P T) h (inv P h "Len" v [])) K := by
  rcases S with ⟨_, rfl, s⟩ | ⟨_, _, sl, rfl, o⟩
  · simp [ptr]
    refine got_call (len_spec s) ?_
    rintro _ _ ⟨rfl, rfl⟩
    exact i _ (Chg.refl _)
  · have hg := o.good
    simp
    refine got_call (R := fun v h' => v = .int .i64 n ∧ Grow h h') ?_ ?_
    · refine gives_by t_sel_Sparse_Len (by simp [c_sel_Sparse_Len]) fun Q hQ => ?_
      simp [c_sel_Sparse_Len, sparseC, hg, (RowAt.new h [.int .i64 n, sl] 0).get (i := 0) rfl]
      exact hQ _ _ ⟨rfl, Grow.new _ _ _⟩
    · rintro _ h' ⟨rfl, g⟩
      exact i _ g

theorem got_count (S : SelV h v n ws f p q) (cn : Canon n ws) (i : ∀ h', Grow h h' → K (.int .i64 (cnt (bit ws) n)) h') : got (callR (acallW P T) h (inv P h "Count" v [])) K := by
  rcases S with ⟨_, rfl, s⟩ | ⟨_, _, sl, rfl, o⟩
  · simp [ptr]
    refine got_call (count_spec s cn) ?_
    rintro _ _ ⟨rfl, rfl⟩
    exact i _ (Chg.refl _)
  · have hg := o.good
    obtain ⟨b, c, rfl, _⟩ := o.shape
    simp
    refine got_call (R := fun v h' => v = .int .i64 (cnt (bit ws) n) ∧ Grow h h') ?_ ?_
    · refine gives_by t_sel_Sparse_Count (by simp [c_sel_Sparse_Count]) fun Q hQ => ?_
      have r := (RowAt.new h [.int .i64 n, .slice b (iL (filt (bit ws) n)).length c] 0).get (i := 1) rfl
      simp [c_sel_Sparse_Count, sparseC, hg, r]
      exact hQ _ _ ⟨by rw [iL_len, filt_len], Grow.new _ _ _⟩
    · rintro _ h' ⟨rfl, g⟩
      exact i _ g

theorem got_list {L : Nat → Nat → Option Value} (hro : h.ro = roBlk tabG L) (S : SelV h v n ws f p q) (cn : Canon n ws) (i : ∀ u q2 h', Own h' u q2 (iL (filt (bit ws) n)) → GrowL h h' → h.dyn.length ≤ q2 → (u ≠ nilS → q2 < h'.dyn.length) → K u h') : got (callR (acallW P T) h (inv P h "List" v [])) K := by
  have hn := cn.le
  have hfl := filt_le (bit ws) n
  rcases S with ⟨_, rfl, s⟩ | ⟨_, _, sl, rfl, o⟩
  · simp [ptr]
    refine got_call (R := fun v h' => ∃ q2, Own h' v q2 (iL (filt (bit ws) n)) ∧ GrowL h h' ∧ h.dyn.length ≤ q2 ∧ (v ≠ nilS → q2 < h'.dyn.length)) ?_ ?_
    · refine gives_by t_sel_Dense_List (by simp [c_sel_Dense_List]) fun Q hQ => ?_
      have g1 := Grow.new h [ptr p] 0
      have r := (RowAt.new h [ptr p] 0).get (i := 0) rfl
      simp only [ptr] at r
      simp [c_sel_Dense_List, ptr, r]
      refine got_call (All_spec (by simp)) ?_
      rintro _ _ ⟨rfl, rfl⟩
      have g2 := Grow.new (hnew h [ptr p] 0) [ptr p] 0
      simp [-hnew_len]
      refine got_call (collect_spec (L := L) ((g1.trans g2).ro.trans hro) ((RowAt.new (hnew h [ptr p] 0) [ptr p] 0).get (i := 0) rfl) ((s.grow g1).grow g2) cn) ?_
      rintro v h' ⟨q', o, g, hq, hl⟩
      simp at hq
      simp
      exact hQ _ _ ⟨q', o, (g1.trans g2).l.trans g, by omega, hl⟩
    · rintro u h' ⟨q2, o, g, hq, hl⟩
      exact i u q2 h' o g hq hl
  · have hg := o.good
    simp
    refine got_call (R := fun v h' => ∃ q2, Own h' v q2 (iL (filt (bit ws) n)) ∧ GrowL h h' ∧ h.dyn.length ≤ q2 ∧ (v ≠ nilS → q2 < h'.dyn.length)) ?_ ?_
    · refine gives_by t_sel_Sparse_List (by simp [c_sel_Sparse_List]) fun Q hQ => ?_
      have g1 := Grow.new h [.int .i64 n, sl] 0
      have r := (RowAt.new h [.int .i64 n, sl] 0).get (i := 1) rfl
      simp [c_sel_Sparse_List, sparseC, hg, r]
      refine got_call (clone_own (o.grow g1) (iL_good _) (by rw [iL_len]; omega)) ?_
      rintro v h' ⟨q', o, g, hq, hl⟩
      simp at hq
      simp
      exact hQ _ _ ⟨q', o, (g1.trans g).l, by omega, hl⟩
    · rintro u h' ⟨q2, o, g, hq, hl⟩
      exact i u q2 h' o g hq hl

end

end Go.Ax
