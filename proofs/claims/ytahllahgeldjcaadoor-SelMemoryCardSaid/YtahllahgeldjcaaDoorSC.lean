/- Seat sel: the numbers of a set, gathered. -/
import Derived.Test.YtahllahgeldjcaaDoorSB
import Derived.Test.YtahllahgeldjcaaDoorYV
namespace Go.Ax
open Go.Proofs
set_option linter.unusedVariables false
set_option linter.unusedSimpArgs false
set_option maxRecDepth 100000

theorem GrowL.trans {a b c : Heap} (g : GrowL a b) (k : GrowL b c) : GrowL a c := Chg.trans g k
theorem GrowL.len' {a b : Heap} (g : GrowL a b) : a.dyn.length ≤ b.dyn.length := g.len
theorem GrowL.after {S : Nat → Prop} {a b c : Heap} (g : GrowL a b) (k : Chg S b c) (i : ∀ n, n < a.dyn.length → ¬ S n) : GrowL a c := Chg.after g k.l fun n hn hs => i n hn hs

theorem Own.at {h : Heap} {v : Value} {q : Nat} {l : List Value} (o : Own h v q l) (k : Nat) : ∃ q', Own h v q' l ∧ (v ≠ nilS ∧ q' = q ∨ v = nilS ∧ q' = k) := by
  by_cases hv : v = nilS
  · rcases o with ⟨_, e⟩ | ⟨u, e, _⟩ | ⟨u, rest, e, _⟩
    · exact ⟨k, .inl ⟨hv, e⟩, .inr ⟨hv, rfl⟩⟩
    · rw [hv] at e; simp [nilS] at e
    · rw [hv] at e; simp [nilS] at e
  · exact ⟨q, o, .inl ⟨hv, rfl⟩⟩

/-- A thing more, by way of a cell that holds the list. -/
theorem cell_push {h : Heap} {d q : Nat} {u x : Value} {l : List Value} (rb : RowAt h d 0 0 [u]) (o : Own h u q l) (hd : u ≠ nilS → d < q) (hg : goodC x = true) (hl : l.length ≤ 1000000000) :
    ∃ u' h1 h2 q', aappend (hnew h [x] 1) 1 8 [.int .i64 0] u (.slice (some ⟨h.dyn.length, 0, some 0⟩) 1 1) = some (u', h1) ∧ goodC u' = true ∧ hstore h1 ⟨d, 0, some 0⟩ u' = some h2 ∧ RowAt h2 d 0 0 [u'] ∧ Own h2 u' q' (l ++ [x]) ∧
      Chg (fun b => b = q ∧ u ≠ nilS ∨ b = d) h h2 ∧ d < q' ∧ q' < h2.dyn.length ∧ (q' = q ∧ u ≠ nilS ∨ h.dyn.length ≤ q') := by
  obtain ⟨u', h1, q', e, o1, c1, l1, d1⟩ := o.push (bytes := 8) (z := .int .i64 0) (x := x) hg (by omega) (by omega)
  have hdl := rb.lt
  have rb1 := rb.chg c1 fun e => by have := hd e.2; have := e.1; omega
  obtain ⟨h2, e2, rb2, c2, n2⟩ := rb1.put (y := u') o1.good
  have hdq : d < q' := by
    rcases d1 with ⟨h3, h4⟩ | h3
    · have := hd h4; omega
    · omega
  refine ⟨u', h1, h2, q', e, o1.good, e2, rb2, o1.chg c2 (fun e => by omega), (c1.mono fun b _ e => .inl e).trans (c2.mono fun b _ e => .inr e), hdq, by omega, ?_⟩
  rcases d1 with h3 | h3
  · exact .inl h3
  · exact .inr (by omega)

theorem append_seq {h : Heap} {L : Nat → Nat → Option Value} (hro : h.ro = roBlk tabG L) {p q n box : Nat} {ws : List (BitVec 64)} (hbox : hload h ⟨box, 0, some 0⟩ = some (ptr p)) (s : SetAt h p q n ws) (cn : Canon n ws) :
    Gives P T (.fn F_slices_AppendSeq_int_int) [.slice none 0 0, .func (.func F_bits_Set_All_1) #[] #[.pointer (some ⟨box, 0, some 0⟩)]] h fun v h' => ∃ q', Own h' v q' (iL (filt (bit ws) n)) ∧ GrowL h h' ∧ h.dyn.length ≤ q' ∧ (v ≠ nilS → q' < h'.dyn.length) := by
  refine gives_by t_slices_AppendSeq_int_int (by simp [c_slices_AppendSeq_int_int]) fun Q hQ => ?_
  simp [c_slices_AppendSeq_int_int]
  obtain ⟨d, hd⟩ : ∃ d, h.dyn.length = d := ⟨_, rfl⟩
  obtain ⟨h1, hh1⟩ : ∃ x, x = hnew h [.slice none 0 0] 0 := ⟨_, rfl⟩
  have g1 : Grow h h1 := by rw [hh1]; exact Grow.new _ _ _
  have rb : RowAt h1 d 0 0 [nilS] := by rw [hh1, ← hd]; exact RowAt.new _ _ _
  have n1 : h1.dyn.length = d + 1 := by rw [hh1]; simp [hd]
  have ro1 : h1.ro = roBlk tabG L := g1.ro.trans hro
  have hn16 := cn.le
  rw [hd, ← hh1]
  refine go_walk (L := L) ro1 (p := p) (q := q) (n := n) (ws := ws) (box := ⟨box, 0, some 0⟩) (by simp) (hload_grow g1 hbox) (s.grow g1) cn
    (fun w k h' => h'.ro = roBlk tabG L ∧ (ws ≠ [] → w < h'.dyn.length) ∧ d < w ∧ ∃ u q2 x, cnt (bit ws) x = k ∧ RowAt h' d 0 0 [u] ∧ Own h' u q2 (iL (filt (bit ws) x)) ∧ GrowL h h' ∧ (u ≠ nilS → d < q2) ∧ (u ≠ nilS → q2 ≠ w))
    (fun e h' => False) (fun w k h' m ⟨j1, j2, j3, u, q2, x, j4, j5, j6, j7, j8, j9⟩ => ⟨j1, j2, j3, u, q2, x, j4, (j5.lps m), (j6.lps m), j7.trans (growL_lps _ _), j8, j9⟩) (fun e h' m j => j)
    (fun w h' g hw hwl => ⟨g.ro.trans ro1, hwl, by omega, nilS, 0, 0, rfl, (rb.lps []).chg g id |>.unlps, .inl ⟨rfl, rfl⟩, g1.l.trans g, fun h => absurd rfl h, fun h => absurd rfl h⟩) (fun x => [(5, x), (7, x)]) (fun x h' => by simp) ?_ ?_ (fun e h' _ st => st.elim)
  · rintro w k x h' hw hxn hbx hck ⟨ro', hwl, hdw, u, q2, y, hy, rb', ou, gg, hdu, hlw⟩ ro'' lp lpl
    rw [filt_eq (hy.trans hck.symm)] at ou
    have hwsne : ws ≠ [] := by
      rintro rfl
      simp [bit, word] at hbx
    have hwl := hwl hwsne
    have hcx := cnt_le (bit ws) x
    obtain ⟨u', h2, h3, q3, e2, gu, e3, rb3, o3, c3, hd3, hl3, d3⟩ := cell_push (x := .int .i64 (x : Nat)) rb' ou hdu (by simp) (by rw [iL_len, filt_len]; omega)
    have hq2w : u' ≠ nilS → q3 ≠ w := fun _ e => by
      rcases d3 with ⟨h4, h5⟩ | h4
      · exact hlw h5 (by omega)
      · omega
    have w3 : h3.dyn[w]? = h'.dyn[w]? := c3.same w hwl (by
      rintro (⟨h4, h5⟩ | h4)
      · exact hlw h5 h4.symm
      · omega)
    have k3 := c3.len
    have hcnt : cnt (bit ws) (x + 1) = k + 1 := by rw [cnt_step, hck, hbx]; rfl
    have hfl : iL (filt (bit ws) x) ++ [Value.int .i64 (x : Nat)] = iL (filt (bit ws) (x + 1)) := by rw [filt_step, hbx, if_pos rfl, iL_app]
    rw [hfl] at o3
    have gl := gg.len'
    have ro3 := c3.ro.trans ro'
    have gg3 : GrowL h h3 := gg.after c3 fun b hb e => by
      rcases e with ⟨h4, h5⟩ | h4
      · have := hdu h5; omega
      · omega
    simp [rb'.get (i := 0) rfl, e2, gu, e3]
    exact ⟨ro3.trans ro'.symm, w3, LP.of c3, ro3, by omega, hdw, u', q3, x + 1, hcnt, rb3, o3, gg3, fun _ => hd3, hq2w⟩
  rintro w h2 ⟨ro2, -, -, u, q2, y, hy, rb2, ou, gg, hdu, -⟩ lp2 _
  rw [filt_eq hy] at ou
  simp [rb2.get (i := 0) rfl]
  by_cases hu : u = nilS
  · obtain ⟨q3, o3, d3⟩ := ou.at d
    refine hQ _ _ ⟨q3, o3, gg, ?_, fun h => absurd hu h⟩
    rcases d3 with ⟨h3, _⟩ | ⟨_, h3⟩
    · exact absurd hu h3
    · omega
  · exact hQ _ _ ⟨q2, ou, gg, by have := hdu hu; omega, fun _ => ou.lt' hu⟩

theorem collect_spec {h : Heap} {L : Nat → Nat → Option Value} (hro : h.ro = roBlk tabG L) {p q n box : Nat} {ws : List (BitVec 64)} (hbox : hload h ⟨box, 0, some 0⟩ = some (ptr p)) (s : SetAt h p q n ws) (cn : Canon n ws) :
    Gives P T (.fn F_slices_Collect_int) [.func (.func F_bits_Set_All_1) #[] #[.pointer (some ⟨box, 0, some 0⟩)]] h fun v h' => ∃ q', Own h' v q' (iL (filt (bit ws) n)) ∧ GrowL h h' ∧ h.dyn.length ≤ q' ∧ (v ≠ nilS → q' < h'.dyn.length) := by
  refine gives_by t_slices_Collect_int (by simp [c_slices_Collect_int]) fun Q hQ => ?_
  simp [c_slices_Collect_int]
  refine got_call (append_seq hro hbox s cn) ?_
  rintro v h' hv
  simp
  exact hQ _ _ hv

end Go.Ax
