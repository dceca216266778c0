/- Seat frame: widths, frames put. -/
import Derived.Test.YthfgelbbcdgopaaFF
namespace Go.Ax
set_option linter.unusedVariables false
set_option linter.unusedSimpArgs false

/-- The least width as differences. -/
def fwE (cs : List Int) : Nat := if cs.length = 0 then 0 else blen (codeI (minI cs cs.length) (maxI cs cs.length)).toNat
/-- The least width as they are. -/
def pwE (cs : List Int) : Nat := if cs.length = 0 then 0 else blen (BitVec.ofInt 64 (maxI cs cs.length)).toNat

theorem FrameWidth_spec {h : Heap} {v : Value} {cs : List Int} (r : Reads h v (cs.map iv)) (hl : cs.length ≤ 140737488351232) :
    Gives P T (.fn F_frame_FrameWidth) [v] h fun r h' => r = .int .i64 (fwE cs : Nat) ∧ h' = h := by
  obtain ⟨b, c, ev, hr⟩ := r.shape
  simp only [List.length_map] at ev hr
  have hlen : lenR h v = some (.int .i64 cs.length, h) := by rw [ev]; simp
  refine gives_by t_frame_FrameWidth (by simp [c_frame_FrameWidth]) fun Q hQ => ?_
  unfold fwE at hQ
  by_cases h0 : cs.length = 0
  · rw [if_pos h0] at hQ
    simp [c_frame_FrameWidth, hlen, h0]
    exact hQ _ _ ⟨rfl, rfl⟩
  · rw [if_neg h0] at hQ
    have hne : ¬ cs = [] := fun e => h0 (by rw [e]; rfl)
    clear hr
    simp [c_frame_FrameWidth, hlen, hne]
    refine got_call (Min_spec r hl (by omega)) ?_
    rintro _ _ ⟨rfl, rfl⟩
    rename_i h
    simp
    refine got_call (Max_spec r hl (by omega)) ?_
    rintro _ _ ⟨rfl, rfl⟩
    rename_i h
    simp
    refine got_call Drop_spec ?_
    rintro _ _ ⟨rfl, rfl⟩
    rename_i h
    simp
    refine got_call Width_spec ?_
    rintro _ _ ⟨rfl, rfl⟩
    simp
    exact hQ _ _ ⟨rfl, rfl⟩

theorem PackedWidth_spec {h : Heap} {v : Value} {cs : List Int} (r : Reads h v (cs.map iv)) (hl : cs.length ≤ 140737488351232) :
    Gives P T (.fn F_frame_PackedWidth) [v] h fun r h' => r = (if baseL cs < 0 then .tuple #[.int .i64 0, .bool false] else .tuple #[.int .i64 (pwE cs : Nat), .bool true]) ∧ h' = h := by
  obtain ⟨b, c, ev, hr⟩ := r.shape
  simp only [List.length_map] at ev hr
  have hlen : ∀ h, lenR h v = some (.int .i64 cs.length, h) := fun h => by rw [ev]; simp
  refine gives_by t_frame_PackedWidth (by simp [c_frame_PackedWidth]) fun Q hQ => ?_
  clear hr
  simp [c_frame_PackedWidth]
  refine got_call (base_spec r hl) ?_
  rintro _ _ ⟨rfl, rfl⟩
  rename_i h
  by_cases hb : baseL cs < 0
  · rw [if_pos hb] at hQ
    simp [hb]
    exact hQ _ _ ⟨rfl, rfl⟩
  rw [if_neg hb] at hQ
  unfold pwE at hQ
  by_cases h0 : cs.length = 0
  · rw [if_pos h0] at hQ
    simp [hb, hlen, h0]
    exact hQ _ _ ⟨rfl, rfl⟩
  · rw [if_neg h0] at hQ
    have hne : ¬ cs = [] := fun e => h0 (by rw [e]; rfl)
    simp [hb, hlen, hne]
    refine got_call (Max_spec r hl (by omega)) ?_
    rintro _ _ ⟨rfl, rfl⟩
    rename_i h
    have e := wrap_wi (maxI cs cs.length)
    simp [e]
    refine got_call Width_spec ?_
    rintro _ _ ⟨rfl, rfl⟩
    simp
    exact hQ _ _ ⟨rfl, rfl⟩

/-- Eight bytes of a word. -/
def head8 (x : BitVec 64) (n : Nat) : List (BitVec 8) := (List.range n).map fun i => (x >>> (8 * i)).setWidth 8
theorem head8_len (x : BitVec 64) (n : Nat) : (head8 x n).length = n := by simp [head8]
theorem head8_get {x : BitVec 64} {n i : Nat} (hi : i < n) : byteA (head8 x n) i = (x >>> (8 * i)).setWidth 8 := by
  unfold byteA head8
  rw [List.getD_eq_getElem?_getD, List.getElem?_map, List.getElem?_range hi]; rfl

theorem PutFrame_bad {h : Heap} {v : Value} {cs : List Int} (r : Reads h v (cs.map iv)) {w : Int} (he : ¬ bytesE cs.length w = 0) :
    Gives P T (.fn F_frame_PutFrame) [v, .int .i64 w] h fun r h' => r = .tuple #[.slice none 0 0, .int .i64 (bytesE cs.length w)] ∧ h' = h := by
  obtain ⟨b, c, ev, hr⟩ := r.shape
  simp only [List.length_map] at ev hr
  have hlen : ∀ h, lenR h v = some (.int .i64 cs.length, h) := fun h => by rw [ev]; simp
  refine gives_by t_frame_PutFrame (by simp [c_frame_PutFrame]) fun Q hQ => ?_
  clear hr
  simp [c_frame_PutFrame, hlen]
  refine got_call (Bytes_bad he) ?_
  rintro _ _ ⟨rfl, rfl⟩
  simp [he]
  exact hQ _ _ ⟨rfl, rfl⟩

theorem PutPacked_bad {h : Heap} {v : Value} {cs : List Int} (r : Reads h v (cs.map iv)) {w : Int} (he : ¬ bytesE cs.length w = 0) :
    Gives P T (.fn F_frame_PutPacked) [v, .int .i64 w] h fun r h' => r = .tuple #[.slice none 0 0, .int .i64 (bytesE cs.length w)] ∧ h' = h := by
  obtain ⟨b, c, ev, hr⟩ := r.shape
  simp only [List.length_map] at ev hr
  have hlen : ∀ h, lenR h v = some (.int .i64 cs.length, h) := fun h => by rw [ev]; simp
  refine gives_by t_frame_PutPacked (by simp [c_frame_PutPacked]) fun Q hQ => ?_
  clear hr
  simp [c_frame_PutPacked, hlen]
  refine got_call (Bytes_bad he) ?_
  rintro _ _ ⟨rfl, rfl⟩
  simp [he]
  exact hQ _ _ ⟨rfl, rfl⟩

theorem PutPacked_spec {h : Heap} {v : Value} {cs : List Int} (r : Reads h v (cs.map iv)) {w : Nat} (hn : cs.length ≤ 16777216) (hw : w ≤ 64) :
    Gives P T (.fn F_frame_PutPacked) [v, .int .i64 w] h fun r h' => Grow h h' ∧ (((baseL cs < 0 ∨ ¬ allFit (cs.map (codeI 0)) w) ∧ r = .tuple #[.slice none 0 0, .int .i64 110]) ∨ ∃ u q bs, ¬ baseL cs < 0 ∧ allFit (cs.map (codeI 0)) w ∧ r = .tuple #[u, .int .i64 0] ∧ Own h' u q (bs.map bv) ∧ h.dyn.length ≤ q ∧ Packs (cs.map (codeI 0)) w bs ∧ u ≠ .slice none 0 0) := by
  obtain ⟨b, c, ev, hr⟩ := r.shape
  simp only [List.length_map] at ev hr
  have hlen : ∀ h, lenR h v = some (.int .i64 cs.length, h) := fun h => by rw [ev]; simp
  refine gives_by t_frame_PutPacked (by simp [c_frame_PutPacked]) fun Q hQ => ?_
  clear hr
  simp [c_frame_PutPacked, hlen]
  refine got_call (Bytes_spec hn hw) ?_
  rintro _ _ ⟨rfl, rfl⟩
  rename_i h
  simp
  refine got_call (base_spec r (by omega)) ?_
  rintro _ _ ⟨rfl, rfl⟩
  rename_i h
  by_cases hb : baseL cs < 0
  · simp [hb]
    exact hQ _ _ ⟨Chg.refl _, .inl ⟨.inl hb, rfl⟩⟩
  simp [hb]
  refine got_call (above_spec r (by omega) 0) ?_
  rintro u1 h1 ⟨q1, o1, g1, hq1, _⟩
  simp
  refine got_call (Pack_uint64_spec o1.reads (by simpa using hn) hw) ?_
  rintro _ h2 ⟨g2, ⟨hnf, rfl⟩ | ⟨u2, q2, bs, hf, rfl, o2, hq2, p2, hne⟩⟩
  · simp
    exact hQ _ _ ⟨g1.trans g2, .inl ⟨.inr hnf, rfl⟩⟩
  · simp
    have := g1.len
    exact hQ _ _ ⟨g1.trans g2, .inr ⟨u2, q2, bs, hb, hf, rfl, o2, by omega, p2, hne⟩⟩

theorem PutFrame_spec {h : Heap} {v : Value} {cs : List Int} (r : Reads h v (cs.map iv)) {w : Nat} (hn : cs.length ≤ 16777216) (hw : w ≤ 64) :
    Gives P T (.fn F_frame_PutFrame) [v, .int .i64 w] h fun r h' => Grow h h' ∧ ((¬ allFit (cs.map (codeI (baseL cs))) w ∧ r = .tuple #[.slice none 0 0, .int .i64 110]) ∨ ∃ u q bs, allFit (cs.map (codeI (baseL cs))) w ∧ r = .tuple #[u, .int .i64 0] ∧ Own h' u q ((head8 (BitVec.ofInt 64 (baseL cs)) 8 ++ bs).map bv) ∧ h.dyn.length ≤ q ∧ Packs (cs.map (codeI (baseL cs))) w bs) := by
  obtain ⟨b, c, ev, hr⟩ := r.shape
  simp only [List.length_map] at ev hr
  have hlen : ∀ h, lenR h v = some (.int .i64 cs.length, h) := fun h => by rw [ev]; simp
  refine gives_by t_frame_PutFrame (by simp [c_frame_PutFrame]) fun Q hQ => ?_
  clear hr
  have hb1 : cs.length * w ≤ 16777216 * 64 := Nat.mul_le_mul hn hw
  simp [c_frame_PutFrame, hlen]
  refine got_call (Bytes_spec hn hw) ?_
  rintro _ _ ⟨rfl, rfl⟩
  rename_i h
  simp
  refine got_call (base_spec r (by omega)) ?_
  rintro _ _ ⟨rfl, rfl⟩
  rename_i h
  simp
  refine got_call (above_spec r (by omega) (baseL cs)) ?_
  rintro u1 h1 ⟨q1, o1, g1, hq1, _⟩
  simp
  refine got_call (Pack_uint64_spec o1.reads (by simpa using hn) hw) ?_
  rintro _ h2 ⟨g2, ⟨hnf, rfl⟩ | ⟨u2, q2, bs, hf, rfl, o2, hq2, p2, hne⟩⟩
  · simp
    exact hQ _ _ ⟨g1.trans g2, .inl ⟨hnf, rfl⟩⟩
  have g12 := g1.trans g2
  simp
  refine got_call (base_spec (r.grow g12) (by omega)) ?_
  rintro _ _ ⟨rfl, rfl⟩
  rename_i h2
  obtain ⟨M, hM⟩ : ∃ M, bs.length = M := ⟨_, rfl⟩
  have hMl : M ≤ 200000000 := by rw [← hM, p2.len, List.length_map]; omega
  have hl2 : ∀ h, lenR h u2 = some (.int .i64 M, h) := fun h => by
    obtain ⟨b2, c2, e2, _⟩ := o2.shape
    rw [e2]; simp [hM]
  have f1 : IntKind.i64.wrap (8 + (M : Int)) = ((8 + M : Nat) : Int) := by rw [wrap_i64 (by omega) (by omega)]; omega
  obtain ⟨x, hx⟩ : ∃ x, BitVec.ofInt 64 (baseL cs) = x := ⟨_, rfl⟩
  have e1 := wrap_wi (baseL cs)
  rw [hx] at e1
  obtain ⟨K, hK⟩ : ∃ K, 8 + M = K := ⟨_, rfl⟩
  rw [hK] at f1
  have hmk : mkSR h2 1 1 [.int .u8 0] (.int .i64 8) (.int .i64 K) = some (.slice (some (hnext h2)) 8 K, hnew h2 (List.replicate K (.int .u8 0)) 1) := by
    unfold mkSR
    simp only
    rw [if_pos ⟨by omega, by omega, by omega, by omega, rfl⟩]
    have : ∀ n, (List.replicate n [Value.int .u8 0]).flatten = List.replicate n (.int .u8 0) := by
      intro n
      induction n with
      | zero => rfl
      | succ n ih => rw [List.replicate_succ, List.flatten_cons, ih]; rfl
    simp [this]
  simp [e1, hl2, f1, hmk]
  refine go_loopK (fun kk ks h3 => ∃ (i : Nat) (L : List Value), kk = 8 - i ∧ i ≤ 8 ∧ ks = [(8, u2), (10, .int .u64 (wi x)), (11, .slice (some ⟨h2.dyn.length, 0, some 0⟩) 8 K), (42, .int .i64 8), (43, .int .i64 i)] ∧ L.length = K ∧ (∀ j, j < i → L[j]? = some (.int .u8 (bi ((x >>> (8 * j)).setWidth 8)))) ∧ RowAt h3 h2.dyn.length 0 1 L ∧ Grow h2 h3) (n := 8)
    ⟨0, List.replicate K (.int .u8 0), rfl, by omega, rfl, by simp, fun j hj => by omega, RowAt.new _ _ _, Grow.new _ _ _⟩ (by simp) ?_
  rintro I2 hI2 kk2 ks2 e2 h4 ⟨i, L, rfl, hi, rfl, hL, hv, row, gg⟩
  simp
  by_cases hi8 : i < 8
  · have hi8' : (i : Int) < 8 := by omega
    have e4 : IntKind.i64.wrap ((i : Int) + 1) = ((i + 1 : Nat) : Int) := by rw [wrap_i64 (by omega) (by omega)]; omega
    have f2 : IntKind.i64.wrap (8 * (i : Int)) = ((8 * i : Nat) : Int) := by rw [wrap_i64 (by omega) (by omega)]; omega
    obtain ⟨s, hs⟩ : ∃ s, 8 * i = s := ⟨_, rfl⟩
    rw [hs] at f2
    obtain ⟨h5, es, row5, c5, n5⟩ := row.store (i := i) (by omega) (x := .int .u8 (bi ((x >>> s).setWidth 8))) (by simp)
    simp [hi8, hi8', f2, es, e4]
    refine ⟨8 - (i + 1), by omega, hI2 _ _ _ _ ⟨i + 1, _, rfl, by omega, rfl, by simpa using hL, fun j hj => ?_, row5, gg.after c5 (fun n hn hb => by omega)⟩ (by simp)⟩
    by_cases hji : j = i
    · subst hji; rw [List.getElem?_set_self (by omega), hs]
    · rw [List.getElem?_set_ne (fun e => hji e.symm)]; exact hv j (by omega)
  · have hi8e : i = 8 := by omega
    subst hi8e
    have own8 : Own h4 (.slice (some ⟨h2.dyn.length, 0, some 0⟩) 8 K) h2.dyn.length ((head8 x 8).map bv) := by
      refine .inr (.inr ⟨0, L.drop 8, by simp [head8_len]; omega, by simp [head8_len]; unfold gcap; omega, ?_⟩)
      have : (head8 x 8).map bv ++ L.drop 8 = L := by
        apply List.ext_getElem?
        intro j
        by_cases hj : j < 8
        · rw [List.getElem?_append_left (by simp [head8_len]; omega), hv j hj, bv_get (by rw [head8_len]; exact hj), head8_get hj]
        · rw [List.getElem?_append_right (by simp [head8_len]; omega), List.getElem?_drop]
          congr 1; simp [head8_len]; omega
      rw [this]; exact row
    have o4 := o2.grow gg
    have hv2 : slen u2 = some (bs.map bv).length ∧ firstN h4 1 (bs.map bv).length u2 = some (bs.map bv) := by
      rcases o4.reads with ⟨rfl, h0⟩ | ⟨a, c, rfl, hl⟩
      · rw [h0]; exact ⟨rfl, rfl⟩
      · refine ⟨rfl, ?_⟩
        simp only [firstN, Nat.mul_one]
        exact loadN_of _ _ hl
    have g24 := g12.trans gg
    have l12 := g12.len
    by_cases h0 : bs = []
    · subst h0
      have e := own8.app0 (by simp [head8_len]) (bytes := 1) (z := .int .u8 0) hv2.1 hv2.2
      simp [e]
      exact hQ _ _ ⟨g24, .inr ⟨_, h2.dyn.length, [], hf, rfl, by rw [hx, List.append_nil]; exact own8, by omega, p2⟩⟩
    · have hg : (bs.map bv).all goodC = true := by rw [List.all_eq_true]; intro x hx; rw [List.mem_map] at hx; obtain ⟨y, _, rfl⟩ := hx; simp [bv]
      obtain ⟨v', h', q', e, o, c', _, d⟩ := own8.app (bytes := 1) (z := .int .u8 0) (by simpa using h0) hv2.1 hv2.2 hg (by simp [head8_len]; omega) (by simp [head8_len]; omega)
      simp [e]
      refine hQ _ _ ⟨g24.after c' (fun n hn hb => by have := hb.1; omega), .inr ⟨v', q', bs, hf, rfl, by rw [hx, List.map_append]; exact o, ?_, p2⟩⟩
      have := gg.len
      rcases d with ⟨h1, _⟩ | h1 <;> omega

end Go.Ax
