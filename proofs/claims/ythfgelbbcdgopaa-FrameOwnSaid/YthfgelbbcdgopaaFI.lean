/- Seat frame: there and back. -/
import Derived.Test.YthfgelbbcdgopaaFH
namespace Go.Ax
open Go.Proofs
set_option linter.unusedVariables false
set_option linter.unusedSimpArgs false

theorem few_spec {h : Heap} {v : Value} {cs : List Int} (r : ArgS h v (cs.map iv)) :
    Gives P T (.fn F_colonnadelaw11_few) [v] h fun u h' => ArgS h u ((cs.take 1048576).map iv) ∧ h' = h := by
  refine gives_by t_colonnadelaw11_few (by simp [c_colonnadelaw11_few]) fun Q hQ => ?_
  obtain ⟨b, c, ev, _⟩ := r.reads.shape
  simp only [List.length_map] at ev
  obtain ⟨n, hn⟩ : ∃ n, min cs.length 1048576 = n := ⟨_, rfl⟩
  have hm : min (cs.length : Int) 1048576 = (n : Nat) := by omega
  obtain ⟨x0, k0, z0⟩ := r.cut (n := n) (by rw [List.length_map]; omega)
  have hlen : lenR h v = some (.int .i64 cs.length, h) := by rw [ev]; simp
  have ht : cs.take 1048576 = cs.take n := by
    rw [← hn]
    by_cases hc : cs.length ≤ 1048576
    · rw [Nat.min_eq_left hc, List.take_of_length_le hc, List.take_of_length_le (Nat.le_refl _)]
    · rw [Nat.min_eq_right (by omega)]
  rw [← List.map_take] at x0
  simp [c_colonnadelaw11_few, hlen, hm, k0]
  exact hQ _ _ ⟨by rw [ht]; exact x0, rfl⟩

theorem back_spec {L : Nat → Nat → Option Value} {v : Value} {cs0 : List Int} (r0 : ArgS (heap0 (roBlk noG L)) v (cs0.map iv)) (hr0 : ∀ x ∈ cs0, (Lit.int .i64 x).wf = true) (width : Int) :
    Gives P T (.fn F_colonnadelaw11_FrameBack) [v, .int .i64 width] (heap0 (roBlk noG L)) fun r _ => r = .bool true := by
  refine gives_by t_colonnadelaw11_FrameBack (by simp [c_colonnadelaw11_FrameBack]) fun Q hQ => ?_
  simp [c_colonnadelaw11_FrameBack]
  refine got_call (awake_spec L) ?_
  rintro _ h1 ⟨rfl, e1⟩
  have ra := r0.ro (h' := h1) e1
  simp
  refine got_call (few_spec ra) ?_
  rintro u _ ⟨r, rfl⟩
  rename_i h1
  obtain ⟨cs, hcs⟩ : ∃ cs, cs0.take 1048576 = cs := ⟨_, rfl⟩
  rw [hcs] at r
  have hn : cs.length ≤ 1048576 := by rw [← hcs]; simp; omega
  have hr : rangeI cs := by
    intro i hi
    have hmem : numI cs i ∈ cs0 := by
      have : numI cs i ∈ cs := by
        unfold numI
        rw [List.getD_eq_getElem?_getD, List.getElem?_eq_getElem hi]
        exact List.getElem_mem hi
      exact List.mem_of_mem_take (by rw [hcs]; exact this)
    have := hr0 _ hmem
    simp [Lit.wf, IntKind.min, IntKind.max, IntKind.bits, IntKind.signed] at this
    omega
  have R := r.reads
  obtain ⟨b, c, eu, hsh⟩ := R.shape
  clear hsh
  simp only [List.length_map] at eu
  obtain ⟨n, hnn⟩ : ∃ n, cs.length = n := ⟨_, rfl⟩
  rw [hnn] at eu hn
  subst eu
  have hfw := fw_64 cs
  simp
  refine got_call (FrameWidth_spec R (by omega)) ?_
  rintro _ _ ⟨rfl, rfl⟩
  rename_i h1
  by_cases he : bytesE n width = 0
  case neg =>
    -- no width
    have hw : ¬ (0 ≤ width ∧ width ≤ 64) := fun h => he (by unfold bytesE; rw [if_neg (by omega), if_neg (by omega), if_pos h])
    have heq : bytesE n width = 20 := by unfold bytesE; rw [if_neg (by omega), if_neg (by omega), if_neg hw]
    have p1 := PutFrame_bad R (w := width) (by rw [hnn]; exact he)
    have p2 := PutPacked_bad R (w := width) (by rw [hnn]; exact he)
    rw [hnn, heq] at p1 p2
    simp
    refine got_call p1 ?_
    rintro _ _ ⟨rfl, rfl⟩
    rename_i h1
    simp
    refine got_call num_spec ?_
    rintro _ _ ⟨rfl, rfl⟩
    rename_i h1
    have h20 : ¬ ((fwE cs : Int) ≤ width ∧ width ≤ 64) := by omega
    by_cases hlt : (fwE cs : Int) ≤ width
    · have h64 : ¬ width ≤ 64 := by omega
      simp [hlt, h64]
      refine got_call num_spec ?_
      rintro _ _ ⟨rfl, rfl⟩
      rename_i h1
      simp
      refine got_call (PackedWidth_spec R (by omega)) ?_
      rintro _ _ ⟨rfl, rfl⟩
      rename_i h1
      by_cases hb : baseL cs < 0
      · simp [hb]
        refine got_call p2 ?_
        rintro _ _ ⟨rfl, rfl⟩
        rename_i h1
        simp
        refine got_call num_spec ?_
        rintro _ _ ⟨rfl, rfl⟩
        rename_i h1
        simp
        refine got_call num_spec ?_
        rintro _ _ ⟨rfl, rfl⟩
        simp
        exact hQ _ _ rfl
      · have hle := fw_le_pw hr hb
        have hle' : ¬ (pwE cs : Int) < fwE cs := by omega
        simp [hb]
        refine got_call p2 ?_
        rintro _ _ ⟨rfl, rfl⟩
        rename_i h1
        simp
        refine got_call num_spec ?_
        rintro _ _ ⟨rfl, rfl⟩
        rename_i h1
        by_cases hpl : (pwE cs : Int) ≤ width
        · simp [hpl, h64, hle']
          refine got_call num_spec ?_
          rintro _ _ ⟨rfl, rfl⟩
          simp
          exact hQ _ _ rfl
        · simp [hpl, hle']
          refine got_call num_spec ?_
          rintro _ _ ⟨rfl, rfl⟩
          simp
          exact hQ _ _ rfl
    · simp [hlt, skipV]
      refine got_call num_spec ?_
      rintro _ _ ⟨rfl, rfl⟩
      rename_i h1
      simp
      refine got_call (PackedWidth_spec R (by omega)) ?_
      rintro _ _ ⟨rfl, rfl⟩
      rename_i h1
      by_cases hb : baseL cs < 0
      · simp [hb]
        refine got_call p2 ?_
        rintro _ _ ⟨rfl, rfl⟩
        rename_i h1
        simp
        refine got_call num_spec ?_
        rintro _ _ ⟨rfl, rfl⟩
        rename_i h1
        simp
        refine got_call num_spec ?_
        rintro _ _ ⟨rfl, rfl⟩
        simp
        exact hQ _ _ rfl
      · have hle := fw_le_pw hr hb
        have hle' : ¬ (pwE cs : Int) < fwE cs := by omega
        have hpl : ¬ (pwE cs : Int) ≤ width := by omega
        simp [hb]
        refine got_call p2 ?_
        rintro _ _ ⟨rfl, rfl⟩
        rename_i h1
        simp
        refine got_call num_spec ?_
        rintro _ _ ⟨rfl, rfl⟩
        rename_i h1
        simp [hpl, hle']
        refine got_call num_spec ?_
        rintro _ _ ⟨rfl, rfl⟩
        simp
        exact hQ _ _ rfl
  obtain ⟨_, w, hx, rfl, hn2, hw⟩ := bytesE_ok he
  have hw64 : (w : Int) ≤ 64 := by omega
  have hfine : ∀ {base : Int} {bs : List (BitVec 8)}, Packs (cs.map (codeI base)) w bs → Fine bs w n := fun p => by
    have := packs_fine p (by simp; omega) hw
    simpa [hnn] using this
  have plen : ∀ {base : Int} {bs : List (BitVec 8)}, Packs (cs.map (codeI base)) w bs → bs.length = (n * w + 7) / 8 := fun p => by have := p.len; simpa [hnn] using this
  have hb1 : n * w ≤ 16777216 * 64 := Nat.mul_le_mul (by omega) hw
  -- the second half, from any later memory
  have half : ∀ h2, Grow h1 h2 → Gives P T (.fn F_frame_PutPacked) [.slice b n c, .int .i64 w] h2 fun r h3 => (∃ f, ¬ f = 0 ∧ (f : Int) = 110 ∧ (baseL cs < 0 ∨ ¬ pwE cs ≤ w) ∧ r = .tuple #[.slice none 0 0, .int .i64 f]) ∨ ∃ u q bs, ¬ baseL cs < 0 ∧ pwE cs ≤ w ∧ r = .tuple #[u, .int .i64 0] ∧ Own h3 u q (bs.map bv) ∧ Packs (cs.map (codeI 0)) w bs ∧ Grow h2 h3 := by
    intro h2 gg
    refine (PutPacked_spec (R.grow gg) (w := w) (by omega) hw).mono ?_
    rintro _ h3 ⟨g3, ⟨hbad, rfl⟩ | ⟨u, q, bs, hb, hf, rfl, o, hq, p, hne⟩⟩
    · left
      refine ⟨110, by omega, rfl, ?_, rfl⟩
      by_cases hb : baseL cs < 0
      · exact .inl hb
      · exact .inr (fun h => (hbad.resolve_left hb) ((fit_pw hr hb w).2 h))
    · exact .inr ⟨u, q, bs, hb, (fit_pw hr hb w).1 hf, rfl, o, p, g3⟩
  simp
  refine got_call (PutFrame_spec R (w := w) (by omega) hw) ?_
  rintro _ h2 ⟨g2, ⟨hbad, rfl⟩ | ⟨u2, q2, bs2, hf2, rfl, o2, hq2, p2⟩⟩
  · have hfw' : ¬ fwE cs ≤ w := fun h => hbad ((fit_fw hr w).2 h)
    have hlt : ¬ (fwE cs : Int) ≤ w := by omega
    simp
    refine got_call num_spec ?_
    rintro _ _ ⟨rfl, rfl⟩
    rename_i h2
    simp [hfw', hlt, skipV]
    refine got_call num_spec ?_
    rintro _ _ ⟨rfl, rfl⟩
    rename_i h2
    simp
    refine got_call (PackedWidth_spec (R.grow g2) (by omega)) ?_
    rintro _ _ ⟨rfl, rfl⟩
    rename_i h2
    have hpp : baseL cs < 0 ∨ ¬ pwE cs ≤ w := by
      by_cases hb : baseL cs < 0
      · exact .inl hb
      · exact .inr (fun h => hfw' (Nat.le_trans (fw_le_pw hr hb) h))
    by_cases hb : baseL cs < 0
    · simp [hb]
      refine got_call (half _ g2) ?_
      rintro _ h3 (⟨f, hf0, _, _, rfl⟩ | ⟨_, _, _, hb', _⟩)
      · simp
        refine got_call num_spec ?_
        rintro _ _ ⟨rfl, rfl⟩
        rename_i h3
        simp [hf0]
        refine got_call num_spec ?_
        rintro _ _ ⟨rfl, rfl⟩
        simp [hf0]
        exact hQ _ _ rfl
      · exact absurd hb hb'
    · have hpw := hpp.resolve_left hb
      have hpw' : ¬ (pwE cs : Int) ≤ w := by omega
      have hle := fw_le_pw hr hb
      have hle' : ¬ (pwE cs : Int) < fwE cs := by omega
      have hle2 : ¬ pwE cs < fwE cs := by omega
      simp [hb]
      refine got_call (half _ g2) ?_
      rintro _ h3 (⟨f, hf0, _, _, rfl⟩ | ⟨_, _, _, _, hb', _⟩)
      · simp
        refine got_call num_spec ?_
        rintro _ _ ⟨rfl, rfl⟩
        rename_i h3
        simp [hf0, hpw, hpw', hle', hle2]
        refine got_call num_spec ?_
        rintro _ _ ⟨rfl, rfl⟩
        simp [hf0]
        exact hQ _ _ rfl
      · exact absurd hb' hpw
  · have hfw' : fwE cs ≤ w := (fit_fw hr w).1 hf2
    have hlt : (fwE cs : Int) ≤ w := by omega
    have hb0 := base_range hr
    have F2 := hfine p2
    obtain ⟨X, hX⟩ : ∃ X, BitVec.ofInt 64 (baseL cs) = X := ⟨_, rfl⟩
    have hbF := baseF_put hr bs2
    obtain ⟨v1, v2⟩ := vals_put hr hb0 (fun i hi => base_le hi) p2 hw hf2
    have v3 := zero_put hr p2 hw hf2
    rw [hnn] at v1 v2 v3
    have hdr := drop_put X bs2
    rw [hX] at hbF o2
    have hgood : goodF (head8 X 8 ++ bs2) w n := by unfold goodF; rw [hdr, hbF]; exact ⟨v2, v3⟩
    have hlen2 : (head8 X 8 ++ bs2).length = 8 + (n * w + 7) / 8 := by rw [List.length_append, head8_len, plen p2]
    obtain ⟨B, hB⟩ : ∃ B, (n * w + 7) / 8 = B := ⟨_, rfl⟩
    have hl2 : ∀ h, lenR h u2 = some (.int .i64 (8 + B : Nat), h) := fun h => by
      obtain ⟨b', c', e', _⟩ := o2.shape
      rw [e']; simp [head8_len, plen p2, hB]
    simp
    refine got_call num_spec ?_
    rintro _ _ ⟨rfl, rfl⟩
    rename_i h2
    simp [hfw', hlt, hw64]
    refine got_call num_spec ?_
    rintro _ _ ⟨rfl, rfl⟩
    rename_i h2
    simp
    refine got_call (OpenFrame_spec o2.bytes (by omega) (by omega) (by rw [hdr]; exact F2)) ?_
    rintro _ h3 ⟨g3, ⟨hbad, _⟩ | ⟨u3, q3, -, rfl, o3, -, -⟩⟩
    · exact absurd hgood hbad
    rw [hdr] at o3
    rw [hbF]
    simp
    refine got_call (Values_spec o3.bytes (base := baseL cs) F2) ?_
    rintro _ h4 ⟨g4, ⟨hbad, _⟩ | ⟨u4, q4, -, rfl, o4, -, -⟩⟩
    · exact absurd v2 hbad
    rw [v1] at o4
    simp
    refine got_call (Bytes_spec (n := n) (w := w) (by omega) hw) ?_
    rintro _ _ ⟨rfl, rfl⟩
    rename_i h4
    rw [hB]
    have g14 := (g2.trans g3).trans g4
    have f8 : IntKind.i64.wrap (8 + (B : Int)) = ((8 + B : Nat) : Int) := by rw [wrap_i64 (by omega) (by omega)]; omega
    simp
    refine got_call num_spec ?_
    rintro _ _ ⟨rfl, rfl⟩
    rename_i h4
    simp
    refine got_call num_spec ?_
    rintro _ _ ⟨rfl, rfl⟩
    rename_i h4
    simp
    refine got_call num_spec ?_
    rintro _ _ ⟨rfl, rfl⟩
    rename_i h4
    obtain ⟨B8, hB8⟩ : ∃ x, 8 + B = x := ⟨_, rfl⟩
    rw [hB8] at f8 hl2
    simp [hl2, f8]
    have Rn : Reads h4 (.slice b n c) (cs.map iv) := by have := R.grow g14; simpa [hnn] using this
    refine got_call (SameInts_spec o4.reads Rn (by omega)) ?_
    rintro _ _ ⟨rfl, rfl⟩
    rename_i h4
    simp
    refine got_call (PackedWidth_spec (R.grow g14) (by omega)) ?_
    rintro _ _ ⟨rfl, rfl⟩
    rename_i h4
    by_cases hb : baseL cs < 0
    · simp [hb]
      refine got_call (half _ g14) ?_
      rintro _ h5 (⟨f, hf0, _, _, rfl⟩ | ⟨_, _, _, hb', _⟩)
      · simp
        refine got_call num_spec ?_
        rintro _ _ ⟨rfl, rfl⟩
        rename_i h5
        simp [hf0]
        refine got_call num_spec ?_
        rintro _ _ ⟨rfl, rfl⟩
        simp [hf0]
        exact hQ _ _ rfl
      · exact absurd hb hb'
    · have hle := fw_le_pw hr hb
      have hle' : ¬ (pwE cs : Int) < fwE cs := by omega
      have hle2 : ¬ pwE cs < fwE cs := by omega
      simp [hb]
      refine got_call (half _ g14) ?_
      rintro _ h5 (⟨f, hf0, _, hpp, rfl⟩ | ⟨u5, q5, bs5, _, hpw, rfl, o5, p5, g5⟩)
      · have hpw := hpp.resolve_left hb
        have hpw' : ¬ (pwE cs : Int) ≤ w := by omega
        simp
        refine got_call num_spec ?_
        rintro _ _ ⟨rfl, rfl⟩
        rename_i h5
        simp [hf0, hpw, hpw', hle', hle2]
        refine got_call num_spec ?_
        rintro _ _ ⟨rfl, rfl⟩
        simp [hf0]
        exact hQ _ _ rfl
      · have hpw' : (pwE cs : Int) ≤ w := by omega
        have F5 := hfine p5
        have hf5 := (fit_pw hr hb w).2 hpw
        obtain ⟨y1, y2⟩ := vals_put hr (base := 0) (by omega) (fun i hi => by have := base_le hi; omega) p5 hw hf5
        rw [hnn] at y1 y2
        simp
        refine got_call num_spec ?_
        rintro _ _ ⟨rfl, rfl⟩
        rename_i h5
        simp [hpw, hpw', hle', hle2, hw64]
        refine got_call num_spec ?_
        rintro _ _ ⟨rfl, rfl⟩
        rename_i h5
        simp
        refine got_call (OpenPacked_spec o5.bytes (by rw [plen p5]; omega) F5) ?_
        rintro _ h6 ⟨g6, ⟨hbad, _⟩ | ⟨u6, q6, -, rfl, o6, -, -⟩⟩
        · exact absurd y2 hbad
        simp
        refine got_call (Values_spec o6.bytes (base := 0) F5) ?_
        rintro _ h7 ⟨g7, ⟨hbad, _⟩ | ⟨u7, q7, -, rfl, o7, -, -⟩⟩
        · exact absurd y2 hbad
        rw [y1] at o7
        simp
        refine got_call num_spec ?_
        rintro _ _ ⟨rfl, rfl⟩
        rename_i h7
        simp
        refine got_call num_spec ?_
        rintro _ _ ⟨rfl, rfl⟩
        rename_i h7
        have g17 := ((g14.trans g5).trans g6).trans g7
        have Rn7 : Reads h7 (.slice b n c) (cs.map iv) := by have := R.grow g17; simpa [hnn] using this
        simp [b2s_reads (o6.grow g7).reads, b2s_reads ((o5.grow g6).grow g7).reads]
        refine got_call (SameInts_spec o7.reads Rn7 (by omega)) ?_
        rintro _ _ ⟨rfl, rfl⟩
        simp
        exact hQ _ _ rfl

end Go.Ax
