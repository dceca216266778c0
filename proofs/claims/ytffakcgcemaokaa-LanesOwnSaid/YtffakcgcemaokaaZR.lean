/- Seat lanes: the law of its own memory. -/
import Derived.Test.YtffakcgcemaokaaZQ
namespace Go.Ax
open Go.Proofs
set_option linter.unusedVariables false
set_option linter.unusedSimpArgs false

theorem room_bytes {h : Heap} {v : Value} {q : Nat} {bs : List (BitVec 8)} {more : List Value} (rm : Room h v q (bs.map bv) more) : Bytes h v bs := by
  refine ⟨rm.reads, ?_⟩
  obtain ⟨u2, rfl, r2⟩ := rm
  intro a n c e
  simp only [Value.slice.injEq, Option.some.injEq] at e
  obtain ⟨rfl, rfl, rfl⟩ := e
  exact ⟨r2.esOk _, fun h => absurd h (Nat.lt_irrefl _), Nat.le_refl _⟩

theorem aslice_cut {h : Heap} {a : Addr} {n m : Nat} (hm : m ≤ n) : aslice h 1 (.slice (some a) n gcap) none (some (.int .i64 m)) none = some (.slice (some a) m gcap) := by
  simp only [aslice, Nat.lt_irrefl, ↓reduceIte, Option.isSome_none, Bool.false_eq_true, ne_eq, not_true_eq_false, Option.isNone_some, optBound, asliceBound]
  rw [if_pos (by omega)]
  simp

theorem allFit_set {cs : List (BitVec 64)} {w i : Nat} {x : BitVec 64} (h : allFit cs w) (hx : x.toNat < 2 ^ w) : allFit (cs.set i x) w := by
  intro j hj
  unfold numA
  rw [List.getD_eq_getElem?_getD, List.getElem?_set]
  by_cases h1 : i = j
  · subst h1
    by_cases h2 : i < cs.length
    · simp [h2]; exact hx
    · exact absurd (by simpa using hj) h2
  · rw [if_neg h1, ← List.getD_eq_getElem?_getD]
    exact h j (by simpa using hj)

set_option maxHeartbeats 2000000 in
theorem own_law_spec {h : Heap} {vL vOf : Value} {cs os : List (BitVec 64)} (rL : ArgS h vL (cs.map wv)) (rO : ArgS h vOf (os.map wv)) (hcs : cs.length * 8 ≤ 140737488351232) (hos : os.length * 8 ≤ 140737488351232) (width : Int) (c lo hi : BitVec 64) :
    Gives P T (.fn F_colonnadelaw03_LanesOwn) [.agg (listC vL vOf width c lo hi).toArray] h fun r _ => r = .bool true := by
  refine gives_by t_colonnadelaw03_LanesOwn (by simp [c_colonnadelaw03_LanesOwn]) fun Q hQ => ?_
  obtain ⟨w, hw⟩ : ∃ w : Nat, width % 65 = w := ⟨(width % 65).toNat, by have := Int.emod_nonneg width (show (65 : Int) ≠ 0 by omega); omega⟩
  have hw65 : w < 65 := by have := Int.emod_lt_of_pos width (show (0 : Int) < 65 by omega); omega
  obtain ⟨bo, co, eo, hro⟩ := rO.reads.shape
  simp only [List.length_map] at hro eo
  obtain ⟨m, hm⟩ : ∃ m, os.length = m := ⟨_, rfl⟩
  rw [hm] at hro eo hos
  subst eo
  simp [c_colonnadelaw03_LanesOwn]
  have gb := Grow.new h (listC vL (.slice bo m co) width c lo hi) 0
  have rb := RowAt.new h (listC vL (.slice bo m co) width c lo hi) 0
  refine got_call known_spec ?_
  rintro _ h2 ⟨rfl, g2⟩
  have r2 := rb.grow g2
  have l2 := loadN_row_all r2 (n := 6) rfl
  simp [l2]
  refine got_call (fit_spec ((rL.reads.grow gb).grow g2) hcs width c lo hi hw) ?_
  rintro _ h3 ⟨u3, q3, rfl, o3, g3, hq3⟩
  have r3 := r2.grow g3
  have G3 := (gb.trans g2).trans g3
  obtain ⟨ds, hds⟩ : ∃ ds, cs.map (maskB w) = ds := ⟨_, rfl⟩
  have hfit : allFit ds w := by rw [← hds]; exact fit_all (by omega)
  rw [hds] at o3
  obtain ⟨n, hn⟩ : ∃ n, ds.length = n := ⟨_, rfl⟩
  obtain ⟨q3', o3, hq3'⟩ := o3.low
  have hul : ∀ h, lenR h u3 = some (.int .i64 n, h) := fun h => by
    obtain ⟨b, cc, e, _⟩ := o3.shape
    rw [e]; simp [hn]
  simp [hul]
  by_cases hlg : 16777216 < n
  · have : (16777216 : Int) < n := by omega
    simp [this]
    exact hQ _ _ rfl
  have hlg' : ¬ (16777216 : Int) < n := by omega
  simp [hlg']
  refine got_call (Pack_uint64_spec (cs := ds) (w := w) (wvkv ds ▸ o3.reads) (by omega) (by omega)) ?_
  rintro _ h4 ⟨g4, ⟨hnf, _⟩ | ⟨u4, q4, b4, _, rfl, o4, hq4, p4, hne4⟩⟩
  · exact absurd hfit hnf
  have r4 := r3.grow g4
  have F4 := packs_fine p4 (by omega) (by omega : w ≤ 64)
  rw [hn] at F4
  have hq4l : q4 < h4.dyn.length := (o4.lt).resolve_left fun e => hne4 e.1
  obtain ⟨B, hB⟩ : ∃ B, b4.length = B := ⟨_, rfl⟩
  have hBl : B ≤ 200000000 := by have := F4.le.2; omega
  have hpl : ∀ h, lenR h u4 = some (.int .i64 B, h) := fun h => by
    obtain ⟨b, cc, e, _⟩ := o4.shape
    rw [e]; simp [hB]
  simp
  refine got_call (twin2_spec o4.reads (by omega)) ?_
  rintro u5 h5 ⟨q5, o5, g5, hq5, t5⟩
  -- room
  have m8v : m8.map bv = [.int .u8 201, .int .u8 202, .int .u8 203, .int .u8 204, .int .u8 205, .int .u8 206, .int .u8 207, .int .u8 208] := rfl
  obtain ⟨u6, h6, q6, e6, o6, c6, _, d6⟩ := (o5.grow (Grow.new h5 (m8.map bv) 1)).app (bytes := 1) (z := .int .u8 0) (x := .slice (some ⟨h5.dyn.length, 0, some 0⟩) 8 8) (m := m8.map bv) (by decide) rfl (loadN_row_all (RowAt.new _ _ _) rfl) (by decide) (by simp [hB, m8]; omega) (by simp [hB, m8]; omega)
  have g46 : Grow h4 h6 := (g5.trans (Grow.new h5 (m8.map bv) 1)).after c6 fun b hb he => by have := he.1; omega
  have hq6 : h4.dyn.length ≤ q6 := by
    have := g5.len
    rcases d6 with ⟨h1, _⟩ | h1
    · omega
    · simp at h1; omega
  obtain ⟨_, _, et6⟩ := aappend_top e6 rfl (by decide) t5
  obtain ⟨x6, ev6, row6⟩ := o6.full ⟨_, _, et6⟩
  subst ev6
  have hl6 : (b4.map bv ++ m8.map bv).length = B + 8 := by simp [hB, m8]
  rw [hl6] at e6
  rw [m8v] at e6
  have rm7 : Room h6 (.slice (some ⟨q6, 0, some x6⟩) B gcap) q6 (b4.map bv) (m8.map bv) := ⟨x6, by simp [hB], row6⟩
  simp [e6, hpl, aslice_cut (show B ≤ B + 8 by omega)]
  have r6 := r4.grow g46
  simp [r6.get (i := 5) (x := .slice bo m co) rfl]
  -- the list
  have ro6 : Reads h6 (.slice bo m co) (os.map wv) := by
    have := (rO.reads.grow (G3.trans g4)).grow g46
    simpa [hm] using this
  have gw : ∀ l : List (BitVec 64), (l.map wv).all goodC = true := fun l => by rw [List.all_eq_true]; intro x hx; rw [List.mem_map] at hx; obtain ⟨y, _, rfl⟩ := hx; simp [wv]
  obtain ⟨v8, h8, q8, e8, o8, g8, hq8, t8⟩ := app_any (bytes := 8) (z := .int .u64 0) ro6 (gw os) (by simp [hm]; omega) (by simp [hm]; omega)
  obtain ⟨v9, h9, q9, e9, o9, c9, _, d9⟩ := (o8.grow (Grow.new h8 [.int .u64 91, .int .u64 92, .int .u64 93] 1)).app (bytes := 8) (z := .int .u64 0) (x := .slice (some ⟨h8.dyn.length, 0, some 0⟩) 3 3) (m := [.int .u64 91, .int .u64 92, .int .u64 93]) (by simp) rfl (loadN_row_all (RowAt.new _ _ _) rfl) (by decide) (by simp [hm]; omega) (by simp [hm]; omega)
  have g69 : Grow h6 h9 := (g8.trans (Grow.new h8 [.int .u64 91, .int .u64 92, .int .u64 93] 1)).after c9 fun b hb he => by have := he.1; omega
  have hq9 : h6.dyn.length ≤ q9 := by
    have := g8.len
    rcases d9 with ⟨h1, _⟩ | h1
    · omega
    · simp at h1; omega
  obtain ⟨_, _, et9⟩ := aappend_top e9 rfl (by decide) t8
  obtain ⟨x9, ev9, row9⟩ := o9.full ⟨_, _, et9⟩
  subst ev9
  have hl9 : (os.map wv ++ [Value.int .u64 91, .int .u64 92, .int .u64 93]).length = m + 3 := by simp [hm]
  rw [hl9] at e9
  simp [e8, e9]
  have G49 := g46.trans g69
  have r9 := r4.grow G49
  have rm9 := rm7.grow g69
  have ro9 : Room h9 (.slice (some ⟨q9, 0, some x9⟩) m gcap) q9 (os.map wv) [.int .u64 91, .int .u64 92, .int .u64 93] := ⟨x9, by simp [hm], row9⟩
  have cutO : ∀ hh : Heap, aslice hh 1 (.slice (some ⟨q9, 0, some x9⟩) (m + 3) gcap) none (some (.int .i64 m)) none = some (.slice (some ⟨q9, 0, some x9⟩) m gcap) := fun hh => aslice_cut (by omega)
  have fld : ∀ hh, Grow h9 hh → hload hh ⟨h.dyn.length, 2, some 0⟩ = some (.int .u64 (wi c)) ∧ hload hh ⟨h.dyn.length, 3, some 0⟩ = some (.int .u64 (wi lo)) ∧ hload hh ⟨h.dyn.length, 4, some 0⟩ = some (.int .u64 (wi hi)) ∧ hload hh ⟨h.dyn.length, 5, some 0⟩ = some (.slice bo m co) :=
    fun hh gg => ⟨(r9.grow gg).get (i := 2) rfl, (r9.grow gg).get (i := 3) rfl, (r9.grow gg).get (i := 4) rfl, (r9.grow gg).get (i := 5) rfl⟩
  -- asked the first time
  obtain ⟨c9', l9, i9, f9⟩ := fld h9 (Chg.refl _)
  simp [c9']
  refine got_call (Test_spec (c := c) (op := 4) (room_bytes rm9) F4 (by omega) (by omega)) ?_
  rintro _ h10 ⟨p10, rfl, s10, g10⟩
  obtain ⟨c10, l10, i10, f10⟩ := fld h10 g10
  simp [f10, cutO]
  refine got_call (In_spec ((room_bytes rm9).grow g10) (ro9.reads.grow g10) F4 (by omega)) ?_
  rintro _ h11 ⟨p11, rfl, s11, g11⟩
  have g911 := g10.trans g11
  obtain ⟨c11, l11, i11, f11⟩ := fld h11 g911
  simp [l11, i11]
  refine got_call (Between_spec (lo := lo) (hi := hi) ((room_bytes rm9).grow g911) F4) ?_
  rintro _ h12 ⟨p12, rfl, s12, g12⟩
  have g912 := g911.trans g12
  obtain ⟨c12, l12, i12, f12⟩ := fld h12 g912
  have S10 := (s10.grow g11).grow g12
  have S11 := s11.grow g12
  have neg : ∀ m : Nat, ¬ (m : Int) < 0 := fun m => by omega
  simp
  refine got_call (count_says S10) ?_
  rintro _ _ ⟨⟨m10, rfl⟩, rfl⟩
  rename_i h12
  simp [neg]
  refine got_call (count_says S11) ?_
  rintro _ _ ⟨⟨m11, rfl⟩, rfl⟩
  rename_i h12
  simp [neg]
  refine got_call (count_says s12) ?_
  rintro _ _ ⟨⟨m12, rfl⟩, rfl⟩
  rename_i h12
  simp [neg]
  have B12 := (room_bytes rm9).grow g912
  refine got_call (Sum_spec B12 F4) ?_
  rintro _ _ ⟨rfl, rfl⟩
  rename_i h12
  simp
  refine got_call (Ends_spec B12 F4) ?_
  rintro _ _ ⟨rfl, rfl⟩
  rename_i h12
  simp
  -- what they say
  refine got_call (said_spec S10) ?_
  rintro u13 h13 ⟨q13, o13, g13, hq13⟩
  simp
  refine got_call (said_spec (S11.grow g13)) ?_
  rintro u14 h14 ⟨q14, o14, g14, hq14⟩
  simp
  refine got_call (said_spec ((s12.grow g13).grow g14)) ?_
  rintro u15 h15 ⟨q15, o15, g15, hq15⟩
  have g1215 := (g13.trans g14).trans g15
  have g915 := g912.trans g1215
  obtain ⟨c15, l15, i15, f15⟩ := fld h15 g915
  simp [c15]
  -- asked again
  refine got_call (Test_spec (c := c) (op := 4) ((room_bytes rm9).grow g915) F4 (by omega) (by omega)) ?_
  rintro _ h16 ⟨p16, rfl, s16, g16⟩
  have g916 := g915.trans g16
  obtain ⟨c16, l16, i16, f16⟩ := fld h16 g916
  simp [f16, cutO]
  refine got_call (In_spec ((room_bytes rm9).grow g916) (ro9.reads.grow g916) F4 (by omega)) ?_
  rintro _ h17 ⟨p17, rfl, s17, g17⟩
  have g917 := g916.trans g17
  obtain ⟨c17, l17, i17, f17⟩ := fld h17 g917
  simp [l17, i17]
  refine got_call (Between_spec (lo := lo) (hi := hi) ((room_bytes rm9).grow g917) F4) ?_
  rintro _ h18 ⟨p18, rfl, s18, g18⟩
  have g918 := g917.trans g18
  have g1518 := (g16.trans g17).trans g18
  have g1218 := g1215.trans g1518
  simp
  -- turned
  obtain ⟨qa, wsa, Sa, Ca, Ba, fa1, fa2⟩ := id s10
  obtain ⟨qb, wsb, Sb, Cb, Bb, fb1, fb2⟩ := id s11
  obtain ⟨qc, wsc, Sc, Cc, Bc, fc1, fc2⟩ := id s12
  have lta := Sa.lt
  have ltb := Sb.lt
  have ltc := Sc.lt
  have k10 := g10.len
  have k11 := g11.len
  have k12 := g12.len
  have k13 := g13.len
  have k14 := g14.len
  have k15 := g15.len
  have k18 := g1518.len
  have kp10 : p10 < h10.dyn.length := by obtain ⟨_, _, r, _⟩ := Sa.ex; exact r.lt
  have kp11 : p11 < h11.dyn.length := by obtain ⟨_, _, r, _⟩ := Sb.ex; exact r.lt
  refine got_call (turned_spec (((Sa.grow g11).grow g12).grow g1218) Ca) ?_
  rintro _ h19 c19
  have Sb19 := ((Sb.grow g12).grow g1218).chg c19 (fun e => by have := lta e.2; have := e.1; omega) (fun e => by have := lta e.2; have := e.1; omega)
  have Sc19 := (Sc.grow g1218).chg c19 (fun e => by have := lta e.2; have := e.1; omega) (fun e => by have := lta e.2; have := e.1; omega)
  simp
  refine got_call (turned_spec Sb19 Cb) ?_
  rintro _ h20 c20
  have Sc20 := Sc19.chg c20 (fun e => by have := ltb e.2; have := e.1; omega) (fun e => by have := ltb e.2; have := e.1; omega)
  simp
  refine got_call (turned_spec Sc20 Cc) ?_
  rintro _ h21 c21
  have cT : Chg (fun b => h9.dyn.length ≤ b ∧ b < h12.dyn.length) h18 h21 :=
    ((c19.mono fun b _ e => ⟨by have := lta e.2; have := e.1; omega, by have := lta e.2; have := e.1; omega⟩).trans
      (c20.mono fun b _ e => ⟨by have := ltb e.2; have := e.1; omega, by have := ltb e.2; have := e.1; omega⟩)).trans
      (c21.mono fun b _ e => ⟨by have := ltc e.2; have := e.1; omega, by have := ltc e.2; have := e.1; omega⟩)
  have kq6 : q6 < h9.dyn.length := rm9.lt
  have kq9 : q9 < h9.dyn.length := ro9.lt
  have kb : h.dyn.length < h9.dyn.length := r9.lt
  have k49 := G49.len
  have k2 : h.dyn.length < h2.dyn.length := r2.lt
  have k3 := g3.len
  have k4 := g4.len
  have rm21 := (rm9.grow g918).chg cT (fun e => by have := e.1; omega)
  have ro21 := (ro9.grow g918).chg cT (fun e => by have := e.1; omega)
  have r21 := (r9.grow g918).chg cT (fun e => by have := e.1; omega)
  have o21p : Own h21 u4 q4 (b4.map bv) := ((o4.grow G49).grow g918).chg cT (fun e => by have := e.1; omega)
  have o21l : Own h21 u3 q3' (ds.map wv) := (((o3.grow g4).grow G49).grow g918).chg cT (fun e => by have := e.1; rcases hq3' with h | h <;> omega)
  have ro21a : Reads h21 (.slice bo m co) (os.map wv) := by
    have e1 : h21.ro = h.ro := by
      rw [cT.ro, g918.ro, G49.ro, g4.ro, G3.ro]
    have := (rO.ro e1).reads
    simpa [hm] using this
  simp
  refine got_call (like_says (((s16.grow g17).grow g18).chg cT (fun b e => by have := e.2; omega)) ((((o13.grow g14).grow g15).grow g1518).chg cT (fun e => by have := e.2; omega)).reads) ?_
  rintro _ _ ⟨rfl, rfl⟩
  rename_i h21
  simp
  refine got_call (like_says ((s17.grow g18).chg cT (fun b e => by have := e.2; have := g16.len; omega)) (((o14.grow g15).grow g1518).chg cT (fun e => by have := e.2; omega)).reads) ?_
  rintro _ _ ⟨rfl, rfl⟩
  rename_i h21
  simp
  refine got_call (like_says (s18.chg cT (fun b e => by have := e.2; have := g16.len; have := g17.len; omega)) ((o15.grow g1518).chg cT (fun e => by have := e.2; omega)).reads) ?_
  rintro _ _ ⟨rfl, rfl⟩
  rename_i h21
  have row21 : RowAt h21 q6 x6 1 (b4.map bv ++ m8.map bv) := by
    obtain ⟨x, e, r⟩ := rm21
    have : x = x6 := by simp at e; exact e.1.symm
    subst this; exact r
  have full21 : Reads h21 (.slice (some ⟨q6, 0, some x6⟩) (B + 8) gcap) ((b4 ++ m8).map bv) := .inr ⟨⟨q6, 0, some x6⟩, gcap, by simp [hB, m8], fun i x hx => by simpa using row21.get (by simpa using hx)⟩
  have rowO : RowAt h21 q9 x9 1 (os.map wv ++ [.int .u64 91, .int .u64 92, .int .u64 93]) := by
    obtain ⟨x, e, r⟩ := ro21
    have : x = x9 := by simp at e; exact e.1.symm
    subst this; exact r
  have h91 : hload h21 ⟨q9, m, some x9⟩ = some (.int .u64 91) := rowO.get (by rw [List.getElem?_append_right (by simp [hm])]; simp [hm])
  have h93 : hload h21 ⟨q9, m + 2, some x9⟩ = some (.int .u64 93) := rowO.get (by rw [List.getElem?_append_right (by simp [hm])]; simp [hm])
  have w2 : IntKind.i64.wrap ((m : Int) + 2) = ((m + 2 : Nat) : Int) := by rw [wrap_i64 (by omega) (by omega)]; omega
  obtain ⟨m2, hm2⟩ : ∃ x, m + 2 = x := ⟨_, rfl⟩
  rw [hm2] at w2 h93
  have lm3 : m < m + 3 := by omega
  have lm2 : m2 < m + 3 := by omega
  have f21 := r21.get (i := 5) (x := .slice bo m co) rfl
  have hadd : ∀ (ty : TypeId) (x y : Operand), abinop P h21 .add ty .other x y (.string (bstr b4)) (.string (bstr m8)) = some (.string (bstr (b4 ++ m8))) := fun _ _ _ => add_str (by simp [hB, m8]; omega)
  simp [b2s_reads full21, b2s_reads o21p.reads, m8_str, hadd, f21, h91, h93, w2, lm2]
  -- the list is as it was
  obtain ⟨bl, cl, ev3, _⟩ := o21l.shape
  simp only [List.length_map, hn] at ev3
  subst ev3
  refine go_loopK (fun k ks hh => ∃ (i : Nat), k = m - i ∧ i ≤ m ∧ ks = [(1, .pointer (some ⟨h.dyn.length, 0, some 0⟩)), (3, .slice bl n cl), (4, .int .i64 w), (5, .int .i64 n), (6, u4), (9, .slice (some ⟨q6, 0, some x6⟩) B gcap), (10, .slice (some ⟨q9, 0, some x9⟩) (m + 3) gcap), (26, .int .i64 i)] ∧ hh = h21) (n := m)
    ⟨0, rfl, by omega, rfl, rfl⟩ (by simp) ?_
  rintro I hI k ks e hh ⟨i, rfl, hile, rfl, rfl⟩
  simp [f21]
  refine branch_dec (fun hlt => ?_) (fun hge => ?_)
  · have him : i < m := by omega
    have him3 : i < m + 3 := by omega
    have e4 : IntKind.i64.wrap ((i : Int) + 1) = ((i + 1 : Nat) : Int) := by rw [wrap_i64 (by omega) (by omega)]; omega
    obtain ⟨ba, cc, ev, hr21⟩ := ro21a.shape
    simp only [List.length_map, hm, Value.slice.injEq] at ev hr21
    obtain ⟨rfl, _, rfl⟩ := ev
    obtain ⟨a, rfl, hla⟩ := hr21 i him
    have hld := hla i _ (wordL_get (by omega))
    have hld9 : hload hh ⟨q9, i, some x9⟩ = some (.int .u64 (wi (wordL os i))) := rowO.get (by rw [List.getElem?_append_left (by simp; omega)]; exact wordL_get (by omega))
    simp [him, him3, f21, hld, hld9, e4]
    exact ⟨m - (i + 1), by omega, hI _ _ _ _ ⟨i + 1, rfl, by omega, rfl, rfl⟩ (by simp)⟩
  have him : i = m := by omega
  subst him
  simp
  -- the numbers are turned round
  have td := tdiv_nat n 2
  obtain ⟨n2, hn2⟩ : ∃ x, n / 2 = x := ⟨_, rfl⟩
  rw [hn2] at td
  simp only [Int.cast_ofNat_Int] at td
  have wn2 : IntKind.i64.wrap (n2 : Int) = n2 := wrap_i64 (by omega) (by omega)
  refine go_loopK (fun k ks h22 => ∃ (j : Nat) (es : List (BitVec 64)), k = n2 - j ∧ j ≤ n2 ∧ ks = [(1, .pointer (some ⟨h.dyn.length, 0, some 0⟩)), (3, .slice bl n cl), (4, .int .i64 w), (5, .int .i64 n), (6, u4), (9, .slice (some ⟨q6, 0, some x6⟩) B gcap), (10, .slice (some ⟨q9, 0, some x9⟩) (i + 3) gcap), (27, .int .i64 j)] ∧ es.length = n ∧ allFit es w ∧ Own h22 (.slice bl n cl) q3' (es.map wv) ∧ Chg (fun b => h2.dyn.length ≤ b ∧ b < h3.dyn.length) hh h22) (n := n2)
    ⟨0, ds, rfl, by omega, rfl, hn, hfit, o21l, Chg.refl _⟩ (by simp) ?_
  rintro I2 hI2 k2 ks2 e2 h22 ⟨j, es, rfl, hj, rfl, hes, hefit, oe, c22⟩
  simp [hul, td, wn2]
  refine branch_dec (fun hlt2 => ?_) (fun hge2 => ?_)
  · have hjn : j < n2 := by omega
    have e5 : IntKind.i64.wrap ((j : Int) + 1) = ((j + 1 : Nat) : Int) := by rw [wrap_i64 (by omega) (by omega)]; omega
    have e6 : IntKind.i64.wrap ((n : Int) - 1) = ((n - 1 : Nat) : Int) := by rw [wrap_i64 (by omega) (by omega)]; omega
    obtain ⟨n1, hn1⟩ : ∃ x, n - 1 = x := ⟨_, rfl⟩
    rw [hn1] at e6
    have e7 : IntKind.i64.wrap ((n1 : Int) - j) = ((n1 - j : Nat) : Int) := by rw [wrap_i64 (by omega) (by omega)]; omega
    obtain ⟨nj, hnj⟩ : ∃ x, n1 - j = x := ⟨_, rfl⟩
    rw [hnj] at e7
    have hnjn : nj < n := by omega
    have hjn' : j < n := by omega
    obtain ⟨a, cc, eu, _, hld⟩ := oe.get (i := nj) (wordL_get (by omega))
    obtain ⟨u, cc2, h23, eu2, est, oe2, ce, _⟩ := oe.set (i := j) (by simp; omega) (x := .int .u64 (wi (wordL es nj))) (by simp)
    simp only [List.length_map, hes] at eu eu2
    have hq33 : q3' = q3 ∧ q3 < h3.dyn.length := by
      rcases hq3' with h | ⟨h, _⟩
      · exact h
      · cases h; simp at eu
    have hb1 : bl = some a := by simp at eu; exact eu.1
    have hb2 : bl = some ⟨q3', 0, some u⟩ := by simp at eu2; exact eu2.1
    rw [hb2] at hb1
    simp only [Option.some.injEq] at hb1
    subst hb1
    subst hb2
    simp at hld
    simp [e5, e6, e7, hnjn, hjn', hld, est]
    refine ⟨n2 - (j + 1), by omega, hI2 _ _ _ _ ⟨j + 1, es.set j (wordL es nj), rfl, by omega, rfl, by simpa using hes, fun x hx => ?_, ?_, c22.trans (ce.mono fun b _ e => by omega)⟩ (by simp)⟩
    · exact allFit_set hefit (hefit nj (by omega)) x hx
    · rw [List.map_set]; exact oe2
  have hjn : j = n2 := by omega
  subst hjn
  simp
  -- packed anew
  refine got_call (Pack_uint64_spec (cs := es) (w := w) (wvkv es ▸ oe.reads) (by omega) (by omega)) ?_
  rintro _ h23 ⟨g23, ⟨hnf, _⟩ | ⟨u23, q23, b23, _, rfl, o23, hq23, p23, hne23⟩⟩
  · exact absurd hefit hnf
  have F23 := packs_fine p23 (by omega) (by omega : w ≤ 64)
  rw [hes] at F23
  have hB23 : b23.length = B := by rw [p23.len, hes, ← hB, p4.len, hn]
  obtain ⟨bq, cq, ev23, _⟩ := o23.shape
  simp only [List.length_map, hB23] at ev23
  subst ev23
  have rm23 := (rm21.chg c22 (fun e => by have := e.2; omega)).grow g23
  have ro23 := (ro21.chg c22 (fun e => by have := e.2; have := g46.len; omega)).grow g23
  have r23 := (r21.chg c22 (fun e => by have := e.1; omega)).grow g23
  have fld23 : ∀ hh, Grow h23 hh → hload hh ⟨h.dyn.length, 2, some 0⟩ = some (.int .u64 (wi c)) ∧ hload hh ⟨h.dyn.length, 3, some 0⟩ = some (.int .u64 (wi lo)) ∧ hload hh ⟨h.dyn.length, 4, some 0⟩ = some (.int .u64 (wi hi)) ∧ hload hh ⟨h.dyn.length, 5, some 0⟩ = some (.slice bo i co) :=
    fun hh gg => ⟨(r23.grow gg).get (i := 2) rfl, (r23.grow gg).get (i := 3) rfl, (r23.grow gg).get (i := 4) rfl, (r23.grow gg).get (i := 5) rfl⟩
  obtain ⟨c23, l23, i23, f23⟩ := fld23 h23 (Chg.refl _)
  have q6l : q6 < q23 := by
    have := c22.len
    have := cT.len
    have := g918.len
    omega
  simp
  refine got_call (Sum_spec (room_bytes rm23) F4) ?_
  rintro _ _ ⟨rfl, rfl⟩
  rename_i h23
  simp
  refine got_call (Ends_spec (room_bytes rm23) F4) ?_
  rintro _ _ ⟨rfl, rfl⟩
  rename_i h23
  simp [l23, i23]
  refine got_call (Between_spec (lo := lo) (hi := hi) (room_bytes rm23) F4) ?_
  rintro _ h24 ⟨p24, rfl, s24, g24⟩
  obtain ⟨c24, l24, i24, f24⟩ := fld23 h24 g24
  simp [f24, cutO]
  refine got_call (In_spec ((room_bytes rm23).grow g24) (ro23.reads.grow g24) F4 (by omega)) ?_
  rintro _ h25 ⟨p25, rfl, s25, g25⟩
  have g2325 := g24.trans g25
  obtain ⟨c25, l25, i25, f25⟩ := fld23 h25 g2325
  simp [c25]
  refine got_call (Test_spec (c := c) (op := 4) ((room_bytes rm23).grow g2325) F4 (by omega) (by omega)) ?_
  rintro _ h26 ⟨p26, rfl, s26, g26⟩
  have g2326 := g2325.trans g26
  have rm26 := rm23.grow g2326
  have ro26 := ro23.grow g2326
  have r26 := r23.grow g2326
  have o26 := o23.grow g2326
  simp [hpl]
  -- written over
  refine go_loopK (fun k ks h27 => ∃ (x : Nat), k = B - x ∧ x ≤ B ∧ ks = [(1, .pointer (some ⟨h.dyn.length, 0, some 0⟩)), (4, .int .i64 w), (5, .int .i64 n), (9, .slice (some ⟨q6, 0, some x6⟩) B gcap), (10, .slice (some ⟨q9, 0, some x9⟩) (i + 3) gcap), (28, .slice bq B cq), (30, .int .i64 x)] ∧ Room h27 (.slice (some ⟨q6, 0, some x6⟩) B gcap) q6 ((b23.take x ++ b4.drop x).map bv) (m8.map bv) ∧ Chg (· = q6) h26 h27) (n := B)
    ⟨0, rfl, by omega, rfl, by simpa using rm26, Chg.refl _⟩ (by simp) ?_
  rintro I4 hI4 k4 ks4 e4 h27 ⟨x, rfl, hx, rfl, rm27, c27⟩
  simp
  refine branch_dec (fun hlt4 => ?_) (fun hge4 => ?_)
  · have hxB : x < B := by omega
    have e5 : IntKind.i64.wrap ((x : Int) + 1) = ((x + 1 : Nat) : Int) := by rw [wrap_i64 (by omega) (by omega)]; omega
    obtain ⟨a, cc, eq1, _, hld⟩ := (o26.chg c27 (by omega)).get (i := x) (bv_get (by omega))
    have hbq : bq = some a := by simp at eq1; exact eq1.1
    subst hbq
    obtain ⟨u2, h28, ev2, es2, rm28, c28, _⟩ := rm27.set (i := x) (by simp; omega) (x := .int .u8 (bi (byteA b23 x))) (by simp)
    have hu : x6 = u2 := by simp at ev2; exact ev2.1
    subst hu
    simp [hxB, hld, es2, e5]
    refine ⟨B - (x + 1), by omega, hI4 _ _ _ _ ⟨x + 1, rfl, by omega, rfl, ?_, c27.trans c28⟩ (by simp)⟩
    rw [← take_drop_set (by omega) (by omega), List.map_set]; exact rm28
  have hxB : x = B := by omega
  subst hxB
  rw [List.take_of_length_le (by omega), List.drop_eq_nil_of_le (by omega), List.append_nil] at rm27
  have ro27 := ro26.chg c27 (by have := hq9; omega)
  have r27 := r26.chg c27 (by have := hq6; omega)
  have o27 := o26.chg c27 (by omega)
  have fld27 : ∀ hh, Grow h27 hh → hload hh ⟨h.dyn.length, 2, some 0⟩ = some (.int .u64 (wi c)) ∧ hload hh ⟨h.dyn.length, 3, some 0⟩ = some (.int .u64 (wi lo)) ∧ hload hh ⟨h.dyn.length, 4, some 0⟩ = some (.int .u64 (wi hi)) ∧ hload hh ⟨h.dyn.length, 5, some 0⟩ = some (.slice bo i co) :=
    fun hh gg => ⟨(r27.grow gg).get (i := 2) rfl, (r27.grow gg).get (i := 3) rfl, (r27.grow gg).get (i := 4) rfl, (r27.grow gg).get (i := 5) rfl⟩
  have B27 := room_bytes rm27
  have R27 := ro27.reads
  obtain ⟨d27, _, _, _⟩ := fld27 h27 (Chg.refl _)
  simp [d27]
  refine got_call (Test_spec (c := c) (op := 4) B27 F23 (by omega) (by omega)) ?_
  rintro _ h28 ⟨p28, rfl, s28, g28⟩
  obtain ⟨d28, _, _, _⟩ := fld27 h28 g28
  simp
  refine got_call (twin2_spec (o27.reads.grow g28) (by omega)) ?_
  rintro u29 h29 ⟨q29, o29, g29, _, _⟩
  have g2729 := g28.trans g29
  obtain ⟨d29, _, _, _⟩ := fld27 h29 g2729
  simp [d28, d29]
  refine got_call (Test_spec (c := c) (op := 4) o29.bytes F23 (by omega) (by omega)) ?_
  rintro _ h30 ⟨p30, rfl, s30, g30⟩
  have g2730 := g2729.trans g30
  obtain ⟨_, _, _, d30⟩ := fld27 h30 g2730
  simp [d30, cutO]
  refine got_call (In_spec (B27.grow g2730) (R27.grow g2730) F23 (by omega)) ?_
  rintro _ h31 ⟨p31, rfl, s31, g31⟩
  have g2731 := g2730.trans g31
  obtain ⟨_, _, _, d31⟩ := fld27 h31 g2731
  simp
  refine got_call (twin2_spec (o27.reads.grow g2731) (by omega)) ?_
  rintro u32 h32 ⟨q32, o32, g32, _, _⟩
  have g2732 := g2731.trans g32
  obtain ⟨_, _, _, d32⟩ := fld27 h32 g2732
  simp [d31, d32, cutO]
  refine got_call (In_spec o32.bytes (R27.grow g2732) F23 (by omega)) ?_
  rintro _ h33 ⟨p33, rfl, s33, g33⟩
  have g2733 := g2732.trans g33
  obtain ⟨_, m33, n33, _⟩ := fld27 h33 g2733
  simp [m33, n33]
  refine got_call (Between_spec (lo := lo) (hi := hi) (B27.grow g2733) F23) ?_
  rintro _ h34 ⟨p34, rfl, s34, g34⟩
  have g2734 := g2733.trans g34
  obtain ⟨_, m34, n34, _⟩ := fld27 h34 g2734
  simp
  refine got_call (twin2_spec (o27.reads.grow g2734) (by omega)) ?_
  rintro u35 h35 ⟨q35, o35, g35, _, _⟩
  have g2735 := g2734.trans g35
  obtain ⟨_, m35, n35, _⟩ := fld27 h35 g2735
  simp [m34, n34, m35, n35]
  refine got_call (Between_spec (lo := lo) (hi := hi) o35.bytes F23) ?_
  rintro _ h36 ⟨p36, rfl, s36, g36⟩
  have g2736 := g2735.trans g36
  simp
  refine got_call (Sum_spec (B27.grow g2736) F23) ?_
  rintro _ _ ⟨rfl, rfl⟩
  rename_i h36
  simp
  refine got_call (twin2_spec (o27.reads.grow g2736) (by omega)) ?_
  rintro u37 h37 ⟨q37, o37, g37, _, _⟩
  simp
  refine got_call (Sum_spec o37.bytes F23) ?_
  rintro _ _ ⟨rfl, rfl⟩
  rename_i h37
  have g2737 := g2736.trans g37
  simp
  refine got_call (Ends_spec (B27.grow g2737) F23) ?_
  rintro _ _ ⟨rfl, rfl⟩
  rename_i h37
  simp
  refine got_call (twin2_spec (o27.reads.grow g2737) (by omega)) ?_
  rintro u38 h38 ⟨q38, o38, g38, _, _⟩
  simp
  refine got_call (Ends_spec o38.bytes F23) ?_
  rintro _ _ ⟨rfl, rfl⟩
  rename_i h38
  have gg3638 := g37.trans g38
  have gg3338 := (g34.trans g35).trans (g36.trans gg3638)
  have gg3038 := (g31.trans g32).trans (g33.trans gg3338)
  simp
  refine got_call (same_says ((s28.grow g29).grow (g30.trans gg3038)) (s30.grow gg3038) (fun _ _ => rfl)) ?_
  rintro _ _ ⟨rfl, rfl⟩
  rename_i h38
  simp
  refine got_call (same_says ((s31.grow g32).grow (g33.trans gg3338)) (s33.grow gg3338) (fun _ _ => rfl)) ?_
  rintro _ _ ⟨rfl, rfl⟩
  rename_i h38
  simp
  refine got_call (same_says ((s34.grow g35).grow (g36.trans gg3638)) (s36.grow gg3638) (fun _ _ => rfl)) ?_
  rintro _ _ ⟨rfl, rfl⟩
  rename_i h38
  simp
  exact hQ _ _ rfl

theorem own_law {h : Heap} {vL vOf : Value} {cs os : List (BitVec 64)} {nL nO : Nat} (rL : ArgS h vL (cs.map wv)) (rO : ArgS h vOf (os.map wv)) (eL : cs.length = nL) (eO : os.length = nO) (yL : nL * 8 ≤ 140737488351232) (yO : nO * 8 ≤ 140737488351232) (width : Int) {c lo hi : Int} (wc : (Lit.int .u64 c).wf = true) (wl : (Lit.int .u64 lo).wf = true) (wh : (Lit.int .u64 hi).wf = true) :
    Gives P T (.fn F_colonnadelaw03_LanesOwn) [.agg #[vL, .int .i64 width, .int .u64 c, .int .u64 lo, .int .u64 hi, vOf]] h fun r _ => r = .bool true := by
  obtain ⟨c, rfl⟩ := u64_of wc
  obtain ⟨lo, rfl⟩ := u64_of wl
  obtain ⟨hi, rfl⟩ := u64_of wh
  exact own_law_spec rL rO (by omega) (by omega) width c lo hi

end Go.Ax
