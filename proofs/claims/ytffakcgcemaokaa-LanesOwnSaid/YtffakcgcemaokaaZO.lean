/- Seat lanes: the law of the six comparisons. -/
import Derived.Test.YtffakcgcemaokaaZN
namespace Go.Ax
open Go.Proofs
set_option linter.unusedVariables false
set_option linter.unusedSimpArgs false

theorem SaysAt.chg {S : Nat → Prop} {h0 h h' : Heap} {p n : Nat} {f : Nat → Bool} (s : SaysAt h0 h p n f) (k : Chg S h h') (hs : ∀ b, S b → b < h0.dyn.length) : SaysAt h0 h' p n f := by
  obtain ⟨q, ws, s, c, b, f1, f2⟩ := s
  exact ⟨q, ws, s.chg k (fun e => by have := hs _ e; omega) (fun e => by have := hs _ e; omega), c, b, f1, f2⟩

theorem tL_set {f f' : Nat → Bool} {n i : Nat} {x : Bool} (hx : x = f' i) (h : ∀ k, k < n → k ≠ i → f k = f' k) : (tL f n).set i (.bool x) = tL f' n := by
  apply List.ext_getElem?
  intro k
  rw [List.getElem?_set, tL_len]
  by_cases hk : k < n
  · rw [tL_get hk, tL_get hk]
    by_cases hik : i = k
    · subst hik; simp [hk, hx]
    · rw [if_neg hik, h k hk (fun e => hik e.symm)]
  · rw [List.getElem?_eq_none (by rw [tL_len]; omega), List.getElem?_eq_none (l := tL f' n) (by rw [tL_len]; omega)]
    simp [hk]; omega

theorem tL_congr {f f' : Nat → Bool} {n : Nat} (h : ∀ k, k < n → f k = f' k) : tL f n = tL f' n := by
  unfold tL
  apply List.map_congr_left
  intro k hk
  rw [h k (by simpa using hk)]

theorem row_reads {h : Heap} {q : Nat} {l : List Value} {n c : Nat} (r : RowAt h q 0 1 l) (hn : l.length = n) : Reads h (.slice (some ⟨q, 0, some 0⟩) n c) l := by
  subst hn
  exact .inr ⟨_, _, rfl, fun i x hx => by simpa using r.get hx⟩

theorem listed_spec {h : Heap} {vL vOf v : Value} {bs : List (BitVec 8)} {os : List (BitVec 64)} (rB : Bytes h v bs) (rO : Reads h vOf (os.map wv)) (hos : os.length * 8 ≤ 140737488351232) (width : Int) (c lo hi : BitVec 64) {w n : Nat} (F : Fine bs w n) :
    Gives P T (.fn F_colonnadelaw03_listed) [.agg (listC vL vOf width c lo hi).toArray, v, .int .i64 w, .int .i64 n] h fun r _ => r = .bool true := by
  refine gives_by t_colonnadelaw03_listed (by simp [c_colonnadelaw03_listed]) fun Q hQ => ?_
  have gn := F.nle
  obtain ⟨bo, co, eo, hro⟩ := rO.shape
  simp only [List.length_map] at hro eo
  obtain ⟨m, hm⟩ : ∃ m, os.length = m := ⟨_, rfl⟩
  rw [hm] at hro eo
  simp [c_colonnadelaw03_listed]
  have gb := Grow.new h (listC vL vOf width c lo hi) 0
  have rb := RowAt.new h (listC vL vOf width c lo hi) 0
  simp [rb.get (i := 5) (x := vOf) rfl]
  refine got_call (In_spec (rB.grow gb) (rO.grow gb) F (by omega)) ?_
  rintro _ h2 ⟨p2, rfl, s2, g2⟩
  have G2 := gb.trans g2
  simp
  refine got_call (count_says s2) ?_
  rintro _ _ ⟨⟨m2, rfl⟩, rfl⟩
  rename_i h2
  have neg : ∀ m : Nat, ¬ (m : Int) < 0 := fun m => by omega
  simp [neg, mkS_nat (h := h2) (bytes := 1) (n := n) (z := .bool false) (by omega) (by omega)]
  have ez : List.replicate n (Value.bool false) = tL (fun k => anyB os (laneB bs w k) 0) n := by
    apply List.ext_getElem?
    intro k
    by_cases hk : k < n
    · rw [tL_get hk]; simp [hk, anyB]
    · rw [List.getElem?_eq_none (by simp; omega), List.getElem?_eq_none (by rw [tL_len]; omega)]
  have row0 : RowAt (hnew h2 (List.replicate n (.bool false)) 1) h2.dyn.length 0 1 (tL (fun k => anyB os (laneB bs w k) 0) n) := by rw [← ez]; exact RowAt.new _ _ _
  subst eo
  refine go_loopK (fun kk ks hh => ∃ (j : Nat), kk = m - j ∧ j ≤ m ∧ ks = [(1, v), (2, .int .i64 w), (3, .int .i64 n), (4, .pointer (some ⟨h.dyn.length, 0, some 0⟩)), (9, ptr p2), (11, .slice (some ⟨h2.dyn.length, 0, some 0⟩) n n), (12, .int .i64 j)] ∧
      RowAt hh h2.dyn.length 0 1 (tL (fun k => anyB os (laneB bs w k) j) n) ∧ Grow h2 hh) (n := m)
    ⟨0, rfl, by omega, rfl, row0, Grow.new _ _ _⟩ (by simp [ptr]) ?_
  rintro I hI kk ks e h3 ⟨j, rfl, hj, rfl, row, g3⟩
  have lof := (rb.grow (g2.trans g3)).get (i := 5) (x := .slice bo m co) rfl
  simp [lof]
  refine branch_dec (fun hlt => ?_) (fun hge => ?_)
  · have hjm : j < m := by omega
    obtain ⟨a, rfl, hla⟩ := hro j hjm
    have hld := hload_grow (G2.trans g3) (hla j _ (wordL_get (by omega)))
    have e5 : IntKind.i64.wrap ((j : Int) + 1) = ((j + 1 : Nat) : Int) := by rw [wrap_i64 (by omega) (by omega)]; omega
    simp [lof, hjm, hld]
    refine got_call (Test_spec (c := wordL os j) (op := 1) (rB.grow (G2.trans g3)) F (by omega) (by omega)) ?_
    rintro _ h4 ⟨p4, rfl, s4, g4⟩
    have hlt4 := row.lt
    simp
    refine got_call (count_says s4) ?_
    rintro _ _ ⟨⟨m4, rfl⟩, rfl⟩
    rename_i h4
    simp [neg]
    refine go_loopK (fun kk ks hh => ∃ (i : Nat), kk = n - i ∧ i ≤ n ∧ ks = [(1, v), (2, .int .i64 w), (3, .int .i64 n), (4, .pointer (some ⟨h.dyn.length, 0, some 0⟩)), (9, ptr p2), (11, .slice (some ⟨h2.dyn.length, 0, some 0⟩) n n), (12, .int .i64 j), (13, ptr p4), (15, .int .i64 i)] ∧
        RowAt hh h2.dyn.length 0 1 (tL (fun k => anyB os (laneB bs w k) j || (decide (k < i) && stB 1 (laneB bs w k) (wordL os j))) n) ∧ SaysAt h3 hh p4 n (fun k => stB 1 (laneB bs w k) (wordL os j)) ∧ Grow h2 hh) (n := n)
      ⟨0, rfl, by omega, rfl, by simpa using row.grow g4, s4, g3.trans g4⟩ (by simp [ptr]) ?_
    rintro I2 hI2 kk2 ks2 e2 h5 ⟨i, rfl, hi, rfl, row5, s5, g5⟩
    simp
    refine branch_dec (fun hlt2 => ?_) (fun hge2 => ?_)
    · have hil : i < n := by omega
      have e6 : IntKind.i64.wrap ((i : Int) + 1) = ((i + 1 : Nat) : Int) := by rw [wrap_i64 (by omega) (by omega)]; omega
      have hl5 := row5.get (tL_get hil)
      have st := fun x => row5.store (i := i) (by rw [tL_len]; exact hil) (x := .bool x) (by simp)
      cases hb : anyB os (laneB bs w i) j with
      | true =>
        simp [hb] at hl5
        obtain ⟨h6, e7, row6, c6, n6⟩ := st true
        simp [hil, hl5, skipV, e6, e7]
        refine ⟨n - (i + 1), by omega, hI2 _ _ _ _ ⟨i + 1, rfl, by omega, rfl, ?_, s5.chg c6 (fun b hb => by omega), g5.after c6 fun n hn hb => by omega⟩ (by simp [ptr])⟩
        rw [tL_set (f' := fun k => anyB os (laneB bs w k) j || (decide (k < i + 1) && stB 1 (laneB bs w k) (wordL os j)))] at row6
        · exact row6
        · simp [hb]
        · intro k hk hki; simp only [dec_succ hki]
      | false =>
        simp [hb] at hl5
        obtain ⟨h6, e7, row6, c6, n6⟩ := st (stB 1 (laneB bs w i) (wordL os j))
        simp [hil, hl5]
        refine got_call (get_says s5 hil) ?_
        rintro _ _ ⟨rfl, rfl⟩
        simp [hil, e6, e7]
        refine ⟨n - (i + 1), by omega, hI2 _ _ _ _ ⟨i + 1, rfl, by omega, rfl, ?_, s5.chg c6 (fun b hb => by omega), g5.after c6 fun n hn hb => by omega⟩ (by simp [ptr])⟩
        rw [tL_set (f' := fun k => anyB os (laneB bs w k) j || (decide (k < i + 1) && stB 1 (laneB bs w k) (wordL os j)))] at row6
        · exact row6
        · simp [hb]
        · intro k hk hki; simp only [dec_succ hki]
    · have hil : i = n := by omega
      subst hil
      simp [e5]
      refine ⟨m - (j + 1), by omega, hI _ _ _ _ ⟨j + 1, rfl, by omega, rfl, ?_, g5⟩ (by simp [ptr])⟩
      rw [tL_congr (f' := fun k => anyB os (laneB bs w k) (j + 1))] at row5
      · exact row5
      · intro k hk
        simp [hk, anyB, stB, wordL]
  · have hjm : j = m := by omega
    subst hjm
    simp
    obtain ⟨q, ws, sS, cn, hb, _, _⟩ := s2.grow g3
    refine got_call (like_true sS cn (row_reads row (tL_len _ _)) fun i hi => ?_) ?_
    · rw [hb]; simp [hi, hm]
    rintro _ _ ⟨rfl, rfl⟩
    simp
    exact hQ _ _ rfl


theorem six (x c : BitVec 64) : (stB 1 x c = false ∧ stB 2 x c = true ∧ stB 3 x c = true ∧ stB 4 x c = true ∧ stB 5 x c = false ∧ stB 6 x c = false) ∨
    (stB 1 x c = true ∧ stB 2 x c = false ∧ stB 3 x c = false ∧ stB 4 x c = true ∧ stB 5 x c = false ∧ stB 6 x c = true) ∨
    (stB 1 x c = false ∧ stB 2 x c = true ∧ stB 3 x c = false ∧ stB 4 x c = false ∧ stB 5 x c = true ∧ stB 6 x c = true) := by
  have hwi : x = c ↔ wi x = wi c := ⟨fun e => by rw [e], fun e => BitVec.eq_of_toNat_eq (by unfold wi at e; omega)⟩
  rcases Int.lt_trichotomy (wi x) (wi c) with h | h | h
  · have h1 : ¬ wi x = wi c := by omega
    have h2 : wi x ≤ wi c := by omega
    have h3 : ¬ wi c < wi x := by omega
    have h4 : ¬ wi c ≤ wi x := by omega
    left; simp [stB, hwi, h, h1, h2, h3, h4]
  · right; left; simp [stB, hwi, h]
  · have h1 : ¬ wi x = wi c := by omega
    have h2 : wi c ≤ wi x := by omega
    have h3 : ¬ wi x < wi c := by omega
    have h4 : ¬ wi x ≤ wi c := by omega
    right; right; simp [stB, hwi, h, h1, h2, h3, h4]

@[simp] theorem iadA_lit {h : Heap} {es n : Nat} {a : Addr} {kd : IntKind} {i : Int} (h0 : 0 ≤ i) (h1 : i < n) : iadAR h n es (.pointer (some a)) (.int kd i) = some (.pointer (some (aadd a (i.toNat * es))), h) := by
  unfold iadAR; simp only; rw [if_pos ⟨h0, h1⟩]

theorem algebra_spec {h : Heap} {vL vOf : Value} {cs os : List (BitVec 64)} (rL : ArgS h vL (cs.map wv)) (rO : ArgS h vOf (os.map wv)) (hcs : cs.length * 8 ≤ 140737488351232) (hos : os.length * 8 ≤ 140737488351232) (width : Int) (c lo hi : BitVec 64) :
    Gives P T (.fn F_colonnadelaw03_LanesAlgebra) [.agg (listC vL vOf width c lo hi).toArray] h fun r _ => r = .bool true := by
  refine gives_by t_colonnadelaw03_LanesAlgebra (by simp [c_colonnadelaw03_LanesAlgebra]) fun Q hQ => ?_
  obtain ⟨w, hw⟩ : ∃ w : Nat, width % 65 = w := ⟨(width % 65).toNat, by have := Int.emod_nonneg width (show (65 : Int) ≠ 0 by omega); omega⟩
  have hw65 : w < 65 := by have := Int.emod_lt_of_pos width (show (0 : Int) < 65 by omega); omega
  simp [c_colonnadelaw03_LanesAlgebra]
  have gb := Grow.new h (listC vL vOf width c lo hi) 0
  have rb := RowAt.new h (listC vL vOf width c lo hi) 0
  refine got_call known_spec ?_
  rintro _ h2 ⟨rfl, g2⟩
  have r2 := rb.grow g2
  have l2 := loadN_row_all r2 (n := 6) rfl
  simp [l2]
  refine got_call (fit_spec ((rL.reads.grow gb).grow g2) hcs width c lo hi hw) ?_
  rintro _ h3 ⟨u, q, rfl, o3, g3, hq3⟩
  have r3 := r2.grow g3
  have G3 := (gb.trans g2).trans g3
  obtain ⟨ds, hds⟩ : ∃ ds, cs.map (maskB w) = ds := ⟨_, rfl⟩
  have hfit : allFit ds w := by rw [← hds]; exact fit_all (by omega)
  rw [hds] at o3
  obtain ⟨n, hn⟩ : ∃ n, ds.length = n := ⟨_, rfl⟩
  have hul : ∀ h, lenR h u = some (.int .i64 n, h) := fun h => by
    obtain ⟨b, cc, e, _⟩ := o3.shape
    rw [e]; simp [hn]
  simp [hul]
  by_cases hlg : 16777216 < n
  · have : (16777216 : Int) < n := by omega
    simp [this]
    exact hQ _ _ rfl
  have hlg' : ¬ (16777216 : Int) < n := by omega
  simp [hlg']
  refine got_call (Pack_uint64_spec (cs := ds) (w := w) (wvkv ds ▸ o3.reads) (by omega) (by omega)) ?_
  rintro _ h4 ⟨g4, ⟨hnf, _⟩ | ⟨u4, q4, b4, _, rfl, o4, hq4, p4, _⟩⟩
  · exact absurd hfit hnf
  have r4 := r3.grow g4
  have R4 := (rO.reads.grow G3).grow g4
  have F4 := packs_fine p4 (by omega) (by omega : w ≤ 64)
  rw [hn] at F4
  have neg : ∀ m : Nat, ¬ (m : Int) < 0 := fun m => by omega
  simp
  refine go_loopK (fun k ks hh => ∃ (op : Nat) (L : List Value), k = 7 - op ∧ 1 ≤ op ∧ op ≤ 7 ∧ ks = [(1, .pointer (some ⟨h.dyn.length, 0, some 0⟩)), (4, .int .i64 w), (5, .int .i64 n), (6, u4), (8, .pointer (some ⟨h4.dyn.length, 0, some 0⟩)), (9, .int .i64 op)] ∧
      L.length = 7 ∧ (∀ k : Nat, 1 ≤ k → k < op → ∃ p, L[k]? = some (ptr p) ∧ SaysAt (hnew h4 (List.replicate 7 (.pointer none)) 0) hh p n (fun j => stB k (laneB b4 w j) c)) ∧ RowAt hh h4.dyn.length 0 0 L ∧ Grow h4 hh) (n := 6)
    ⟨1, List.replicate 7 (.pointer none), rfl, by omega, by omega, rfl, rfl, fun k h1 h2 => by omega, RowAt.new _ _ _, Grow.new _ _ _⟩ (by simp) ?_
  rintro I hI k ks e h5 ⟨op, L, rfl, ho1, ho7, rfl, hL, hS, row, g5⟩
  have hlen5 := row.lt
  simp
  refine branch_dec (fun hlt => ?_) (fun hge => ?_)
  · have ho6 : op ≤ 6 := by omega
    have e4 : IntKind.i64.wrap ((op : Int) + 1) = ((op + 1 : Nat) : Int) := by rw [wrap_i64 (by omega) (by omega)]; omega
    have lc5 := (r4.grow g5).get (i := 2) (x := .int .u64 (wi c)) rfl
    simp [lc5]
    refine got_call (Test_spec (c := c) (op := op) (o4.bytes.grow g5) F4 (by omega) (by omega)) ?_
    rintro _ h6 ⟨p6, rfl, s6, g6⟩
    simp
    refine got_call (count_says s6) ?_
    rintro _ _ ⟨⟨m6, rfl⟩, rfl⟩
    rename_i h6
    obtain ⟨h7, e7, row7, c7, n7⟩ := (row.grow g6).store (i := op) (by omega) (x := ptr p6) (by simp [ptr])
    have ho7' : op < 7 := by omega
    simp only [ptr] at e7
    simp [neg, ptr, ho7', e7, e4]
    refine ⟨7 - (op + 1), by omega, hI _ _ _ _ ⟨op + 1, L.set op (ptr p6), rfl, by omega, by omega, rfl, by simpa using hL, ?_, row7, (g5.trans g6).after c7 fun n hn hb => by omega⟩ (by simp)⟩
    intro k h1 h2
    by_cases hk : k = op
    · subst hk
      exact ⟨p6, by simp [List.getElem?_set]; omega, (s6.base (by simp; omega)).chg c7 fun b hb => by simp; omega⟩
    · obtain ⟨p, e1, e2⟩ := hS k h1 (by omega)
      exact ⟨p, by rw [List.getElem?_set_ne (fun e => hk e.symm)]; exact e1, (e2.grow g6).chg c7 fun b hb => by simp; omega⟩
  · have ho : op = 7 := by omega
    subst ho
    obtain ⟨p1, a1, s1⟩ := hS 1 (by omega) (by omega)
    obtain ⟨p2, a2, s2⟩ := hS 2 (by omega) (by omega)
    obtain ⟨p3, a3, s3⟩ := hS 3 (by omega) (by omega)
    obtain ⟨p4, a4, s4⟩ := hS 4 (by omega) (by omega)
    obtain ⟨p5, a5, s5⟩ := hS 5 (by omega) (by omega)
    obtain ⟨p6, a6, s6⟩ := hS 6 (by omega) (by omega)
    have l1 := row.get a1
    have l2 := row.get a2
    have l3 := row.get a3
    have l4 := row.get a4
    have l5 := row.get a5
    have l6 := row.get a6
    simp
    refine go_loopK (fun k ks hh => ∃ (i : Nat), k = n - i ∧ i ≤ n ∧ ks = [(1, .pointer (some ⟨h.dyn.length, 0, some 0⟩)), (4, .int .i64 w), (5, .int .i64 n), (6, u4), (8, .pointer (some ⟨h4.dyn.length, 0, some 0⟩)), (12, .int .i64 i)] ∧ hh = h5) (n := n)
      ⟨0, rfl, by omega, rfl, rfl⟩ (by simp) ?_
    rintro I2 hI2 k2 ks2 e2 h6 ⟨i, rfl, hin, rfl, rfl⟩
    simp
    refine branch_dec (fun hlt2 => ?_) (fun hge2 => ?_)
    · have hil : i < n := by omega
      have e5 : IntKind.i64.wrap ((i : Int) + 1) = ((i + 1 : Nat) : Int) := by rw [wrap_i64 (by omega) (by omega)]; omega
      rcases six (laneB b4 w i) c with ⟨b1, b2, b3, b4', b5, b6⟩ | ⟨b1, b2, b3, b4', b5, b6⟩ | ⟨b1, b2, b3, b4', b5, b6⟩
      all_goals
        simp [l3]
        refine got_call (get_says s3 hil) ?_
        rintro _ _ ⟨rfl, rfl⟩
        rename_i h6
        simp [b3, l1]
        refine got_call (get_says s1 hil) ?_
        rintro _ _ ⟨rfl, rfl⟩
        rename_i h6
        simp [b1, l5]
        refine got_call (get_says s5 hil) ?_
        rintro _ _ ⟨rfl, rfl⟩
        rename_i h6
        simp [b5, l2]
        refine got_call (get_says s2 hil) ?_
        rintro _ _ ⟨rfl, rfl⟩
        rename_i h6
        simp [b2, l6]
        refine got_call (get_says s6 hil) ?_
        rintro _ _ ⟨rfl, rfl⟩
        rename_i h6
        simp [b6, l4]
        refine got_call (get_says s4 hil) ?_
        rintro _ _ ⟨rfl, rfl⟩
        rename_i h6
        simp [b4', e5]
        exact ⟨n - (i + 1), by omega, hI2 _ _ _ _ ⟨i + 1, rfl, by omega, rfl, rfl⟩ (by simp)⟩
    · have hil : i = n := by omega
      subst hil
      have llo := (r4.grow g5).get (i := 3) (x := .int .u64 (wi lo)) rfl
      simp [llo]
      refine got_call (Test_spec (c := lo) (op := 6) (o4.bytes.grow g5) F4 (by omega) (by omega)) ?_
      rintro _ h7 ⟨q7, rfl, s7, g7⟩
      have lhi := ((r4.grow g5).grow g7).get (i := 4) (x := .int .u64 (wi hi)) rfl
      simp [lhi]
      refine got_call (Test_spec (c := hi) (op := 4) ((o4.bytes.grow g5).grow g7) F4 (by omega) (by omega)) ?_
      rintro _ h8 ⟨q8, rfl, s8, g8⟩
      have llo8 := (((r4.grow g5).grow g7).grow g8).get (i := 3) (x := .int .u64 (wi lo)) rfl
      have lhi8 := (((r4.grow g5).grow g7).grow g8).get (i := 4) (x := .int .u64 (wi hi)) rfl
      simp [llo8, lhi8]
      refine got_call (Between_spec (lo := lo) (hi := hi) (((o4.bytes.grow g5).grow g7).grow g8) F4) ?_
      rintro _ h9 ⟨q9, rfl, s9, g9⟩
      have S7 := (s7.grow g8).grow g9
      have S8 := s8.grow g9
      have G9 := ((g5.trans g7).trans g8).trans g9
      simp
      refine got_call (count_says S7) ?_
      rintro _ _ ⟨⟨m7, rfl⟩, rfl⟩
      rename_i h9
      simp [neg]
      refine got_call (count_says S8) ?_
      rintro _ _ ⟨⟨m8, rfl⟩, rfl⟩
      rename_i h9
      simp [neg]
      refine got_call (count_says s9) ?_
      rintro _ _ ⟨⟨m9, rfl⟩, rfl⟩
      rename_i h9
      simp [neg]
      refine go_loopK (fun k ks hh => ∃ (j : Nat), k = i - j ∧ j ≤ i ∧ ks = [(1, .pointer (some ⟨h.dyn.length, 0, some 0⟩)), (4, .int .i64 w), (5, .int .i64 i), (6, u4), (16, ptr q7), (18, ptr q8), (20, ptr q9), (22, .int .i64 j)] ∧ hh = h9) (n := i)
        ⟨0, rfl, by omega, rfl, rfl⟩ (by simp [ptr]) ?_
      rintro I3 hI3 k3 ks3 e3 h10 ⟨j, rfl, hj, rfl, rfl⟩
      simp
      refine branch_dec (fun hlt3 => ?_) (fun hge3 => ?_)
      · have hji : j < i := by omega
        have e5 : IntKind.i64.wrap ((j : Int) + 1) = ((j + 1 : Nat) : Int) := by rw [wrap_i64 (by omega) (by omega)]; omega
        simp
        refine got_call (get_says s9 hji) ?_
        rintro _ _ ⟨rfl, rfl⟩
        rename_i h10
        simp
        refine got_call (get_says S7 hji) ?_
        rintro _ _ ⟨rfl, rfl⟩
        rename_i h10
        by_cases hlo : wi lo ≤ wi (laneB b4 w j)
        · simp [stB, hlo]
          refine got_call (get_says S8 hji) ?_
          rintro _ _ ⟨rfl, rfl⟩
          rename_i h10
          simp [stB, e5]
          exact ⟨i - (j + 1), by omega, hI3 _ _ _ _ ⟨j + 1, rfl, by omega, rfl, rfl⟩ (by simp [ptr])⟩
        · simp [stB, hlo, skipV, e5]
          exact ⟨i - (j + 1), by omega, hI3 _ _ _ _ ⟨j + 1, rfl, by omega, rfl, rfl⟩ (by simp [ptr])⟩
      · have r9 := loadN_row_all (r4.grow G9) (n := 6) rfl
        simp [r9]
        refine got_call (listed_spec (o4.bytes.grow G9) (R4.grow G9) hos width c lo hi F4) ?_
        rintro _ h11 rfl
        simp
        exact hQ _ _ rfl

theorem algebra_law {h : Heap} {vL vOf : Value} {cs os : List (BitVec 64)} {nL nO : Nat} (rL : ArgS h vL (cs.map wv)) (rO : ArgS h vOf (os.map wv)) (eL : cs.length = nL) (eO : os.length = nO) (yL : nL * 8 ≤ 140737488351232) (yO : nO * 8 ≤ 140737488351232) (width : Int) {c lo hi : Int} (wc : (Lit.int .u64 c).wf = true) (wl : (Lit.int .u64 lo).wf = true) (wh : (Lit.int .u64 hi).wf = true) :
    Gives P T (.fn F_colonnadelaw03_LanesAlgebra) [.agg #[vL, .int .i64 width, .int .u64 c, .int .u64 lo, .int .u64 hi, vOf]] h fun r _ => r = .bool true := by
  obtain ⟨c, rfl⟩ := u64_of wc
  obtain ⟨lo, rfl⟩ := u64_of wl
  obtain ⟨hi, rfl⟩ := u64_of wh
  exact algebra_spec rL rO (by omega) (by omega) width c lo hi

end Go.Ax
