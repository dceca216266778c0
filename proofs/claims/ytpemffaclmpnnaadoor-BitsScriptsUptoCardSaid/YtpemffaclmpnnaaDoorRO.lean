/- Seat bits: a step that answers something else than a set. -/
import Derived.Test.YtpemffaclmpnnaaDoorRL
namespace Go.Ax
open Go.Proofs
set_option linter.unusedVariables false
set_option linter.unusedSimpArgs false
set_option maxRecDepth 100000

theorem filt_get {f : Nat → Bool} : ∀ {n k i : Nat}, (filt f n)[k]? = some i → f i = true ∧ cnt f i = k ∧ i < n
  | 0, k, i, h => by simp [filt] at h
  | n + 1, k, i, h => by
    rw [filt_step] at h
    split at h
    · rename_i hf
      by_cases hk : k < (filt f n).length
      · rw [List.getElem?_append_left hk] at h
        obtain ⟨h1, h2, h3⟩ := filt_get h
        exact ⟨h1, h2, by omega⟩
      · rw [List.getElem?_append_right (by omega)] at h
        have hk2 : k - (filt f n).length = 0 := by
          have := (List.getElem?_eq_some_iff.1 h).1
          simp at this; omega
        rw [hk2] at h
        simp at h
        subst h
        exact ⟨hf, by rw [← filt_len]; omega, by omega⟩
    · obtain ⟨h1, h2, h3⟩ := filt_get h
      exact ⟨h1, h2, by omega⟩

theorem aslice_lo0 {h : Heap} {v x : Value} : aslice h 1 v none (some x) none = aslice h 1 v (some (.int .i64 0)) (some x) none := by
  have ob : ∀ u : Nat, optBound (some (.int .i64 0)) u 0 = some 0 := fun u => by simp [optBound, asliceBound]
  have ob0 : ∀ u : Nat, optBound none u 0 = some 0 := fun u => rfl
  cases v with
  | slice b l c =>
    cases b with
    | none => simp only [aslice, cutK, ob, ob0]
    | some a => simp [aslice, cutK, ob, ob0]
  | _ => rfl

theorem Own.cut0 {h : Heap} {v : Value} {q : Nat} {l : List Value} (o : Own h v q l) {t : Nat} (ht : t ≤ l.length) :
    ∃ u, aslice h 1 v none (some (.int .i64 t)) none = some u ∧ Reads h u (l.take t) := by
  obtain ⟨u, e, r⟩ := o.cut (f := 0) (t := t) (by omega) ht
  rw [aslice_lo0]
  exact ⟨u, e, by simpa using r⟩

def selO (k : Int) (bs : List Bool) : Value := if 0 ≤ k ∧ k < (filt (hold bs) bs.length).length then .tuple #[.int .i64 ((filt (hold bs) bs.length).getD k.toNat 0 : Nat), .bool true] else .tuple #[.int .i64 0, .bool false]

section
variable {h : Heap} {v : Value} {p q : Nat} {o : Option (List Bool)}

theorem pCount (s : PSet h v p q o) : Gives P T (.fn F_bits_Set_Count) [v] h fun u h' => u = .int .i64 (cnt (hold (o.getD [])) (o.getD []).length) ∧ h' = h := by
  cases o with
  | none =>
    obtain rfl : v = nilP := s
    exact count_nil
  | some bs =>
    obtain ⟨rfl, ws, st, cn, hb⟩ := s
    refine (count_spec st cn).mono ?_
    rintro _ _ ⟨rfl, rfl⟩
    exact ⟨by rw [cnt_congr bs.length fun i _ => hb i]; rfl, rfl⟩

theorem pRank (s : PSet h v p q o) (x : Int) : Gives P T (.fn F_bits_Set_Rank) [v, .int .i64 x] h fun u h' => u = .int .i64 (cnt (hold (o.getD [])) (min (max x 0) (o.getD []).length).toNat) ∧ h' = h := by
  cases o with
  | none =>
    obtain rfl : v = nilP := s
    refine rank_nil.mono ?_
    rintro _ _ ⟨rfl, rfl⟩
    have : (min (max x 0) (((none : Option (List Bool)).getD []).length : Int)).toNat = 0 := by simp; omega
    rw [this]
    exact ⟨rfl, rfl⟩
  | some bs =>
    obtain ⟨rfl, ws, st, cn, hb⟩ := s
    refine (rank_spec st cn x).mono ?_
    rintro _ _ ⟨rfl, rfl⟩
    exact ⟨by rw [cnt_congr _ fun i _ => hb i]; rfl, rfl⟩

theorem pSelect {L : Nat → Nat → Option Value} (hro : h.ro = roBlk tabG L) (s : PSet h v p q o) (k : Int) (hk : k < 9223372036854775808) : Gives P T (.fn F_bits_Set_Select) [v, .int .i64 k] h fun u h' => u = selO k (o.getD []) ∧ h' = h := by
  cases o with
  | none =>
    obtain rfl : v = nilP := s
    refine select_nil.mono ?_
    rintro _ _ ⟨rfl, rfl⟩
    refine ⟨?_, rfl⟩
    unfold selO
    rw [if_neg (by simp [filt])]
  | some bs =>
    obtain ⟨rfl, ws, st, cn, hb⟩ := s
    refine (select_spec hro st cn k hk).mono ?_
    rintro u _ ⟨sl, rfl⟩
    refine ⟨?_, rfl⟩
    unfold selO
    simp only [Option.getD_some]
    split
    · rename_i hk2
      obtain ⟨j, rfl⟩ : ∃ j : Nat, k = j := ⟨k.toNat, by omega⟩
      have hj : j < (filt (hold bs) bs.length).length := by omega
      have hg := List.getElem?_eq_getElem hj
      obtain ⟨f1, f2, f3⟩ := filt_get hg
      rw [Int.toNat_natCast, List.getD_eq_getElem?_getD, hg, Option.getD_some]
      exact sl.found _ (by rw [hb]; exact f1) (by rw [cnt_congr _ fun i _ => hb i, f2])
    · rename_i hk2
      refine sl.none ?_
      rw [filt_len] at hk2
      rw [cnt_congr bs.length fun i _ => hb i]
      omega

theorem pGet (s : PSet h v p q o) (i : Int) : Gives P T (.fn F_bits_Set_Get) [v, .int .i64 i] h fun u h' => u = .bool (decide (0 ≤ i) && hold (o.getD []) i.toNat) ∧ h' = h := by
  cases o with
  | none =>
    obtain rfl : v = nilP := s
    refine get_nil.mono ?_
    rintro _ _ ⟨rfl, rfl⟩
    exact ⟨by simp [hold], rfl⟩
  | some bs =>
    obtain ⟨rfl, ws, st, cn, hb⟩ := s
    refine (get_spec st cn i).mono ?_
    rintro _ _ ⟨rfl, rfl⟩
    exact ⟨by rw [hb]; rfl, rfl⟩

theorem pLen (s : PSet h v p q o) : Gives P T (.fn F_bits_Set_Len) [v] h fun u h' => u = .int .i64 (o.getD []).length ∧ h' = h := by
  cases o with
  | none =>
    obtain rfl : v = nilP := s
    exact len_nil
  | some bs =>
    obtain ⟨rfl, ws, st, cn, hb⟩ := s
    exact len_spec st

theorem pWords (s : PSet h v p q o) : Gives P T (.fn F_bits_Set_Words) [v] h fun u h' => ∃ ws, Reads h' u (ws.map wv) ∧ Canon (o.getD []).length ws ∧ (∀ i, bit ws i = hold (o.getD []) i) ∧ Grow h h' := by
  cases o with
  | none =>
    obtain rfl : v = nilP := s
    refine words_nil.mono ?_
    rintro _ _ ⟨rfl, rfl⟩
    exact ⟨[], .inl ⟨rfl, rfl⟩, ⟨rfl, by simp, fun i _ => by simp [bit, word]⟩, fun i => by simp [bit, word, hold], Chg.refl _⟩
  | some bs =>
    obtain ⟨rfl, ws, st, cn, hb⟩ := s
    refine (Words_spec st (by have := cn.len; have := cn.le; omega)).mono ?_
    rintro _ h' ⟨b', c', q', rfl, w', g, _⟩
    refine ⟨ws, ?_, cn, hb, g⟩
    rcases w' with ⟨rfl, rfl, rfl⟩ | ⟨x, rfl, rx, _, _⟩
    · exact .inl ⟨rfl, rfl⟩
    · exact .inr ⟨_, _, by simp; exact ⟨rfl, rfl⟩, fun i y hy => by simpa using rx.get hy⟩

theorem pWalked {L : Nat → Nat → Option Value} (hro : h.ro = roBlk tabG L) (s : PSet h v p q o) (m : Int) : Gives P T (.fn F_colonnadelaw01_walked) [v, .int .i64 m] h fun u h' => Reads h' u (iL (wlI m (filt (hold (o.getD [])) (o.getD []).length))) ∧ GrowL h h' := by
  cases o with
  | none =>
    obtain rfl : v = nilP := s
    refine walked_nil.mono ?_
    rintro _ h' ⟨rfl, g⟩
    exact ⟨.inl ⟨rfl, by simp [filt, wlI, iL]⟩, g⟩
  | some bs =>
    obtain ⟨rfl, ws, st, cn, hb⟩ := s
    refine (walkedP hro (m := m) st cn).mono ?_
    rintro _ h' ⟨q', ow, g⟩
    rw [filt_congr bs.length fun i _ => hb i] at ow
    exact ⟨ow.reads, g⟩
end

theorem WI.same {h h' : Heap} {x : Nat} {D : Nat → Pl} (w : WI h x D) (c : Chg (· = x) h h') (r : RowAt h' x 0 0 (wcells D)) : WI h' x D := by
  have hl := c.len
  refine ⟨r, fun i hi => (w.ok i hi).chgL c.l (fun e => by have := w.lt i hi e; exact ⟨this.2.2.1, this.2.2.2⟩) (fun e => (w.hlt i hi e).2), fun i hi e => ?_, fun i hi e => ?_, w.ap, w.hap⟩
  · have := w.lt i hi e; exact ⟨by omega, by omega, this.2.2⟩
  · have := w.hlt i hi e; exact ⟨by omega, this.2⟩

/-- A place of the world is written: the document's set there. -/
theorem WI.store {h : Heap} {x : Nat} {D : Nat → Pl} (w : WI h x D) {A : Nat} (hA : A < 6) {b : Bool} {hv : Value} (hg : goodC hv = true) :
    ∃ h', storeN h ⟨x, 6 + A * 2, some 0⟩ [.bool b, hv] = some h' ∧ RowAt h' x 0 0 (((wcells D).set (6 + A * 2) (.bool b)).set (6 + A * 2 + 1) hv) ∧ Chg (· = x) h h' ∧ h'.dyn.length = h.dyn.length := by
  obtain ⟨h1, e1, r1, c1, n1⟩ := w.row.store (i := 6 + A * 2) (by simp [wcells]; omega) (x := .bool b) (by simp)
  obtain ⟨h2, e2, r2, c2, n2⟩ := r1.store (i := 6 + A * 2 + 1) (by simp [wcells]; omega) (x := hv) hg
  exact ⟨h2, by simp [storeN, e1, e2], r2, c1.trans c2, by omega⟩

theorem WI.update {h h' : Heap} {x : Nat} {D : Nat → Pl} (w : WI h x D) {A : Nat} (hA : A < 6) {d : Pl} (ho : (D A).o ≠ none) (hp : d.p = (D A).p) (hq : d.q = (D A).q) (ok : d.ok h') (hh : d.hv ≠ nilS → h.dyn.length ≤ d.hq ∧ d.hq < h'.dyn.length)
    (c : ChgL (fun b => b = x ∨ b = (D A).q) h h') (r : RowAt h' x 0 0 (wcells fun j => if j = A then d else D j)) : WI h' x (fun j => if j = A then d else D j) := by
  have hl : h.dyn.length ≤ h'.dyn.length := c.len
  have hx := w.row.lt
  have la := w.lt A hA ho
  refine ⟨r, fun i hi => ?_, fun i hi => ?_, fun i hi => ?_, fun i j hi hj hij => ?_, fun i j hi hj => ?_⟩
  · by_cases e : i = A
    · simp only [e, if_true]; exact ok
    · simp only [if_neg e]
      refine (w.ok i hi).chgL c (fun e2 => ?_) (fun e2 => ?_)
      · have l := w.lt i hi e2
        have a := w.ap A i hA hi (fun h => e h.symm) ho e2
        exact ⟨fun s => by rcases s with s | s <;> omega, fun s => by rcases s with s | s <;> omega⟩
      · have l := w.hlt i hi e2
        have a := w.hap A i hA hi ho e2
        exact fun s => by rcases s with s | s <;> omega
  · by_cases e : i = A
    · simp only [e, if_true]
      intro _; exact ⟨by omega, by omega, by omega, by omega⟩
    · simp only [if_neg e]
      intro e2; have := w.lt i hi e2; exact ⟨by omega, by omega, this.2.2⟩
  · by_cases e : i = A
    · simp only [e, if_true]
      intro e2; have := hh e2; exact ⟨by omega, by omega⟩
    · simp only [if_neg e]
      intro e2; have := w.hlt i hi e2; exact ⟨by omega, this.2⟩
  · by_cases e : i = A
    · have e2 : ¬ j = A := fun h => hij (e.trans h.symm)
      simp only [e, if_true, if_neg e2]
      intro _ e4
      have a := w.ap A j hA hj (fun h => e2 h.symm) ho e4
      exact ⟨by omega, by omega⟩
    · by_cases e2 : j = A
      · simp only [e2, if_true, if_neg e]
        intro e3 _
        have a := w.ap i A hi hA e e3 ho
        exact ⟨by omega, by omega⟩
      · simp only [if_neg e, if_neg e2]
        exact w.ap i j hi hj hij
  · by_cases e : i = A
    · by_cases e2 : j = A
      · simp only [e, e2, if_true]
        intro _ e4
        have := hh e4
        omega
      · simp only [e, if_true, if_neg e2]
        intro _ e4
        have a := w.hap A j hA hj ho e4
        omega
    · by_cases e2 : j = A
      · simp only [e2, if_true, if_neg e]
        intro e3 e4
        have a := hh e4
        have b := w.lt i hi e3
        omega
      · simp only [if_neg e, if_neg e2]
        exact w.hap i j hi hj

theorem vsame_selO {k : Int} {bs : List Bool} : ∃ a b, selO k bs = .tuple #[.int .i64 a, .bool b] := by
  unfold selO
  split
  · exact ⟨_, _, rfl⟩
  · exact ⟨_, _, rfl⟩

theorem wcells_self (D : Nat → Pl) {A : Nat} (hA : A < 6) : ((wcells D).set (6 + A * 2) (.bool (D A).o.isSome)).set (6 + A * 2 + 1) (D A).hv = wcells D := by
  have : A = 0 ∨ A = 1 ∨ A = 2 ∨ A = 3 ∨ A = 4 ∨ A = 5 := by omega
  rcases this with rfl | rfl | rfl | rfl | rfl | rfl <;> rfl

theorem wcells_put (D : Nat → Pl) {A : Nat} (hA : A < 6) {d : Pl} (hv : d.v = (D A).v) : ((wcells D).set (6 + A * 2) (.bool d.o.isSome)).set (6 + A * 2 + 1) d.hv = wcells (fun j => if j = A then d else D j) := by
  have e := wcells_set D hA d
  have : (wcells D).set A d.v = wcells D := by
    rw [hv]
    have : A = 0 ∨ A = 1 ∨ A = 2 ∨ A = 3 ∨ A = 4 ∨ A = 5 := by omega
    rcases this with rfl | rfl | rfl | rfl | rfl | rfl <;> rfl
  rw [this] at e
  exact e

set_option maxHeartbeats 8000000 in
theorem told_spec {h : Heap} {L : Nat → Nat → Option Value} (hro : h.ro = roBlk tabG L) {x : Nat} {D : Nat → Pl} {s : StD} (W : WI h x D) (S : s.ok h.ro) :
    Gives P T (.fn F_colonnadelaw01_world_told) [ptr x, .agg s.cells.toArray] h fun v h' => v = .bool true ∧ h'.ro = h.ro ∧ h.dyn.length ≤ h'.dyn.length ∧ ∃ D', WI h' x D' ∧ (∀ b, b < h.dyn.length → b ≠ x → (∀ i, i < 6 → (D i).o ≠ none → b ≠ (D i).q) → h'.dyn[b]? = h.dyn[b]?) := by
  refine gives_by t_colonnadelaw01_world_told (by simp [c_colonnadelaw01_world_told]) fun Q hQ => ?_
  have r3 := RowAt.new h s.cells 0
  have g3 := Grow.new h s.cells 0
  obtain ⟨F, hF⟩ : ∃ G, hnew h s.cells 0 = G := ⟨_, rfl⟩
  have hFl : F.dyn.length = h.dyn.length + 1 := by rw [← hF]; simp
  rw [hF] at r3 g3
  have hsc : Value.agg s.cells.toArray = .agg #[.int .i64 s.k, .int .i64 s.a, .int .i64 s.w, .int .i64 s.t, .int .i64 s.i, .int .i64 s.j, .bool s.on, s.vw, s.vb, s.vs] := rfl
  have gw := (S.rw h rfl).good
  have gb := (S.rb h rfl).good
  have gs := (S.rs h rfl).good
  have hF' : hnew h [.int .i64 s.k, .int .i64 s.a, .int .i64 s.w, .int .i64 s.t, .int .i64 s.i, .int .i64 s.j, .bool s.on, s.vw, s.vb, s.vs] 0 = F := hF
  obtain ⟨A, hA⟩ : ∃ A, (s.a % 6).toNat = A := ⟨_, rfl⟩
  have hA6 : A < 6 := by omega
  have hAi : (A : Int) < 6 := by omega
  have hA' : (s.a % ((6 : Nat) : Int)).toNat = A := hA
  have WF := W.grow g3.l
  obtain ⟨f1, f2, f3, f4⟩ := WF.look hA6
  have okF := WF.ok A hA6
  obtain ⟨H, e7, r7, l7, g7, c7, n7⟩ := row2 rfl (RowAt.new F [.bool false, .slice none 0 0] 0) (Grow.new F [.bool false, .slice none 0 0] 0) (Nat.le_refl _) (x := .bool (D A).o.isSome) (y := (D A).hv) (by simp) okF.good.2
  have hHl : H.dyn.length = h.dyn.length + 2 := by rw [n7]; simp [hFl]
  rw [hFl] at r7
  have gH := g3.trans g7
  have st : ∀ J, Grow H J → ∀ i y, s.cells[i]? = some y → hload J ⟨h.dyn.length, i, some 0⟩ = some y := fun J gJ i y hy => ((r3.grow g7).grow gJ).get hy
  have l7J : ∀ J, Grow H J → loadN J ⟨h.dyn.length + 1, 0, some 0⟩ 2 = some [.bool (D A).o.isSome, (D A).hv] := fun J gJ => loadN_row_all (r7.grow gJ) (n := 2) rfl
  have WH := W.grow gH.l
  have okA := WH.ok A hA6
  have okAr : Reads H (D A).hv (((D A).o.getD []).map .bool) := okA.2.1.reads
  have roH : H.ro = roBlk tabG L := gH.ro.trans hro
  have gHH : Grow H H := Chg.refl H
  have va := vsame_hv (b := (D A).o.isSome) okA.2.1.is_slice
  have ua := okA.1.vs
  have fin : ∀ J, GrowL H J → Q (.bool true) J := fun J gJ => hQ _ _ ⟨rfl, gJ.ro.trans gH.ro, by have : H.dyn.length ≤ J.dyn.length := gJ.len; omega, D, WH.grow gJ, fun b hb _ _ => (gH.l.trans gJ).same b hb id⟩
  have lJ := l7J H gHH
  have s1 := st H gHH 1 _ rfl
  have s0 := st H gHH 0 _ rfl
  have s4 := st H gHH 4 _ rfl
  have s5 := st H gHH 5 _ rfl
  have s6 := st H gHH 6 _ rfl
  have sF1 : hload F ⟨h.dyn.length, 1, some 0⟩ = some (.int .i64 s.a) := r3.get rfl
  simp [c_colonnadelaw01_world_told, hsc, gw, gb, gs, hF', hFl, sF1]
  refine got_call (pickW_spec s.a (n := 6) (by omega) (by omega)) ?_
  rintro _ _ ⟨rfl, hHe⟩
  have hHe := hHe.symm
  subst hHe
  simp only [hA']
  rw [hFl] at e7
  simp [ptr, hAi, hA6, f1, f4, hFl, e7, s0]
  by_cases k4 : s.k = 4
  · simp [k4, lJ, s4, s6]
    cases ho : (D A).o with
    | none =>
      have hv0 : (D A).v = nilP := by have := okA.1; rw [ho] at this; exact this
      rw [ho] at va
      simp only [Option.isSome_none]
      refine got_call (rPut_gone okA.good.2) ?_
      rintro _ J ⟨rfl, gJ⟩
      obtain ⟨J2, e8, r8, l8, g8, c8, n8⟩ := row2 rfl (RowAt.new J [.bool false, .slice none 0 0] 0) (Grow.new J [.bool false, .slice none 0 0] 0) (Nat.le_refl _) (x := .bool false) (y := (D A).hv) (by simp) okA.good.2
      have gJ2 := gJ.trans g8
      have W2 := WH.grow gJ2.l
      obtain ⟨J3, e9, r9, c9, n9⟩ := W2.store hA6 (b := false) okA.good.2
      have rr : RowAt J3 x 0 0 (wcells D) := by have := wcells_self D hA6; rw [ho] at this; rw [← this]; exact r9
      have W3 := W2.same c9 rr
      have s4' : hload J3 ⟨h.dyn.length, 4, some 0⟩ = some (.int .i64 s.i) := hload_chg c9 (st J2 gJ2 4 _ rfl) (.inr (by have := W.row.lt; simp; omega))
      have s6' : hload J3 ⟨h.dyn.length, 6, some 0⟩ = some (.bool s.on) := hload_chg c9 (st J2 gJ2 6 _ rfl) (.inr (by have := W.row.lt; simp; omega))
      simp [e8, l8, hAi, hA6, e9, s4', s6', hv0, pushP_in]
      refine got_call Put_nil ?_
      rintro _ _ ⟨rfl, hHe⟩
      have hHe := hHe.symm
      subst hHe
      simp
      have g8l := gJ2.len
      exact hQ _ _ ⟨rfl, (c9.ro.trans gJ2.ro).trans gH.ro, by omega, D, W3, fun b hb hbx _ => by
        rw [c9.same b (by omega) hbx, gJ2.same b (by omega) id, gH.same b hb id]⟩
    | some bs =>
      have pA := okA.1
      rw [ho] at pA va okAr
      have hle : bs.length ≤ 16777216 := pA.some_le
      simp only [Option.getD_some] at okAr
      obtain ⟨hvp, ws, stA, cnA, hbA⟩ := pA
      simp only [Option.isSome_some]
      by_cases hin : s.i < 0 ∨ (bs.length : Int) ≤ s.i
      · refine got_call (rPut_out okAr hin) ?_
        rintro _ J ⟨rfl, gJ⟩
        obtain ⟨J2, e8, r8, l8, g8, c8, n8⟩ := row2 rfl (RowAt.new J [.bool false, .slice none 0 0] 0) (Grow.new J [.bool false, .slice none 0 0] 0) (Nat.le_refl _) (x := .bool true) (y := (D A).hv) (by simp) okA.good.2
        have gJ2 := gJ.trans g8
        have W2 := WH.grow gJ2.l
        obtain ⟨J3, e9, r9, c9, n9⟩ := W2.store hA6 (b := true) okA.good.2
        have rr : RowAt J3 x 0 0 (wcells D) := by have := wcells_self D hA6; rw [ho] at this; rw [← this]; exact r9
        have W3 := W2.same c9 rr
        have s4' : hload J3 ⟨h.dyn.length, 4, some 0⟩ = some (.int .i64 s.i) := hload_chg c9 (st J2 gJ2 4 _ rfl) (.inr (by have := W.row.lt; simp; omega))
        have s6' : hload J3 ⟨h.dyn.length, 6, some 0⟩ = some (.bool s.on) := hload_chg c9 (st J2 gJ2 6 _ rfl) (.inr (by have := W.row.lt; simp; omega))
        have lA := W.lt A hA6 (by rw [ho]; simp)
        have st3 : SetAt J3 (D A).p (D A).q bs.length ws := (stA.grow gJ2).chg c9 lA.2.2.1 lA.2.2.2
        simp [e8, l8, hAi, hA6, e9, s4', s6', hvp, pushP_in]
        refine got_call (Put_out st3 hin _) ?_
        rintro _ _ ⟨rfl, hHe⟩
        have hHe := hHe.symm
        subst hHe
        simp
        have g8l := gJ2.len
        exact hQ _ _ ⟨rfl, (c9.ro.trans gJ2.ro).trans gH.ro, by omega, D, W3, fun b hb hbx _ => by
          rw [c9.same b (by omega) hbx, gJ2.same b (by omega) id, gH.same b hb id]⟩
      · obtain ⟨i, hi⟩ : ∃ i : Nat, s.i = i := ⟨s.i.toNat, by omega⟩
        have hib : i < bs.length := by omega
        rw [hi]
        refine got_call (rPut_in okAr hle hib) ?_
        rintro _ J ⟨hw, q5, rfl, o5, gJ, hq5, hq5'⟩
        obtain ⟨J2, e8, r8, l8, g8, c8, n8⟩ := row2 rfl (RowAt.new J [.bool false, .slice none 0 0] 0) (Grow.new J [.bool false, .slice none 0 0] 0) (Nat.le_refl _) (x := .bool true) (y := hw) (by simp) o5.good
        have gJ2 := gJ.trans g8
        have W2 := WH.grow gJ2.l
        have hJ2l : J2.dyn.length = J.dyn.length + 1 := by rw [n8]; simp
        obtain ⟨J3, e9, r9, c9, n9⟩ := W2.store hA6 (b := true) o5.good
        have hxl := W.row.lt
        have s4' : hload J3 ⟨h.dyn.length, 4, some 0⟩ = some (.int .i64 s.i) := hload_chg c9 (st J2 gJ2 4 _ rfl) (.inr (by simp; omega))
        have s6' : hload J3 ⟨h.dyn.length, 6, some 0⟩ = some (.bool s.on) := hload_chg c9 (st J2 gJ2 6 _ rfl) (.inr (by simp; omega))
        rw [hi] at s4'
        have lA := W.lt A hA6 (by rw [ho]; simp)
        have lAH := WH.lt A hA6 (by rw [ho]; simp)
        have st3 : SetAt J3 (D A).p (D A).q bs.length ws := (stA.grow gJ2).chg c9 lA.2.2.1 lA.2.2.2
        simp [e8, l8, hAi, hA6, e9, s4', s6', hvp, pushP_in]
        refine got_call (Put_spec st3 cnA hib s.on) ?_
        rintro _ J4 ⟨rfl, ws', st4, cn4, hb4, c4⟩
        simp
        have gl := gJ2.len
        have gJl := gJ.len
        have c4l := c4.len
        have hlen : (bs.set i s.on).length = bs.length := by simp
        have o6 : Own J4 hw q5 ((bs.set i s.on).map .bool) := ((o5.grow g8).chgN c9 fun e => by have := hq5' e; omega).chgN c4 fun e => by have := hq5' e; omega
        have cc : Chg (fun b => b = x ∨ b = (D A).q) H J4 := ((Grow.chg gJ2).trans (c9.mono fun b _ e => .inl e)).trans (c4.mono fun b _ e => .inr e)
        have rr : RowAt J3 x 0 0 (wcells fun j => if j = A then (⟨(D A).v, (D A).p, (D A).q, some (bs.set i s.on), hw, q5⟩ : Pl) else D j) := by
          rw [← wcells_put D hA6 (d := ⟨(D A).v, (D A).p, (D A).q, some (bs.set i s.on), hw, q5⟩) rfl]; exact r9
        have WF2 : WI J4 x (fun j => if j = A then (⟨(D A).v, (D A).p, (D A).q, some (bs.set i s.on), hw, q5⟩ : Pl) else D j) := by
          refine WH.update hA6 (by rw [ho]; simp) rfl rfl ⟨⟨hvp, ws', by rw [hlen]; exact st4, by rw [hlen]; exact cn4, fun j => ?_⟩, o6, by simp; omega⟩ (fun e => ?_) cc.l (rr.chg c4 (fun e => lA.2.2.2 e.symm))
          · rw [hb4, hold_set hib, hbA]
          · have := hq5' e
            simp only
            exact ⟨by omega, by omega⟩
        exact hQ _ _ ⟨rfl, (c4.ro.trans (c9.ro.trans gJ2.ro)).trans gH.ro, by omega, _, WF2, fun b hb hbx hbq => by
          rw [c4.same b (by omega) (hbq A hA6 (by rw [ho]; simp)), c9.same b (by omega) hbx, gJ2.same b (by omega) id, gH.same b hb id]⟩
  by_cases k8 : s.k = 8
  · simp [k8]
    refine got_call (pCount okA.1) ?_
    rintro _ _ ⟨rfl, hHe⟩
    have hHe := hHe.symm
    subst hHe
    simp [lJ, va]
    refine got_call (rAll okAr okA.2.2) ?_
    rintro u J ⟨q, ow, gJ⟩
    obtain ⟨cb, cc, ev, _⟩ := ow.reads.shape
    rw [iL_len, filt_len] at ev
    subst ev
    simp
    exact fin J gJ.l
  by_cases k9 : s.k = 9
  · simp [k9, s4]
    refine got_call (pRank okA.1 s.i) ?_
    rintro _ _ ⟨rfl, hHe⟩
    have hHe := hHe.symm
    subst hHe
    simp [lJ, s4, va]
    refine got_call (rRank okAr okA.2.2 s.i) ?_
    rintro _ J ⟨rfl, gJ⟩
    simp
    exact fin J gJ.l
  by_cases k10 : s.k = 10
  · simp [k10, lJ, s4]
    refine got_call (rSelect okAr okA.2.2 s.i) ?_
    rintro u J ⟨hu, gJ⟩
    have hu' : u = selO s.i ((D A).o.getD []) := by
      unfold selO
      split at hu
      · rename_i hc; rw [if_pos hc]; exact hu
      · rename_i hc; rw [if_neg hc]; exact hu
    subst hu'
    obtain ⟨a1, b1, es⟩ := vsame_selO (k := s.i) (bs := (D A).o.getD [])
    rw [es]
    simp [st J gJ 4 _ rfl]
    refine got_call (pSelect (gJ.ro.trans roH) (okA.1.grow gJ) s.i S.ji.2) ?_
    rintro _ _ ⟨rfl, hHe⟩
    have hHe := hHe.symm
    subst hHe
    rw [es]
    simp
    exact fin J gJ.l
  by_cases k11 : s.k = 11
  · simp [k11, lJ]
    refine got_call (rAll okAr okA.2.2) ?_
    rintro u J ⟨q, ow, gJ⟩
    obtain ⟨cb, cc, ev, _⟩ := ow.reads.shape
    obtain ⟨xs, hxs⟩ : ∃ xs, filt (hold ((D A).o.getD [])) ((D A).o.getD []).length = xs := ⟨_, rfl⟩
    have hxl : xs.length ≤ 16777216 := by rw [← hxs, filt_len]; have := cnt_le (hold ((D A).o.getD [])) ((D A).o.getD []).length; have := okA.2.2; omega
    rw [hxs] at ow ev
    rw [iL_len] at ev
    subst ev
    have s5J := st J gJ 5 _ rfl
    have walk : ∀ (u2 : Value), Reads J u2 (iL (wlI s.j xs)) → got (acallW P T (.fn F_colonnadelaw01_walked) [(D A).v, .int .i64 s.j] J) fun u h' => Reads h' u (iL (wlI s.j xs)) ∧ Reads h' u2 (iL (wlI s.j xs)) ∧ GrowL J h' := fun u2 r2 => by
      refine got_call (pWalked (gJ.ro.trans roH) (okA.1.grow gJ) s.j) ?_
      rintro u h' ⟨r, g⟩
      rw [hxs] at r
      exact ⟨r, r2.growL g, g⟩
    have hwl : (wlI s.j xs).length ≤ 1000000000000 := by
      unfold wlI
      split
      · rw [List.length_take]; omega
      · omega
    by_cases hc : 1 ≤ s.j ∧ s.j < xs.length
    · obtain ⟨m, hm⟩ : ∃ m : Nat, s.j = m := ⟨s.j.toNat, by omega⟩
      obtain ⟨u2, e2, r2⟩ := ow.cut0 (t := m) (by rw [iL_len]; omega)
      have ew : wlI s.j xs = xs.take m := by unfold wlI; rw [if_pos hc, hm]; rfl
      have r2' : Reads J u2 (iL (wlI s.j xs)) := by rw [ew]; simpa [iL, List.map_take] using r2
      have hc1 := hc.1
      have hc2 := hc.2
      rw [hm] at s5J hc1 hc2
      have hc2' : m < xs.length := by omega
      have hc1' : 1 ≤ m := by omega
      obtain ⟨cb2, cc2, ev2⟩ := r2'.is_slice
      simp [s5J, hc1, hc2, hc1', hc2', e2]
      have wk := walk u2 r2'
      rw [hm] at wk
      obtain ⟨u3, h3, e3, r3', r4', g3'⟩ := wk
      refine ⟨u3, h3, e3, ?_⟩
      simp
      rw [← hm] at r3' r4'
      refine got_call (sameInts_spec r3' r4' hwl) ?_
      rintro _ _ ⟨rfl, rfl⟩
      simp
      exact fin _ (gJ.l.trans g3')
    · have ew : wlI s.j xs = xs := by unfold wlI; rw [if_neg hc]
      have r2' : Reads J (.slice cb xs.length cc) (iL (wlI s.j xs)) := by rw [ew]; exact ow.reads
      have go : ∀ (K : Prop), K → K := fun _ k => k
      by_cases hc1 : 1 ≤ s.j
      · have hc2 : ¬ s.j < (xs.length : Int) := fun e => hc ⟨hc1, e⟩
        simp [s5J, hc1, hc2]
        obtain ⟨u3, h3, e3, r3', r4', g3'⟩ := walk _ r2'
        refine ⟨u3, h3, e3, ?_⟩
        simp
        refine got_call (sameInts_spec r3' r4' hwl) ?_
        rintro _ _ ⟨rfl, rfl⟩
        simp
        exact fin _ (gJ.l.trans g3')
      · simp [s5J, hc1, skipV]
        obtain ⟨u3, h3, e3, r3', r4', g3'⟩ := walk _ r2'
        refine ⟨u3, h3, e3, ?_⟩
        simp
        refine got_call (sameInts_spec r3' r4' hwl) ?_
        rintro _ _ ⟨rfl, rfl⟩
        simp
        exact fin _ (gJ.l.trans g3')
  by_cases k14 : s.k = 14
  · simp [k14]
    refine got_call (pWords okA.1) ?_
    rintro u J ⟨ws, rw1, cn, hb, gJ⟩
    simp [lJ, l7J J gJ, va]
    refine got_call (rWords (okAr.grow gJ) okA.2.2) ?_
    rintro u2 J2 ⟨ws2, rw2, cn2, hb2, gJ2⟩
    obtain rfl : ws = ws2 := cn.ext cn2 fun i hi => by rw [hb, hb2]
    simp
    refine got_call (sameWords_spec (rw1.grow gJ2) rw2 (by have := cn.len; have := okA.2.2; omega)) ?_
    rintro _ _ ⟨rfl, rfl⟩
    simp
    exact fin _ (gJ.trans gJ2).l
  by_cases k15 : s.k = 15
  · simp [k15]
    refine got_call (pLen okA.1) ?_
    rintro _ _ ⟨rfl, hHe⟩
    have hHe := hHe.symm
    subst hHe
    obtain ⟨cb, cc, ev, _⟩ := okAr.shape
    rw [List.length_map] at ev
    have l1 := r7.get (i := 1) rfl
    rw [ev] at l1
    simp [l1]
    exact fin _ gHH.l
  · simp [k4, k8, k9, k10, k11, k14, k15, s4]
    refine got_call (pGet okA.1 s.i) ?_
    rintro _ _ ⟨rfl, hHe⟩
    have hHe := hHe.symm
    subst hHe
    simp [lJ, s4, va]
    refine got_call (rGet okAr s.i) ?_
    rintro _ J ⟨rfl, gJ⟩
    simp
    exact fin J gJ.l

end Go.Ax

namespace Go.Ax
open Go.Proofs
set_option linter.unusedVariables false
set_option linter.unusedSimpArgs false
set_option maxRecDepth 100000

theorem WI.put' {h h' : Heap} {x : Nat} {D : Nat → Pl} (w : WI h x D) {d : Pl} (f : Fresh h h' d) {t : Nat} (ht : t < 6)
    (r : RowAt h' x 0 0 (wcells fun j => if j = t then d else D j)) (c : ChgL (· = x) h h') : WI h' x (fun j => if j = t then d else D j) := by
  have hl1 : h.dyn.length ≤ h'.dyn.length := c.len
  have hx := w.row.lt
  refine ⟨r, fun i hi => ?_, fun i hi => ?_, fun i hi => ?_, fun i j hi hj hij => ?_, fun i j hi hj => ?_⟩
  · by_cases e : i = t
    · simp only [e, if_true]; exact f.ok
    · simp only [if_neg e]
      exact (w.ok i hi).chgL c (fun e => by have := w.lt i hi e; exact ⟨this.2.2.1, this.2.2.2⟩) (fun e => (w.hlt i hi e).2)
  · by_cases e : i = t
    · simp only [e, if_true]
      intro e; have := f.pq e; exact ⟨by omega, by omega, by omega, by omega⟩
    · simp only [if_neg e]
      intro e; have := w.lt i hi e; exact ⟨by omega, by omega, this.2.2⟩
  · by_cases e : i = t
    · simp only [e, if_true]
      intro e; have := f.hh e; exact ⟨by omega, by omega⟩
    · simp only [if_neg e]
      intro e; have := w.hlt i hi e; exact ⟨by omega, this.2⟩
  · by_cases e : i = t
    · have e2 : ¬ j = t := fun h => hij (e.trans h.symm)
      simp only [e, if_true, if_neg e2]
      intro e3 e4
      have a := f.pq e3
      have b := w.lt j hj e4
      exact ⟨by omega, by omega⟩
    · by_cases e2 : j = t
      · simp only [e2, if_true, if_neg e]
        intro e3 e4
        have a := f.pq e4
        have b := w.lt i hi e3
        exact ⟨by omega, by omega⟩
      · simp only [if_neg e, if_neg e2]
        exact w.ap i j hi hj hij
  · by_cases e : i = t
    · by_cases e2 : j = t
      · simp only [e, e2, if_true]
        exact f.ne
      · simp only [e, if_true, if_neg e2]
        intro e3 e4
        have a := f.pq e3
        have b := w.hlt j hj e4
        omega
    · by_cases e2 : j = t
      · simp only [e2, if_true, if_neg e]
        intro e3 e4
        have a := f.hh e4
        have b := w.lt i hi e3
        omega
      · simp only [if_neg e, if_neg e2]
        exact w.hap i j hi hj

/-- No set. -/
def noPl : Pl := ⟨nilP, 0, 0, none, nilS, 0⟩

theorem WI.start (h : Heap) : WI (hnew h (wcells fun _ => noPl) 0) h.dyn.length (fun _ => noPl) :=
  ⟨RowAt.new _ _ _, fun i _ => ⟨rfl, .inl ⟨rfl, rfl⟩, by simp [noPl]⟩, fun i _ e => absurd rfl e, fun i _ e => absurd rfl e, fun i j _ _ _ e => absurd rfl e, fun i j _ _ e => absurd rfl e⟩

/-- The two halves of a place, written one after the other. -/
theorem WI.write1 {h : Heap} {x : Nat} {l : List Value} (r : RowAt h x 0 0 l) (hl : l.length = 18) {t : Nat} (ht : t < 6) {v : Value} (hg : goodC v = true) :
    ∃ h', hstore h ⟨x, t, some 0⟩ v = some h' ∧ RowAt h' x 0 0 (l.set t v) ∧ Chg (· = x) h h' ∧ h'.dyn.length = h.dyn.length :=
  r.store (by omega) hg

theorem WI.write2 {h : Heap} {x : Nat} {l : List Value} (r : RowAt h x 0 0 l) (hl : l.length = 18) {t : Nat} (ht : t < 6) {b : Bool} {hv : Value} (hg : goodC hv = true) :
    ∃ h', storeN h ⟨x, 6 + t * 2, some 0⟩ [.bool b, hv] = some h' ∧ RowAt h' x 0 0 ((l.set (6 + t * 2) (.bool b)).set (6 + t * 2 + 1) hv) ∧ Chg (· = x) h h' ∧ h'.dyn.length = h.dyn.length := by
  obtain ⟨h1, e1, r1, c1, n1⟩ := r.store (i := 6 + t * 2) (by omega) (x := .bool b) (by simp)
  obtain ⟨h2, e2, r2, c2, n2⟩ := r1.store (i := 6 + t * 2 + 1) (by simp; omega) (x := hv) hg
  exact ⟨h2, by simp [storeN, e1, e2], r2, c1.trans c2, by omega⟩

theorem wcells_len (D : Nat → Pl) : (wcells D).length = 18 := rfl

set_option maxHeartbeats 8000000 in
theorem scripts_law (L : Nat → Nat → Option Value) {b : Option Addr} {n c : Nat} {stp : Nat → StD} (hn : n ≤ 1048576)
    (hcell : ∀ h : Heap, h.ro = roBlk tabG L → ∀ i, i < n → ∃ a, b = some a ∧ loadN h (aadd a (i * 10)) 10 = some (stp i).cells)
    (hok : ∀ i, i < n → (stp i).ok (roBlk tabG L)) :
    Gives P T (.fn F_colonnadelaw01_BitsScripts) [.slice b n c] (heap0 (roBlk tabG L)) fun v _ => v = .bool true := by
  refine gives_by t_colonnadelaw01_BitsScripts (by simp [c_colonnadelaw01_BitsScripts]) fun Q hQ => ?_
  have W0 := WI.start (heap0 (roBlk tabG L))
  have z0 : (heap0 (roBlk tabG L)).dyn.length = 0 := rfl
  rw [z0] at W0
  obtain ⟨H0, hH0⟩ : ∃ H, hnew (heap0 (roBlk tabG L)) (wcells fun _ => noPl) 0 = H := ⟨_, rfl⟩
  have ro0 : H0.ro = roBlk tabG L := by rw [← hH0]; rfl
  rw [hH0] at W0
  have hH0' : hnew (heap0 (roBlk tabG L)) [.pointer none, .pointer none, .pointer none, .pointer none, .pointer none, .pointer none, .bool false, .slice none 0 0, .bool false, .slice none 0 0, .bool false, .slice none 0 0, .bool false, .slice none 0 0, .bool false, .slice none 0 0, .bool false, .slice none 0 0] 0 = H0 := hH0
  simp [c_colonnadelaw01_BitsScripts, hH0', z0]
  refine go_loopK (fun kk ks h2 => ∃ (i : Nat) (D : Nat → Pl), kk = 5 - i ∧ i ≤ 5 ∧ ks = [(0, .slice b n c), (3, ptr 0), (4, .int .i64 i)] ∧ WI h2 0 D ∧ h2.ro = roBlk tabG L) (n := 5)
    ⟨0, _, rfl, by omega, rfl, W0, ro0⟩ (by simp [ptr]) ?_
  rintro I hI kk ks e h2 ⟨i, D, rfl, hi, rfl, W, ro2⟩
  have hw1 : IntKind.i64.wrap ((i : Int) + 1) = ((i + 1 : Nat) : Int) := by rw [wrap_i64 (by omega) (by omega)]; omega
  simp [hw1]
  by_cases hlt : i < 5
  · have hlt' : i + 1 < 6 := by omega
    have hlt2 : (i : Int) + 1 < 6 := by omega
    have hi6 : i < 6 := by omega
    have hi6' : (i : Int) < 6 := by omega
    have g1 := Grow.new h2 [.int .i64 0, .slice none 0 0] 0
    have rs := RowAt.new h2 [.int .i64 0, .slice none 0 0] 0
    obtain ⟨h3, hh3⟩ : ∃ H, hnew h2 [.int .i64 0, .slice none 0 0] 0 = H := ⟨_, rfl⟩
    have h3l : h3.dyn.length = h2.dyn.length + 1 := by rw [← hh3]; simp
    rw [hh3] at g1 rs
    obtain ⟨h4, e4, r4, c4, n4⟩ := WI.write1 (W.row.grow g1) rfl hi6 (v := ptr h2.dyn.length) (by simp [ptr])
    simp only [ptr] at e4
    simp [hlt', hlt2, hi6, hi6', ptr, hh3, e4]
    refine got_call (qNew (n := 0)) ?_
    rintro _ h5 ⟨hv, q5, rfl, o5, g5, f5⟩
    have hn0 : newO 0 = some [] := rfl
    rw [hn0] at o5
    simp only [hn0, Option.isSome_some, Option.getD_some] at o5 ⊢
    obtain ⟨h6, e6, r6, c6, n6⟩ := WI.write2 (r4.grow g5) (by simp [wcells]) hi6 (b := true) o5.good
    have g5l := g5.len
    simp [hi6, hi6', e6, pushP_in]
    have hx0 := W.row.lt
    have cAll : Chg (· = 0) h2 h6 := (((Grow.chg g1).trans c4).trans (Grow.chg g5)).trans c6
    have rs6 : RowAt h6 h2.dyn.length 0 0 [.int .i64 0, .slice none 0 0] := ((rs.chg c4 (by omega)).grow g5).chg c6 (by omega)
    have fr : Fresh h2 h6 ⟨ptr h2.dyn.length, h2.dyn.length, h2.dyn.length, some [], hv, q5⟩ := by
      refine ⟨⟨⟨rfl, [], ⟨⟨none, 0, rs6, .inl ⟨rfl, rfl, rfl⟩⟩, fun h => absurd rfl h⟩, ⟨rfl, by simp, fun i _ => by simp [bit, word]⟩, fun i => by simp [bit, word, hold]⟩, o5.chgN c6 fun e => by have := f5 e; omega, by simp⟩, fun _ => ⟨by simp, by simp, by simp only; omega, by simp only; omega⟩, fun e => by have := f5 e; simp only; exact ⟨by omega, by omega⟩, fun _ e => by have := f5 e; simp only; omega⟩
    have W6 := W.put' fr hi6 (by rw [← wcells_set D hi6]; exact r6) cAll.l
    exact ⟨5 - (i + 1), by omega, hI _ _ _ _ ⟨i + 1, _, rfl, by omega, rfl, W6, cAll.ro.trans ro2⟩ (by simp [ptr, hw1])⟩
  · have hi5 : i = 5 := by omega
    subst hi5
    simp
    refine go_loopK (fun kk ks h2 => ∃ (i : Nat) (D : Nat → Pl), kk = n - i ∧ i ≤ n ∧ ks = [(0, .slice b n c), (3, ptr 0), (5, .int .i64 i)] ∧ WI h2 0 D ∧ h2.ro = roBlk tabG L) (n := n)
      ⟨0, D, rfl, by omega, rfl, W, ro2⟩ (by simp [ptr]) ?_
    clear W ro2
    rintro I hI kk ks e h2 ⟨i, D, rfl, hi, rfl, W, ro2⟩
    simp
    refine branch_dec (fun hlt => ?_) (fun hge => ?_)
    · have hw1 : IntKind.i64.wrap ((i : Int) + 1) = ((i + 1 : Nat) : Int) := by rw [wrap_i64 (by omega) (by omega)]; omega
      obtain ⟨a, rfl, ld⟩ := hcell h2 ro2 i hlt
      have S := hok i hlt
      obtain ⟨s, hs⟩ : ∃ s, stp i = s := ⟨_, rfl⟩
      rw [hs] at ld S
      have hsc : s.cells = [.int .i64 s.k, .int .i64 s.a, .int .i64 s.w, .int .i64 s.t, .int .i64 s.i, .int .i64 s.j, .bool s.on, s.vw, s.vb, s.vs] := rfl
      have gw := (S.rw h2 ro2).good
      have gb := (S.rb h2 ro2).good
      have gs := (S.rs h2 ro2).good
      have hst : ∀ (h : Heap) (a : Addr), storeR h 10 (.pointer (some a)) (.agg s.cells.toArray) = (storeN h a s.cells).map fun h' => (undef, h') := fun h a => store_agg (h := h) (p := a) (cs := s.cells.toArray)
      obtain ⟨H1, hH1⟩ : ∃ H, hnew h2 [.int .i64 0, .int .i64 0, .int .i64 0, .int .i64 0, .int .i64 0, .int .i64 0, .bool false, .slice none 0 0, .slice none 0 0, .slice none 0 0] 0 = H := ⟨_, rfl⟩
      have rH1 := RowAt.new h2 [.int .i64 0, .int .i64 0, .int .i64 0, .int .i64 0, .int .i64 0, .int .i64 0, .bool false, .slice none 0 0, .slice none 0 0, .slice none 0 0] 0
      have gH1 := Grow.new h2 [.int .i64 0, .int .i64 0, .int .i64 0, .int .i64 0, .int .i64 0, .int .i64 0, .bool false, .slice none 0 0, .slice none 0 0, .slice none 0 0] 0
      rw [hH1] at rH1 gH1
      have hH1l : H1.dyn.length = h2.dyn.length + 1 := by rw [← hH1]; simp
      obtain ⟨H2, e2, r2, c2, n2⟩ := rH1.storeN s.cells 0 (by simp [StD.cells]) (by simp [StD.cells, gw, gb, gs])
      have e3 : [Value.int .i64 0, .int .i64 0, .int .i64 0, .int .i64 0, .int .i64 0, .int .i64 0, .bool false, .slice none 0 0, .slice none 0 0, .slice none 0 0].take 0 ++ s.cells ++ [Value.int .i64 0, .int .i64 0, .int .i64 0, .int .i64 0, .int .i64 0, .int .i64 0, .bool false, .slice none 0 0, .slice none 0 0, .slice none 0 0].drop (0 + s.cells.length) = s.cells := by simp [StD.cells]
      rw [e3] at r2
      have hx0 := W.row.lt
      have g2 : Grow h2 H2 := gH1.after c2 fun b hb e => by omega
      have W2 := W.grow g2.l
      have ro3 : H2.ro = roBlk tabG L := g2.ro.trans ro2
      have S2 : s.ok H2.ro := by rw [ro3]; exact S
      have l0 := r2.get (i := 0) (x := .int .i64 s.k) rfl
      have lA := loadN_row_all r2 (n := 10) rfl
      have lAg : ∀ J, Grow H2 J → ∀ i y, s.cells[i]? = some y → hload J ⟨h2.dyn.length, i, some 0⟩ = some y := fun J gJ i y hy => (r2.grow gJ).get hy
      simp [hlt, ld, hH1, hst, e2, l0]
      by_cases hk : s.k = 1 ∨ s.k = 2 ∨ s.k = 3 ∨ s.k = 5 ∨ s.k = 6 ∨ s.k = 7 ∨ s.k = 12 ∨ s.k = 13
      · have made : ∀ (K : Value → Heap → Prop), (∀ d J, Fresh H2 J d → Grow H2 J → K (.tuple #[d.v, rv d.o.isSome d.hv, .bool true]) J) → got (acallW P T (.fn F_colonnadelaw01_world_made) [ptr 0, .agg s.cells.toArray] H2) K := fun K hK => by
          refine got_call (made_spec W2 S2 hk) ?_
          rintro _ J ⟨d, rfl, f, g⟩
          exact hK d J f g
        have rest : ∀ (k : Cont), True := fun _ => trivial
        rcases hk with hk | hk | hk | hk | hk | hk | hk | hk
        all_goals
          simp [hk, lA]
          refine made _ fun d J f gJ => ?_
          have okd := f.ok
          have vsd := okd.1.vs
          obtain ⟨J1, e8, r8, l8, g8, c8, n8⟩ := row2 rfl (RowAt.new J [.bool false, .slice none 0 0] 0) (Grow.new J [.bool false, .slice none 0 0] 0) (Nat.le_refl _) (x := .bool d.o.isSome) (y := d.hv) (by simp) okd.good.2
          simp [e8, l8]
          refine got_call (is_spec (okd.1.grow g8) (okd.2.1.reads.grow g8)) ?_
          rintro _ J2 ⟨rfl, gJ2⟩
          have gl := gJ.len
          have g8l := g8.len
          have gJ2l := gJ2.len
          have G2 := (gJ.trans g8).trans gJ2
          obtain ⟨t, ht⟩ : ∃ t, (s.t % 6).toNat = t := ⟨_, rfl⟩
          have ht6 : t < 6 := by omega
          have ht6' : (t : Int) < 6 := by omega
          have ht' : (s.t % ((6 : Nat) : Int)).toNat = t := ht
          have l3 := lAg J2 G2 3 _ rfl
          simp [l3]
          refine got_call (pickW_spec s.t (n := 6) (by omega) (by omega)) ?_
          rintro _ _ ⟨rfl, hHe⟩
          have hHe := hHe.symm
          subst hHe
          simp only [ht']
          obtain ⟨J3, e9, r9, c9, n9⟩ := WI.write1 ((W2.grow G2.l).row) rfl ht6 (v := d.v) okd.good.1
          have l3' : hload J3 ⟨h2.dyn.length, 3, some 0⟩ = some (.int .i64 s.t) := hload_chg c9 l3 (.inr (fun e : h2.dyn.length = 0 => by omega))
          simp [ptr, ht6, ht6', e9, l3, l3', okd.good.1, pushP_in]
          refine got_call (pickW_spec s.t (n := 6) (by omega) (by omega)) ?_
          rintro _ _ ⟨rfl, hHe⟩
          have hHe := hHe.symm
          subst hHe
          simp only [ht']
          have l8' : loadN J3 ⟨J.dyn.length, 0, some 0⟩ 2 = some [.bool d.o.isSome, d.hv] := loadN_row_all ((r8.grow gJ2).chg c9 (by have := W2.row.lt; omega)) (n := 2) rfl
          obtain ⟨J4, e10, r10, c10, n10⟩ := WI.write2 r9 (by simp [wcells]) ht6 (b := d.o.isSome) okd.good.2
          have vsr := vsame_hv (b := d.o.isSome) okd.2.1.is_slice
          simp [ht6, ht6', l8', e10, vsr, pushP_in, hw1]
          have cAll : Chg (· = 0) H2 J4 := ((Grow.chg G2).trans c9).trans c10
          have f4 : Fresh H2 J4 d := ((f.later (h0 := H2) (Nat.le_refl _) (S := fun _ => False) (g8.trans gJ2) fun b e => e.elim).later (h0 := H2) (Nat.le_refl _) c9 fun b e => by have := W2.row.lt; omega).later (h0 := H2) (Nat.le_refl _) c10 fun b e => by have := W2.row.lt; omega
          have W4 := W2.put' f4 ht6 (by rw [← wcells_set D ht6]; exact r10) cAll.l
          exact ⟨n - (i + 1), by omega, hI _ _ _ _ ⟨i + 1, _, rfl, by omega, rfl, W4, cAll.ro.trans ro3⟩ (by simp [ptr])⟩
      · have n1 : ¬ s.k = 1 := fun e => hk (by simp [e])
        have n2' : ¬ s.k = 2 := fun e => hk (by simp [e])
        have n3 : ¬ s.k = 3 := fun e => hk (by simp [e])
        have n5 : ¬ s.k = 5 := fun e => hk (by simp [e])
        have n6 : ¬ s.k = 6 := fun e => hk (by simp [e])
        have n7 : ¬ s.k = 7 := fun e => hk (by simp [e])
        have n12 : ¬ s.k = 12 := fun e => hk (by simp [e])
        have n13 : ¬ s.k = 13 := fun e => hk (by simp [e])
        simp [n1, n2', n3, n5, n6, n7, n12, n13, lA]
        refine got_call (told_spec ro3 W2 S2) ?_
        rintro _ J ⟨rfl, roJ, -, D', WJ, -⟩
        simp [hw1]
        exact ⟨n - (i + 1), by omega, hI _ _ _ _ ⟨i + 1, D', rfl, by omega, rfl, WJ, roJ.trans ro3⟩ (by simp [ptr])⟩
    · simp
      refine go_loopK (fun kk ks h3 => ∃ (i : Nat), kk = 6 - i ∧ i ≤ 6 ∧ ks = [(3, ptr 0), (10, .int .i64 i)] ∧ WI h3 0 D) (n := 6)
        ⟨0, rfl, by omega, rfl, W⟩ (by simp [ptr]) ?_
      clear W ro2
      rintro I hI kk ks e h3 ⟨i, rfl, hi, rfl, W⟩
      simp
      by_cases hlt : i < 6
      · have hlt' : (i : Int) < 6 := by omega
        have hw1 : IntKind.i64.wrap ((i : Int) + 1) = ((i + 1 : Nat) : Int) := by rw [wrap_i64 (by omega) (by omega)]; omega
        obtain ⟨x1, x2, x3, x4⟩ := W.look hlt
        have okd := W.ok i hlt
        simp [hlt, hlt', ptr, x1, x4, pushP_in]
        refine got_call (is_spec okd.1 okd.2.1.reads) ?_
        rintro _ J ⟨rfl, gJ⟩
        simp [hw1]
        exact ⟨6 - (i + 1), by omega, hI _ _ _ _ ⟨i + 1, rfl, by omega, rfl, W.grow gJ.l⟩ (by simp [ptr])⟩
      · have hi6 : i = 6 := by omega
        subst hi6
        simp
        have rl := RowAt.new h3 [.bool true, .bool false, .bool true] 1
        have rd : Reads (hnew h3 [.bool true, .bool false, .bool true] 1) (.slice (some ⟨h3.dyn.length, 0, some 0⟩) 3 3) ([true, false, true].map .bool) := .inr ⟨_, _, rfl, fun i x hx => by simpa using rl.get hx⟩
        refine got_call (Of_spec rd (by simp)) ?_
        rintro _ J ⟨p, q, ws, rfl, st, cn, hb, g, -, -⟩
        simp
        refine got_call (count_spec st cn) ?_
        rintro _ _ ⟨rfl, rfl⟩
        have e2 : cnt (bit ws) [true, false, true].length = 2 := by rw [cnt_congr _ fun i _ => hb i]; rfl
        rw [e2]
        simp
        exact hQ _ _ rfl

end Go.Ax
