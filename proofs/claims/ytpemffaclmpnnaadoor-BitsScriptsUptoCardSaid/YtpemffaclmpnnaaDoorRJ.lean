/- Seat bits: joins, of the program and of the document. -/
import Derived.Test.YtpemffaclmpnnaaDoorRH
import Derived.Test.YtpemffaclmpnnaaDoorMN
namespace Go.Ax
open Go.Proofs
set_option linter.unusedVariables false
set_option linter.unusedSimpArgs false
set_option maxRecDepth 100000

/-- A place: the program's set, the document's. -/
structure Pl where
  v : Value
  p : Nat
  q : Nat
  o : Option (List Bool)
  hv : Value
  hq : Nat

def Pl.ok (h : Heap) (d : Pl) : Prop := PSet h d.v d.p d.q d.o ∧ Own h d.hv d.hq ((d.o.getD []).map .bool) ∧ (d.o.getD []).length ≤ 16777216

def sumP : List Pl → Nat
  | [] => 0
  | d :: r => (d.o.getD []).length + sumP r

def catL : List Pl → List Bool
  | [] => []
  | d :: r => d.o.getD [] ++ catL r

theorem catL_len : ∀ S, (catL S).length = sumP S
  | [] => rfl
  | d :: r => by simp [catL, sumP, catL_len r]

theorem sumP_take (l : List Pl) : ∀ {a : Nat} {s : Pl}, l[a]? = some s → sumP (l.take (a + 1)) = sumP (l.take a) + (s.o.getD []).length := by
  induction l with
  | nil => intro a s h; simp at h
  | cons x r ih =>
    intro a s h
    cases a with
    | zero => simp at h; subst h; simp [sumP]
    | succ a =>
      simp only [List.getElem?_cons_succ] at h
      have := ih h
      simp only [List.take_succ_cons, sumP] at this ⊢
      omega

theorem catL_take (l : List Pl) : ∀ {a : Nat} {s : Pl}, l[a]? = some s → catL (l.take (a + 1)) = catL (l.take a) ++ s.o.getD [] := by
  induction l with
  | nil => intro a s h; simp at h
  | cons x r ih =>
    intro a s h
    cases a with
    | zero => simp at h; subst h; simp [catL]
    | succ a =>
      simp only [List.getElem?_cons_succ] at h
      have := ih h
      simp only [List.take_succ_cons, catL] at this ⊢
      rw [this, List.append_assoc]

theorem sumP_take_le (l : List Pl) (a : Nat) : sumP (l.take a) ≤ sumP l := by
  induction l generalizing a with
  | nil => simp [sumP]
  | cons x r ih =>
    cases a with
    | zero => simp [sumP]
    | succ a => simp only [List.take_succ_cons, sumP]; have := ih a; omega

theorem sumP_le : ∀ (S : List Pl), (∀ d ∈ S, (d.o.getD []).length ≤ 16777216) → sumP S ≤ 16777216 * S.length
  | [], _ => by simp [sumP]
  | d :: r, h => by
    have h1 := h d (by simp)
    have h2 := sumP_le r fun x hx => h x (by simp [hx])
    simp only [sumP, List.length_cons, Nat.mul_add]; omega

/-- What a join answers. -/
def joinE (S : List Pl) : Int := if S.any (fun d => d.o.isNone) then 1 else if 16777216 < sumP S then 3 else 0

theorem ptr_ne {p : Nat} : ptr p ≠ nilP := by simp [ptr]

theorem pJoin_err {h : Heap} {v : Value} {S : List Pl} (r : Reads h v (S.map (·.v))) (hs : ∀ d ∈ S, d.ok h) (hlen : S.length ≤ 1048576) (he : joinE S ≠ 0) :
    Gives P T (.fn F_bits_Join) [v] h fun u h' => u = .tuple #[nilP, .int .i64 (joinE S)] ∧ h' = h := by
  obtain ⟨b, c, rfl, hr⟩ := r.shape
  simp only [List.length_map] at hr ⊢
  have hsum := sumP_le S fun d hd => (hs d hd).2.2
  obtain ⟨len, hL⟩ : ∃ len, S.length = len := ⟨_, rfl⟩
  rw [hL] at hr hlen hsum ⊢
  refine gives_by t_bits_Join (by simp [c_bits_Join]) fun Q hQ => ?_
  simp [c_bits_Join]
  refine go_loopK (fun k ks h2 => ∃ a : Nat, k = len - a ∧ a ≤ len ∧ ks = [(0, .slice b len c), (4, .int .i64 (sumP (S.take a) : Nat)), (14, .slice b len c), (15, .int .i64 len), (16, .int .i64 a)] ∧ (∀ d ∈ S.take a, d.o ≠ none) ∧ h2 = h) (n := len)
    ⟨0, rfl, by omega, rfl, by simp, rfl⟩ (by simp [sumP]) ?_
  rintro I hI k ks e h2 ⟨a, rfl, ha, rfl, hn, rfl⟩
  simp
  refine branch_dec (fun hlt => ?_) (fun hge => ?_)
  · have hal : a < len := by omega
    obtain ⟨x, rfl, hx⟩ := hr a hal
    have hsa : S[a]? = some S[a] := List.getElem?_eq_getElem (by omega)
    obtain ⟨s, hsd⟩ : ∃ s, S[a] = s := ⟨_, rfl⟩
    rw [hsd] at hsa
    have hmem := List.mem_of_getElem? hsa
    have hld := hx a s.v (by rw [List.getElem?_map, hsa]; rfl)
    obtain ⟨sp, -, hl⟩ := hs s hmem
    cases hso : s.o with
    | none =>
      rw [hso] at sp
      have e1 : s.v = nilP := sp
      rw [e1] at hld
      have e : joinE S = 1 := by
        unfold joinE
        rw [if_pos]
        rw [List.any_eq_true]
        exact ⟨s, hmem, by rw [hso]; rfl⟩
      simp [hal, hld]
      exact hQ _ _ ⟨by rw [e], rfl⟩
    | some bs =>
      rw [hso] at sp hl
      obtain ⟨e1, ws, st, cn, -⟩ := sp
      rw [e1] at hld
      obtain ⟨bs', cs, rs, -⟩ := st.ex
      have hst := sumP_take S hsa
      have hle := sumP_take_le S (a + 1)
      rw [hso] at hst
      simp only [Option.getD_some] at hst
      have z1 : IntKind.i64.wrap ((sumP (S.take a) : Int) + bs.length) = ((sumP (S.take (a + 1)) : Nat) : Int) := by rw [wrap_i64 (by omega) (by omega)]; omega
      have hw1 : IntKind.i64.wrap ((a : Int) + 1) = ((a + 1 : Nat) : Int) := by rw [wrap_i64 (by omega) (by omega)]; omega
      simp [hal, hld, ptr, rs.get (i := 0) rfl, z1, hw1]
      refine ⟨len - (a + 1), by omega, hI _ _ _ _ ⟨a + 1, rfl, by omega, rfl, ?_, rfl⟩ (by simp)⟩
      intro d hd
      rw [List.take_add_one, hsa, Option.toList_some, List.mem_append, List.mem_singleton] at hd
      rcases hd with hd | rfl
      · exact hn d hd
      · rw [hso]; simp
  · have hal : a = len := by omega
    subst hal
    rw [List.take_of_length_le (by omega)] at hn ⊢
    have hany : ¬ S.any (fun d => d.o.isNone) = true := by
      rw [List.any_eq_true]
      rintro ⟨d, hd, e⟩
      exact hn d hd (by simpa using e)
    have hbig : 16777216 < sumP S := by
      apply Classical.byContradiction
      intro hb
      exact he (by unfold joinE; rw [if_neg hany, if_neg hb])
    have e : joinE S = 3 := by unfold joinE; rw [if_neg hany, if_pos hbig]
    simp
    refine got_call (new_bad (.inr (by omega))) ?_
    rintro _ _ ⟨rfl, rfl⟩
    simp
    exact hQ _ _ ⟨by rw [e], rfl⟩

theorem choose_sets {h : Heap} : ∀ (S : List Pl), (∀ d ∈ S, d.ok h) → (∀ d ∈ S, d.o ≠ none) → ∃ D : List SetD, S.map (·.v) = D.map (fun s => ptr s.p) ∧ (∀ s ∈ D, s.ok h) ∧ sumN D = sumP S ∧ ∀ i, joinB D i = hold (catL S) i
  | [], _, _ => ⟨[], rfl, by simp, rfl, fun i => rfl⟩
  | d :: r, h1, h2 => by
    obtain ⟨D, e1, e2, e3, e4⟩ := choose_sets r (fun x hx => h1 x (by simp [hx])) (fun x hx => h2 x (by simp [hx]))
    obtain ⟨sp, -, -⟩ := h1 d (by simp)
    have hd := h2 d (by simp)
    cases hso : d.o with
    | none => exact absurd hso hd
    | some bs =>
      rw [hso] at sp
      obtain ⟨ev, ws, st, cn, hb⟩ := sp
      refine ⟨⟨d.p, d.q, bs.length, ws⟩ :: D, by simp [e1, ev], ?_, by simp [sumN, sumP, e3, hso], fun i => ?_⟩
      · intro s hs
        rw [List.mem_cons] at hs
        rcases hs with rfl | hs
        · exact ⟨st, cn⟩
        · exact e2 s hs
      · simp only [joinB, catL, hso, Option.getD_some]
        unfold hold
        rw [List.getD_eq_getElem?_getD]
        by_cases hi : i < bs.length
        · rw [if_pos hi, hb, List.getElem?_append_left hi]; unfold hold; rw [List.getD_eq_getElem?_getD]
        · rw [if_neg hi, e4, List.getElem?_append_right (by omega)]; unfold hold; rw [List.getD_eq_getElem?_getD]

theorem pJoin_ok {h : Heap} {v : Value} {S : List Pl} (r : Reads h v (S.map (·.v))) (hs : ∀ d ∈ S, d.ok h) (hlen : S.length ≤ 1048576) (he : joinE S = 0) :
    Gives P T (.fn F_bits_Join) [v] h fun u h' => ∃ p2 q2, u = .tuple #[ptr p2, .int .i64 0] ∧ PSet h' (ptr p2) p2 q2 (some (catL S)) ∧ Grow h h' ∧ h.dyn.length ≤ p2 ∧ h.dyn.length ≤ q2 := by
  have hany : ¬ S.any (fun d => d.o.isNone) = true := fun e => by unfold joinE at he; rw [if_pos e] at he; cases he
  have hbig : ¬ 16777216 < sumP S := fun e => by unfold joinE at he; rw [if_neg hany, if_pos e] at he; cases he
  obtain ⟨D, e1, e2, e3, e4⟩ := choose_sets S hs fun d hd e => hany (by rw [List.any_eq_true]; exact ⟨d, hd, by rw [e]; rfl⟩)
  have hDl : D.length = S.length := by have := congrArg List.length e1; simpa using this.symm
  rw [e1] at r
  refine (join_spec r e2 (by omega) (by omega)).mono ?_
  rintro _ h' ⟨p2, q2, ws2, rfl, st, cn, hb, g, f1, f2⟩
  exact ⟨p2, q2, rfl, ⟨rfl, ws2, by rw [catL_len, ← e3]; exact st, by rw [catL_len, ← e3]; exact cn, fun i => by rw [hb, e4]⟩, g, f1, f2⟩

/-- The document's sets, laid behind one another, two cells each. -/
def cellsL (S : List Pl) : List Value := S.flatMap fun d => [.bool d.o.isSome, d.hv]

theorem cellsL_len : ∀ S, (cellsL S).length = S.length * 2
  | [] => rfl
  | d :: r => by
    have := cellsL_len r
    unfold cellsL at this ⊢
    simp only [List.flatMap_cons, List.length_append, List.length_cons, List.length_nil, this]; omega

theorem cellsL_get : ∀ {S : List Pl} {a : Nat} {s : Pl}, S[a]? = some s → (cellsL S)[a * 2]? = some (.bool s.o.isSome) ∧ (cellsL S)[a * 2 + 1]? = some s.hv
  | [], a, s, h => by simp at h
  | x :: r, a, s, h => by
    cases a with
    | zero => simp at h; subst h; exact ⟨rfl, rfl⟩
    | succ a =>
      simp only [List.getElem?_cons_succ] at h
      obtain ⟨h1, h2⟩ := cellsL_get h
      have e : cellsL (x :: r) = .bool x.o.isSome :: x.hv :: cellsL r := rfl
      rw [e, show (a + 1) * 2 = a * 2 + 1 + 1 by omega, List.getElem?_cons_succ, List.getElem?_cons_succ, List.getElem?_cons_succ, List.getElem?_cons_succ]
      exact ⟨h1, h2⟩

theorem rJoin {h : Heap} {v : Value} {q0 : Nat} {S : List Pl} (o : OwnN h v q0 2 S.length (cellsL S)) (hs : ∀ d ∈ S, d.ok h) (hlen : S.length ≤ 1048576) (hh : ∀ d ∈ S, d.hq < h.dyn.length ∨ d.hv = nilS) :
    Gives P T (.fn F_colonnaderef01_Join) [v] h fun u h' => (if joinE S = 0 then ∃ hw q, u = .tuple #[rv true hw, .int .i64 0] ∧ Own h' hw q ((catL S).map .bool) ∧ h.dyn.length ≤ q ∧ (hw ≠ nilS → q < h'.dyn.length) else u = .tuple #[rv false nilS, .int .i64 (joinE S)]) ∧ Grow h h' := by
  refine gives_by t_colonnaderef01_Join (by simp [c_colonnaderef01_Join]) fun Q hQ => ?_
  have hsum := sumP_le S fun d hd => (hs d hd).2.2
  obtain ⟨b, c, rfl, hsh⟩ := o.shape
  clear hsh
  obtain ⟨len, hL⟩ : ∃ len, S.length = len := ⟨_, rfl⟩
  rw [hL] at o hlen hsum ⊢
  have r0 := RowAt.new h [.bool false, .slice none 0 0] 0
  have g0 := Grow.new h [.bool false, .slice none 0 0] 0
  obtain ⟨F, hF⟩ : ∃ G, hnew h [.bool false, .slice none 0 0] 0 = G := ⟨_, rfl⟩
  have hFl : F.dyn.length = h.dyn.length + 1 := by rw [← hF]; simp
  rw [hF] at r0 g0
  have oF := o.grow g0
  have err : ∀ (J : Heap), Grow F J → ∃ h3, storeN J ⟨h.dyn.length, 0, some 0⟩ [.bool false, .slice none 0 0] = some h3 ∧ loadN h3 ⟨h.dyn.length, 0, some 0⟩ 2 = some [.bool false, .slice none 0 0] ∧ Grow h h3 := fun J gJ => by
    obtain ⟨h3, e3, _, l3, g3, _, _⟩ := row2 rfl (r0.grow gJ) (g0.trans gJ) (Nat.le_refl _) (x := .bool false) (y := .slice none 0 0) (by simp) (by simp)
    exact ⟨h3, e3, l3, g3⟩
  simp [c_colonnaderef01_Join, hF]
  refine go_loopK (fun k ks h2 => ∃ a : Nat, k = len - a ∧ a ≤ len ∧ ks = [(0, .slice b len c), (2, .pointer (some ⟨h.dyn.length, 0, some 0⟩)), (4, .int .i64 (sumP (S.take a) : Nat)), (5, .int .i64 a)] ∧ (∀ d ∈ S.take a, d.o ≠ none) ∧ h2 = F) (n := len)
    ⟨0, rfl, by omega, rfl, by simp, rfl⟩ (by simp [sumP]) ?_
  rintro I hI k ks e h2 ⟨a, rfl, ha, rfl, hn, hFe⟩
  have hFe := hFe.symm
  subst hFe
  simp
  refine branch_dec (fun hlt => ?_) (fun hge => ?_)
  · have hal : a < len := by omega
    have hsa : S[a]? = some S[a] := List.getElem?_eq_getElem (by omega)
    obtain ⟨s, hsd⟩ : ∃ s, S[a] = s := ⟨_, rfl⟩
    rw [hsd] at hsa
    have hmem := List.mem_of_getElem? hsa
    obtain ⟨c1, c2⟩ := cellsL_get hsa
    obtain ⟨u, ev, ld1⟩ := oF.get c1 (by omega)
    obtain ⟨u', ev', ld2⟩ := oF.get c2 (by omega)
    rw [ev] at ev'
    obtain rfl : u = u' := by simpa using ev'
    simp only [Value.slice.injEq] at ev
    obtain ⟨rfl, -, rfl⟩ := ev
    obtain ⟨-, ho, hl⟩ := hs s hmem
    cases hso : s.o with
    | none =>
      rw [hso] at ld1
      have e : joinE S = 1 := by
        unfold joinE
        rw [if_pos]
        rw [List.any_eq_true]
        exact ⟨s, hmem, by rw [hso]; rfl⟩
      simp only [e] at hQ
      obtain ⟨h3, e3, l3, g3⟩ := err F (Chg.refl _)
      simp at ld1
      simp [hal, ld1, e3]
      exact ⟨_, res_cell3 (by decide) (by simp) l3 (by decide), hQ _ _ ⟨by simp [oneOf, nilS], g3⟩⟩
    | some bs =>
      rw [hso] at ld1 hl ho
      obtain ⟨bb, cc, eh, _⟩ := ho.reads.shape
      simp only [Option.getD_some, List.length_map] at eh hl
      rw [eh] at ld2
      have hst := sumP_take S hsa
      have hle := sumP_take_le S (a + 1)
      rw [hso] at hst
      simp only [Option.getD_some] at hst
      have z1 : IntKind.i64.wrap ((sumP (S.take a) : Int) + bs.length) = ((sumP (S.take (a + 1)) : Nat) : Int) := by rw [wrap_i64 (by omega) (by omega)]; omega
      have hw1 : IntKind.i64.wrap ((a : Int) + 1) = ((a + 1 : Nat) : Int) := by rw [wrap_i64 (by omega) (by omega)]; omega
      simp at ld1
      simp [hal, ld1, ld2, z1, hw1]
      refine ⟨len - (a + 1), by omega, hI _ _ _ _ ⟨a + 1, rfl, by omega, rfl, ?_, rfl⟩ (by simp)⟩
      intro d hd
      rw [List.take_add_one, hsa, Option.toList_some, List.mem_append, List.mem_singleton] at hd
      rcases hd with hd | rfl
      · exact hn d hd
      · rw [hso]; simp
  · have hal : a = len := by omega
    subst hal
    rw [List.take_of_length_le (by omega)] at hn ⊢
    have hany : ¬ S.any (fun d => d.o.isNone) = true := by
      rw [List.any_eq_true]
      rintro ⟨d, hd, e⟩
      exact hn d hd (by simpa using e)
    by_cases hbig : 16777216 < sumP S
    · have e : joinE S = 3 := by unfold joinE; rw [if_neg hany, if_pos hbig]
      simp only [e] at hQ
      have hbig' : (16777216 : Int) < sumP S := by omega
      obtain ⟨h3, e3, l3, g3⟩ := err F (Chg.refl _)
      simp [hbig, hbig', e3]
      exact ⟨_, res_cell3 (by decide) (by simp) l3 (by decide), hQ _ _ ⟨by simp [oneOf, nilS], g3⟩⟩
    · have e : joinE S = 0 := by unfold joinE; rw [if_neg hany, if_neg hbig]
      simp only [e, ↓reduceIte] at hQ
      have hbig' : ¬ (16777216 : Int) < sumP S := by omega
      obtain ⟨K, eK, rK, lK, gK, cK, nK⟩ := row2 rfl (RowAt.new F [.bool false, .slice none 0 0] 0) (Grow.new F [.bool false, .slice none 0 0] 0) (Nat.le_refl _) (x := .bool true) (y := .slice none 0 0) (by simp) (by simp)
      have hKl : K.dyn.length = F.dyn.length + 1 := by rw [nK]; simp
      simp [hbig, hbig', eK]
      refine go_loopK (fun k ks h2 => ∃ (a' : Nat) (u : Value) (q : Nat), k = a - a' ∧ a' ≤ a ∧ ks = [(0, .slice b a c), (2, .pointer (some ⟨h.dyn.length, 0, some 0⟩)), (6, .pointer (some ⟨F.dyn.length, 0, some 0⟩)), (7, .int .i64 a')] ∧
          Own h2 u q ((catL (S.take a')).map .bool) ∧ F.dyn.length < q ∧ (u ≠ nilS → q < h2.dyn.length) ∧ RowAt h2 F.dyn.length 0 0 [.bool true, u] ∧ Grow F h2) (n := a)
        ⟨0, nilS, F.dyn.length + 1, rfl, by omega, rfl, by simpa [catL, nilS] using Own.nil K (F.dyn.length + 1), by omega, fun e => absurd rfl e, rK, gK⟩ (by simp) ?_
      rintro I hI k ks e h2 ⟨a', u, q, rfl, ha', rfl, ou, hq1, hq2, ru, gg⟩
      have l1 := ru.get (i := 1) rfl
      have l2 := loadN_row_all ru (n := 2) rfl
      have gl := gg.len
      have rul := ru.lt
      simp
      refine branch_dec (fun hlt => ?_) (fun hge => ?_)
      · have hal : a' < a := by omega
        have hsa : S[a']? = some S[a'] := List.getElem?_eq_getElem (by omega)
        obtain ⟨s, hsd⟩ : ∃ s, S[a'] = s := ⟨_, rfl⟩
        rw [hsd] at hsa
        have hmem := List.mem_of_getElem? hsa
        obtain ⟨c1, c2⟩ := cellsL_get hsa
        obtain ⟨w, ev, ld2⟩ := (oF.grow gg).get c2 (by omega)
        simp only [Value.slice.injEq] at ev
        obtain ⟨rfl, -, rfl⟩ := ev
        obtain ⟨-, ho, hl⟩ := hs s hmem
        obtain ⟨bs, hbs⟩ : ∃ bs, s.o.getD [] = bs := ⟨_, rfl⟩
        rw [hbs] at ho hl
        have ho2 := ((ho.grow g0).grow gg)
        obtain ⟨f1, f2⟩ := ho2.reads.first
        have hct := catL_take S hsa
        rw [hbs] at hct
        have hst := sumP_take S hsa
        have hle := sumP_take_le S (a' + 1)
        rw [hbs] at hst
        have hlen1 : ((catL (S.take a')).map Value.bool).length = sumP (S.take a') := by rw [List.length_map, catL_len]
        have hw1 : IntKind.i64.wrap ((a' : Int) + 1) = ((a' + 1 : Nat) : Int) := by rw [wrap_i64 (by omega) (by omega)]; omega
        obtain ⟨u', h4, q', e4, o4, c4, hq4, gq⟩ : ∃ u' h4 q', aappend h2 1 1 [.bool false] u s.hv = some (u', h4) ∧ Own h4 u' q' ((catL (S.take (a' + 1))).map .bool) ∧ Chg (fun b => b = q ∧ u ≠ nilS) h2 h4 ∧ F.dyn.length < q' ∧ (u' ≠ nilS → q' < h4.dyn.length) := by
          by_cases hbe : bs = []
          · subst hbe
            refine ⟨u, h2, q, ou.app0 (by rw [hlen1]; omega) (by simpa using f1) (by simpa using f2), by rw [hct, List.append_nil]; exact ou, Chg.refl _, hq1, hq2⟩
          · obtain ⟨u', h4, q', e4, o4, c4, l4, d4⟩ := ou.app (bytes := 1) (z := .bool false) (m := bs.map .bool) (by simpa using hbe) f1 f2 (one_boolA bs) (by rw [hlen1, List.length_map]; omega) (by rw [hlen1, List.length_map]; omega)
            refine ⟨u', h4, q', e4, by rw [hct, List.map_append]; exact o4, c4, ?_, fun _ => l4⟩
            rcases d4 with ⟨d4, _⟩ | d4 <;> omega
        have c4l := c4.len
        obtain ⟨cb, cn, cc, rfl⟩ := o4.is_slice
        obtain ⟨ub, un, uc, rfl⟩ := ou.is_slice
        have r4 : RowAt h4 F.dyn.length 0 0 [.bool true, .slice ub un uc] := ru.chg c4 (fun e => by have := e.1; omega)
        obtain ⟨h5, e5, r5, c5, n5⟩ := r4.store (i := 1) (by simp) (x := .slice cb cn cc) (by simp)
        simp at r5 e5
        obtain ⟨hb', hn', hc', hveq⟩ := ho.is_slice
        rw [hveq] at ld2 e4
        simp [hal, l1, ld2, e4, e5, hw1, pushP_in]
        exact ⟨a - (a' + 1), by omega, hI _ _ _ _ ⟨a' + 1, _, q', rfl, by omega, rfl, o4.chg c5 (by omega), hq4, fun e => by have := gq e; omega, r5, (gg.after c4 fun b hb e => by have := hq2 e.2; omega).after c5 fun b hb e => by omega⟩ (by simp)⟩
      · have hal : a' = a := by omega
        subst hal
        rw [List.take_of_length_le (by omega)] at ou
        obtain ⟨ub, un, uc, rfl⟩ := ou.is_slice
        obtain ⟨h3, e3, r3, l3, g3, c3, n3⟩ := row2 rfl (r0.grow gg) (g0.trans gg) (Nat.le_refl _) (x := .bool true) (y := .slice ub un uc) (by simp) (by simp)
        simp [l2, e3]
        exact ⟨_, res_cell3 (by decide) (by simp) l3 (by decide), hQ _ _ ⟨⟨_, q, by simp [oneOf], ou.chg c3 (by omega), by omega, fun e => by have := hq2 e; omega⟩, g3⟩⟩

end Go.Ax

namespace Go.Ax
open Go.Proofs
set_option linter.unusedVariables false
set_option linter.unusedSimpArgs false
set_option maxRecDepth 100000

theorem GrowL.after {S : Nat → Prop} {a b c : Heap} (g : GrowL a b) (k : Chg S b c) (i : ∀ n, n < a.dyn.length → ¬ S n) : GrowL a c := Chg.after g k.l fun n hn hs => i n hn hs

/-- A thing more, by way of a cell that holds the list. -/
theorem cell_push {h : Heap} {d q : Nat} {u x : Value} {l : List Value} (rb : RowAt h d 0 0 [u]) (o : Own h u q l) (hd : u ≠ nilS → d < q) (hg : goodC x = true) (hl : l.length ≤ 1000000000) :
    ∃ u' h1 h2 q', aappend (hnew h [x] 1) 1 8 [.int .i64 0] u (.slice (some ⟨h.dyn.length, 0, some 0⟩) 1 1) = some (u', h1) ∧ goodC u' = true ∧ hstore h1 ⟨d, 0, some 0⟩ u' = some h2 ∧ RowAt h2 d 0 0 [u'] ∧ Own h2 u' q' (l ++ [x]) ∧
      Chg (fun b => b = q ∧ u ≠ nilS ∨ b = d) h h2 ∧ d < q' ∧ q' < h2.dyn.length ∧ (q' = q ∧ u ≠ nilS ∨ h.dyn.length ≤ q') := by
  obtain ⟨u', h1, q', e, o1, c1, l1, d1⟩ := o.push (bytes := 8) (z := .int .i64 0) (x := x) hg (by omega) (by omega)
  have hdl := rb.lt
  have rb1 := rb.chg c1 fun e => by have := hd e.2; have := e.1; omega
  obtain ⟨h2, e2, rb2, c2, n2⟩ := rb1.put (y := u') o1.good
  have hdq : d < q' := by
    rcases d1 with ⟨h3, h4⟩ | h3
    · have := hd h4; omega
    · omega
  refine ⟨u', h1, h2, q', e, o1.good, e2, rb2, o1.chg c2 (fun e => by omega), (c1.mono fun b _ e => .inl e).trans (c2.mono fun b _ e => .inr e), hdq, by omega, ?_⟩
  rcases d1 with h3 | h3
  · exact .inl h3
  · exact .inr (by omega)

theorem filt_pos (f : Nat → Bool) : ∀ {n x : Nat}, x < n → f x = true → (filt f n)[cnt f x]? = some x
  | 0, x, h, _ => by omega
  | n + 1, x, h, hx => by
    rw [filt_step]
    by_cases e : x = n
    · subst e
      rw [if_pos hx, ← filt_len, List.getElem?_append_right (Nat.le_refl _)]
      simp
    · have ih := filt_pos f (n := n) (x := x) (by omega) hx
      have hl := (List.getElem?_eq_some_iff.1 ih).1
      split
      · rw [List.getElem?_append_left hl, ih]
      · exact ih

theorem take_push {xs : List Nat} {k x : Nat} (h : xs[k]? = some x) : iL (xs.take k) ++ [Value.int .i64 (x : Nat)] = iL (xs.take (k + 1)) := by
  rw [← iL_app, List.take_add_one, h]; rfl

theorem Own.growL {h h' : Heap} {v : Value} {q : Nat} {l : List Value} (o : Own h v q l) (g : GrowL h h') : Own h' v q l := o.chgL g id

/-- What is walked: all, or the first m. -/
def wlI (m : Int) (xs : List Nat) : List Nat := if 1 ≤ m ∧ m < xs.length then xs.take m.toNat else xs

theorem walkedP {h : Heap} {L : Nat → Nat → Option Value} (hro : h.ro = roBlk tabG L) {p q n : Nat} {m : Int} {ws : List (BitVec 64)} (s : SetAt h p q n ws) (cn : Canon n ws) :
    Gives P T (.fn F_colonnadelaw01_walked) [ptr p, .int .i64 m] h fun v h' => ∃ q', Own h' v q' (iL (wlI m (filt (bit ws) n))) ∧ GrowL h h' := by
  have hn16 := cn.le
  have hfl := filt_len (bit ws) n
  have hcl := cnt_le (bit ws) n
  refine gives_by t_colonnadelaw01_walked (by simp [c_colonnadelaw01_walked]) fun Q hQ => ?_
  obtain ⟨xs, hxs⟩ : ∃ xs, filt (bit ws) n = xs := ⟨_, rfl⟩
  rw [hxs] at hfl hQ
  have rva := RowAt.new h [ptr p] 0
  have ga := Grow.new h [ptr p] 0
  obtain ⟨ha, hha⟩ : ∃ x, x = hnew h [ptr p] 0 := ⟨_, rfl⟩
  rw [← hha] at rva ga
  have rma := RowAt.new ha [.int .i64 m] 0
  have gb := Grow.new ha [.int .i64 m] 0
  obtain ⟨hb, hhb⟩ : ∃ x, x = hnew ha [.int .i64 m] 0 := ⟨_, rfl⟩
  rw [← hhb] at rma gb
  have rvb := rva.grow gb
  simp only [ptr] at hha rvb
  simp [c_colonnadelaw01_walked, ptr, ← hha, ← hhb, rvb.get (i := 0) rfl]
  refine got_call (All_spec (by simp)) ?_
  rintro _ hc ⟨rfl, hhc⟩
  have rbx := RowAt.new hb [ptr p] 0
  have gc := Grow.new hb [ptr p] 0
  simp only [ptr] at rbx gc
  rw [← hhc] at rbx gc
  obtain ⟨d, hd⟩ : ∃ d, hc.dyn.length = d := ⟨_, rfl⟩
  obtain ⟨h1, hh1⟩ : ∃ x, x = hnew hc [.slice none 0 0] 0 := ⟨_, rfl⟩
  have g1 : Grow hc h1 := by rw [hh1]; exact Grow.new _ _ _
  have rb : RowAt h1 d 0 0 [nilS] := by rw [hh1, ← hd]; exact RowAt.new _ _ _
  have n1 : h1.dyn.length = d + 1 := by rw [hh1]; simp [hd]
  have gab := ((ga.trans gb).trans gc).trans g1
  have ro1 : h1.ro = roBlk tabG L := gab.ro.trans hro
  have hl1 := gab.len
  have hl0 := ((ga.trans gb).trans gc).len
  have rv : hload hc ⟨h.dyn.length, 0, some 0⟩ = some (ptr p) := (rvb.grow gc).get (i := 0) rfl
  have rm : hload hc ⟨ha.dyn.length, 0, some 0⟩ = some (.int .i64 m) := (rma.grow gc).get (i := 0) rfl
  simp [hd, ← hh1]
  refine go_walk (L := L) ro1 (p := p) (q := q) (n := n) (ws := ws) (box := ⟨hb.dyn.length, 0, some 0⟩) (by simp) ((rbx.grow g1).get (i := 0) rfl) (s.grow gab) cn
    (fun w k h' => h'.ro = roBlk tabG L ∧ (ws ≠ [] → w < h'.dyn.length) ∧ d < w ∧ ∃ u q2, RowAt h' d 0 0 [u] ∧ Own h' u q2 (iL (xs.take k)) ∧ GrowL h h' ∧ GrowL hc h' ∧ (¬ (1 ≤ m ∧ m ≤ k)) ∧ (u ≠ nilS → d < q2) ∧ (u ≠ nilS → q2 ≠ w))
    (fun e h' => e = .exit 0 ∧ (1 ≤ m ∧ m ≤ xs.length) ∧ h'.ro = roBlk tabG L ∧ ∃ u q2, RowAt h' d 0 0 [u] ∧ Own h' u q2 (iL (xs.take m.toNat)) ∧ GrowL h h')
    (fun w k h' y ⟨j1, j2, j3, u, q2, j5, j6, j7, j7', j8, j9, j10⟩ => ⟨j1, j2, j3, u, q2, (j5.lps y), (j6.lps y), j7.trans (growL_lps _ _), j7'.trans (growL_lps _ _), j8, j9, j10⟩)
    (fun e h' y ⟨j0, j1, j2, u, q2, j3, j4, j5⟩ => ⟨j0, j1, j2, u, q2, j3.lps y, j4.lps y, j5.trans (growL_lps _ _)⟩)
    (fun w h' g hw hwl => ⟨g.ro.trans ro1, hwl, by omega, nilS, 0, (rb.lps []).chg g id |>.unlps, .inl ⟨rfl, rfl⟩, gab.l.trans g, g1.l.trans g, by omega, fun h => absurd rfl h, fun h => absurd rfl h⟩) (fun x => [(7, x), (14, x)]) (fun x h' => by simp) ?_ ?_ ?_
  · rintro w k x h' hw hxn hbx hck ⟨ro', hwl, hdw, u, q2, rb', ou, gg, gg1, hmk, hdu, hlw⟩ ro'' lp lpl
    have hwsne : ws ≠ [] := by
      rintro rfl
      simp [bit, word] at hbx
    have hxk : xs[k]? = some x := by rw [← hxs, ← hck]; exact filt_pos _ hxn hbx
    have hk : k < xs.length := (List.getElem?_eq_some_iff.1 hxk).1
    have hl0 : (iL (xs.take k)).length ≤ 1000000000 := by rw [iL_len, List.length_take]; omega
    obtain ⟨u', h2, h3, q3, e2, gu, e3, rb3, o3, c3, hd3, hl3, d3⟩ := cell_push (x := .int .i64 (x : Nat)) rb' ou hdu (by simp) hl0
    rw [take_push hxk] at o3
    have gl : h.dyn.length ≤ h'.dyn.length := gg.len
    have k3 := c3.len
    have ro3 := c3.ro.trans ro'
    have gg3 : GrowL h h3 := gg.after c3 fun b hb e => by
      rcases e with ⟨h4, h5⟩ | h4
      · have := hdu h5; omega
      · omega
    have G3 : GrowL hc h3 := gg1.after c3 fun b hb e => by
      rcases e with ⟨h4, h5⟩ | h4
      · have := hdu h5; omega
      · omega
    have hwl := hwl hwsne
    have hq2w : u' ≠ nilS → q3 ≠ w := fun _ e => by
      rcases d3 with ⟨h4, h5⟩ | h4
      · exact hlw h5 (by omega)
      · omega
    have w3 : h3.dyn[w]? = h'.dyn[w]? := c3.same w hwl (by
      rintro (⟨h4, h5⟩ | h4)
      · exact hlw h5 h4.symm
      · omega)
    have hlt : (iL (xs.take (k + 1))).length = k + 1 := by rw [iL_len, List.length_take]; omega
    obtain ⟨b', c', ev, _⟩ := o3.shape
    rw [hlt] at ev
    subst ev
    have S3 : SetAt h3 p q n ws := s.chgL gg3 id id
    have l2 := hload_growL G3 rv
    have l3 := hload_growL G3 rm
    have l2' := hload_growL gg1 rv
    have l3' := hload_growL gg1 rm
    simp only [ptr] at l2 l2'
    have en := rb3.get (i := 0) rfl
    by_cases hm1 : m = k + 1
    · subst hm1
      simp [rb'.get (i := 0) rfl, e2, gu, e3, l2, l3, l2', l3', en, skipV]
      refine ⟨ro3.trans ro'.symm, w3, LP.of c3, by omega, ro3, _, rb3, ⟨q3, ?_⟩, gg3⟩
      exact o3
    · have h1' : ¬ ((k : Int) + 1 = m) := fun e => hm1 e.symm
      simp [rb'.get (i := 0) rfl, e2, gu, e3, l2, l3, l2', l3', en, h1']
      refine got_call (len_spec S3) ?_
      rintro _ _ ⟨rfl, rfl⟩
      rename_i h3
      have h2' : ¬ ((n : Int) < (k : Int) + 1) := by omega
      simp [en, h2', pushP_in]
      exact ⟨ro3.trans ro'.symm, w3, LP.of c3, ro3, fun _ => by omega, hdw, _, rb3, ⟨q3, o3, gg3, G3, by omega, fun _ => hd3, hq2w⟩⟩
  · rintro w h2 ⟨ro2, -, -, u, q2, rb2, ou, gg, -, hmk, -, -⟩ lp2 _
    simp [rb2.get (i := 0) rfl]
    refine hQ _ _ ⟨q2, ?_, gg⟩
    rw [← hfl, List.take_length] at ou
    unfold wlI
    rw [if_neg (by omega)]
    exact ou
  · rintro e h2 _ ⟨rfl, hm, ro2, u, q2, rb2, ou, gg⟩ lp2 _
    simp [rb2.get (i := 0) rfl]
    refine hQ _ _ ⟨q2, ?_, gg⟩
    unfold wlI
    by_cases hlt : m < xs.length
    · rw [if_pos ⟨hm.1, hlt⟩]; exact ou
    · rw [if_neg (by omega)]
      rw [List.take_of_length_le (by omega)] at ou
      exact ou

theorem all1_nil {h : Heap} {y : Nat} {box : Addr} (hb : hload h box = some nilP) : Gives P T (.fn F_bits_Set_All_1) [.func (.yield y) #[] #[], .pointer (some box)] h fun _ h2 => h2 = h := by
  refine gives_by t_bits_Set_All_1 (by simp [c_bits_Set_All_1]) fun R hR => ?_
  simp [c_bits_Set_All_1, hb]
  refine got_call words_nil ?_
  rintro _ _ ⟨rfl, rfl⟩
  rename_i h
  simp [nilS]
  refine go_loopK (fun kk ks h2 => kk = 0 ∧ ks = [(7, .int .i64 0), (8, .int .i64 0)] ∧ h2 = h) (n := 0) ⟨rfl, rfl, rfl⟩ (by simp) ?_
  rintro I hI kk ks e h2 ⟨rfl, rfl, rfl⟩
  simp
  exact hR _ _ rfl

theorem walked_nil {h : Heap} {m : Int} : Gives P T (.fn F_colonnadelaw01_walked) [nilP, .int .i64 m] h fun v h' => v = nilS ∧ GrowL h h' := by
  refine gives_by t_colonnadelaw01_walked (by simp [c_colonnadelaw01_walked]) fun Q hQ => ?_
  have rva := RowAt.new h [nilP] 0
  have ga := Grow.new h [nilP] 0
  obtain ⟨ha, hha⟩ : ∃ x, x = hnew h [nilP] 0 := ⟨_, rfl⟩
  rw [← hha] at rva ga
  have rma := RowAt.new ha [.int .i64 m] 0
  have gb := Grow.new ha [.int .i64 m] 0
  obtain ⟨hb, hhb⟩ : ∃ x, x = hnew ha [.int .i64 m] 0 := ⟨_, rfl⟩
  rw [← hhb] at rma gb
  have rvb := rva.grow gb
  simp [c_colonnadelaw01_walked, ← hha, ← hhb, rvb.get (i := 0) rfl]
  refine got_call (All_spec (by simp)) ?_
  rintro _ hc ⟨rfl, hhc⟩
  have rbx := RowAt.new hb [nilP] 0
  have gc := Grow.new hb [nilP] 0
  rw [← hhc] at rbx gc
  obtain ⟨d, hd⟩ : ∃ d, hc.dyn.length = d := ⟨_, rfl⟩
  obtain ⟨h1, hh1⟩ : ∃ x, x = hnew hc [.slice none 0 0] 0 := ⟨_, rfl⟩
  have g1 : Grow hc h1 := by rw [hh1]; exact Grow.new _ _ _
  have rb : RowAt h1 d 0 0 [nilS] := by rw [hh1, ← hd]; exact RowAt.new _ _ _
  have gab := ((ga.trans gb).trans gc).trans g1
  have bx := (rbx.grow g1).get (i := 0) rfl
  simp [hd, ← hh1]
  refine go_range (f' := F_bits_Set_All_1) (args := [.func (.yield h1.lps.length) #[] #[], .pointer (some ⟨hb.dyn.length, 0, some 0⟩)]) (by simp [acallee]) (by kernel_rfl) ?_
  refine (all1_nil (show hload (hlps h1 (h1.lps ++ [_])) ⟨hb.dyn.length, 0, some 0⟩ = some nilP from bx)).mono ?_
  rintro _ _ rfl
  refine ⟨_, by rw [hlps_lps, List.getElem?_append_right (Nat.le_refl _), Nat.sub_self]; rfl, by simp, ?_⟩
  have rb' := fun l => (rb.lps l).get (i := 0) rfl
  simp [rb']
  exact hQ _ _ ⟨rfl, gab.l.trans (growL_lps _ _)⟩

end Go.Ax
