/- Seat bits: the document's own sets: what its functions answer. -/
import Derived.Test.YtpemffaclmpnnaaDoorYV
import Derived.Test.YtpemffaclmpnnaaDoorYR
import Derived.Test.YtpemffaclmpnnaaDoorYL
import Derived.Test.YtpemffaclmpnnaaDoorYJ
import Derived.Test.YtpemffaclmpnnaaDoorMW
namespace Go.Ax
open Go.Proofs
set_option linter.unusedVariables false
set_option linter.unusedSimpArgs false
set_option maxRecDepth 100000

/-- The document's set: is it there; its list. -/
abbrev rv (b : Bool) (hv : Value) : Value := .agg #[.bool b, hv]

theorem one_boolA (bs : List Bool) : (bs.map Value.bool).all goodC = true := by rw [List.all_eq_true]; intro x hx; rw [List.mem_map] at hx; obtain ⟨y, _, rfl⟩ := hx; simp

@[simp] theorem store_agg2 {h : Heap} {a : Addr} {x y : Value} : storeR h 2 (.pointer (some a)) (.agg #[x, y]) = (storeN h a [x, y]).map fun h' => (undef, h') := store_agg (cs := #[x, y])

theorem res_cell2 {N i n : Nat} {a : Addr} {l : List Value} {h : Heap} {e : List (Nat × Value)} (hi : i < N) (hs : slot e i = .pointer (some a)) (hl : loadN h a n = some l) : resVals (envT N e) h [.cell i (some n)] = some [.agg l.toArray] := by
  simp only [resVals, envT_getD hi, hs, aload, hl, Option.map_some]

theorem res_cell3 {N i j n : Nat} {a : Addr} {l : List Value} {h : Heap} {e : List (Nat × Value)} (hi : i < N) (hs : slot e i = .pointer (some a)) (hl : loadN h a n = some l) (hj : j < N) : resVals (envT N e) h [.cell i (some n), .tmp j] = some [.agg l.toArray, slot e j] := by
  simp only [resVals, envT_getD hi, envT_getD hj, hs, aload, hl, Option.map_some]

/-- A row of two, written over, the memory otherwise as it was or grown. -/
theorem row2 {h h1 : Heap} {l : List Value} (hl : l.length = 2) {q : Nat} (r : RowAt h1 q 0 0 l) (g : Grow h h1) (hq : h.dyn.length ≤ q) {x y : Value} (hx : goodC x = true) (hy : goodC y = true) :
    ∃ h2, storeN h1 ⟨q, 0, some 0⟩ [x, y] = some h2 ∧ RowAt h2 q 0 0 [x, y] ∧ loadN h2 ⟨q, 0, some 0⟩ 2 = some [x, y] ∧ Grow h h2 ∧ Chg (· = q) h1 h2 ∧ h2.dyn.length = h1.dyn.length := by
  obtain ⟨h2, e2, r2, c2, n2⟩ := r.storeN [x, y] 0 (by simp [hl]) (by simp [hx, hy])
  have e3 : l.take 0 ++ [x, y] ++ l.drop (0 + [x, y].length) = [x, y] := by
    rw [List.take_zero, List.nil_append, List.drop_eq_nil_of_le (by simp [hl]), List.append_nil]
  rw [e3] at r2
  exact ⟨h2, e2, r2, loadN_row_all r2 rfl, g.after c2 fun b hb e => by omega, c2, n2⟩

theorem rNew_ok {h : Heap} {n : Nat} (hn : n ≤ 16777216) : Gives P T (.fn F_colonnaderef01_New) [.int .i64 n] h fun v h' => ∃ hv q, v = rv true hv ∧ Own h' hv q ((List.replicate n false).map .bool) ∧ Grow h h' ∧ h.dyn.length ≤ q ∧ q < h'.dyn.length := by
  refine gives_by t_colonnaderef01_New (by simp [c_colonnaderef01_New]) fun Q hQ => ?_
  have h1 : ¬ ((16777216 : Int) < n) := by omega
  have h0 : ¬ ((n : Int) < 0) := by omega
  have r1 := RowAt.new h [.bool false, .slice none 0 0] 0
  have g1 := Grow.new h [.bool false, .slice none 0 0] 0
  obtain ⟨G, hG⟩ : ∃ G, hnew h [.bool false, .slice none 0 0] 0 = G := ⟨_, rfl⟩
  have hGl : G.dyn.length = h.dyn.length + 1 := by rw [← hG]; simp
  rw [hG] at r1 g1
  have r2 := RowAt.new G (List.replicate n (.bool false)) 1
  have g2 := Grow.new G (List.replicate n (.bool false)) 1
  simp [c_colonnaderef01_New, h1, h0, hG]
  rw [mkS_nat (by omega) (by omega)]
  obtain ⟨H, hH⟩ : ∃ H, hnew G (List.replicate n (.bool false)) 1 = H := ⟨_, rfl⟩
  rw [hH] at r2 g2
  obtain ⟨h3, e3, r3, l3, g3, c3, n3⟩ := row2 rfl (r1.grow g2) (g1.trans g2) (Nat.le_refl _) (x := .bool true) (y := .slice (some ⟨G.dyn.length, 0, some 0⟩) n n) (by simp) (by simp)
  have hHl : H.dyn.length = G.dyn.length + 1 := by rw [← hH]; simp
  simp [hH, e3]
  refine ⟨_, res_cell2 (by decide) (by simp) l3, hQ _ _ ⟨_, G.dyn.length, rfl, .inr (.inr ⟨0, [], by simp, by simp; unfold gcap; omega, ?_⟩), g3, by omega, by omega⟩⟩
  have := r2.chg c3 (by omega)
  simpa using this

theorem rNew_bad {h : Heap} {n : Int} (hn : n < 0 ∨ 16777216 < n) : Gives P T (.fn F_colonnaderef01_New) [.int .i64 n] h fun v h' => v = rv false (.slice none 0 0) ∧ Grow h h' := by
  refine gives_by t_colonnaderef01_New (by simp [c_colonnaderef01_New]) fun Q hQ => ?_
  have r1 := RowAt.new h [.bool false, .slice none 0 0] 0
  have g1 := Grow.new h [.bool false, .slice none 0 0] 0
  obtain ⟨G, hG⟩ : ∃ G, hnew h [.bool false, .slice none 0 0] 0 = G := ⟨_, rfl⟩
  rw [hG] at r1 g1
  obtain ⟨h3, e3, r3, l3, g3, c3, n3⟩ := row2 rfl r1 g1 (Nat.le_refl _) (x := .bool false) (y := .slice none 0 0) (by simp) (by simp)
  by_cases h0 : n < 0
  · simp [c_colonnaderef01_New, h0, hG, e3, skipV]
    exact ⟨_, res_cell2 (by decide) (by simp) l3, hQ _ _ ⟨rfl, g3⟩⟩
  · have h1 : 16777216 < n := by omega
    simp [c_colonnaderef01_New, h0, h1, hG, e3]
    exact ⟨_, res_cell2 (by decide) (by simp) l3, hQ _ _ ⟨rfl, g3⟩⟩

theorem Own.is_slice {h : Heap} {v : Value} {q : Nat} {l : List Value} (o : Own h v q l) : ∃ b n c, v = .slice b n c := by
  obtain ⟨b, c, e, _⟩ := o.shape; exact ⟨b, _, c, e⟩

/-- An append of a list to nothing: a list in memory of its own. -/
theorem copy_any {h : Heap} {v : Value} {bs : List Bool} (r : Reads h v (bs.map .bool)) (hb : bs.length ≤ 16777216) :
    ∃ v1 h1 q1, aappend h 1 1 [.bool false] (.slice none 0 0) v = some (v1, h1) ∧ Own h1 v1 q1 (bs.map .bool) ∧ Grow h h1 ∧ h.dyn.length ≤ q1 ∧ (v1 ≠ nilS → q1 < h1.dyn.length) := by
  obtain ⟨f1, f2⟩ := r.first
  by_cases h0 : bs = []
  · subst h0
    refine ⟨.slice none 0 0, h, h.dyn.length, (Own.nil h 0).app0 (by simp) f1 f2, .inl ⟨rfl, rfl⟩, Chg.refl _, Nat.le_refl _, fun e => absurd rfl e⟩
  · obtain ⟨v', h', q', e, o, c, l, d⟩ := (Own.nil h 0).app (bytes := 1) (z := .bool false) (x := v) (m := bs.map .bool) (by simpa using h0) f1 f2 (one_boolA bs) (by simp; omega) (by simp; omega)
    refine ⟨v', h', q', e, o, c.mono fun b hb e => absurd rfl e.2, ?_, fun _ => l⟩
    rcases d with ⟨_, d⟩ | d
    · exact absurd rfl d
    · omega

theorem rOf {h : Heap} {v : Value} {bs : List Bool} (r : Reads h v (bs.map .bool)) (hn : bs.length ≤ 16777216) :
    Gives P T (.fn F_colonnaderef01_Of) [v] h fun u h' => ∃ hv q, u = rv true hv ∧ Own h' hv q (bs.map .bool) ∧ Grow h h' ∧ h.dyn.length ≤ q ∧ (hv ≠ nilS → q < h'.dyn.length) := by
  refine gives_by t_colonnaderef01_Of (by simp [c_colonnaderef01_Of]) fun Q hQ => ?_
  obtain ⟨b, c, rfl, _⟩ := r.shape
  simp only [List.length_map] at r hQ ⊢
  have h1 : ¬ ((16777216 : Int) < bs.length) := by omega
  have r1 := RowAt.new h [.bool false, .slice none 0 0] 0
  have g1 := Grow.new h [.bool false, .slice none 0 0] 0
  obtain ⟨G, hG⟩ : ∃ G, hnew h [.bool false, .slice none 0 0] 0 = G := ⟨_, rfl⟩
  have hGl : G.dyn.length = h.dyn.length + 1 := by rw [← hG]; simp
  rw [hG] at r1 g1
  obtain ⟨v1, H, q1, e1, o1, g2, hq1, hq2⟩ := copy_any (r.grow g1) hn
  obtain ⟨cb, cn, cc, rfl⟩ := o1.is_slice
  obtain ⟨h3, e3, r3, l3, g3, c3, n3⟩ := row2 rfl (r1.grow g2) (g1.trans g2) (Nat.le_refl _) (x := .bool true) (y := .slice cb cn cc) (by simp) (by simp)
  simp [c_colonnaderef01_Of, h1, hG, e1, e3]
  exact ⟨_, res_cell2 (by decide) (by simp) l3, hQ _ _ ⟨_, q1, rfl, o1.chg c3 (by omega), g3, by omega, fun e => by have := hq2 e; omega⟩⟩

/-- What came in as a set, in a box. -/
theorem rGet {h : Heap} {b : Bool} {hv : Value} {bs : List Bool} (r : Reads h hv (bs.map .bool)) (i : Int) : Gives P T (.fn F_colonnaderef01_Get) [rv b hv, .int .i64 i] h fun v h' => v = .bool (decide (0 ≤ i) && hold bs i.toNat) ∧ Grow h h' := by
  refine gives_by t_colonnaderef01_Get (by simp [c_colonnaderef01_Get]) fun Q hQ => ?_
  obtain ⟨bb, c, rfl, _⟩ := r.shape
  simp only [List.length_map] at r hQ ⊢
  have r1 := RowAt.new h [.bool b, .slice bb bs.length c] 0
  have g1 := Grow.new h [.bool b, .slice bb bs.length c] 0
  have rr := r.grow g1
  obtain ⟨G, hG⟩ : ∃ G, hnew h [.bool b, .slice bb bs.length c] 0 = G := ⟨_, rfl⟩
  rw [hG] at r1 g1 rr
  have l1 := r1.get (i := 1) rfl
  by_cases h0 : 0 ≤ i
  · by_cases h1 : i < bs.length
    · obtain ⟨_, _, e, k⟩ := rr.shape
      simp only [List.length_map, Value.slice.injEq] at e k
      obtain ⟨rfl, -, rfl⟩ := e
      obtain ⟨a, rfl, hl⟩ := k i.toNat (by omega)
      have ld := hl i.toNat _ (hold_get (by omega))
      obtain ⟨j, rfl⟩ : ∃ j : Nat, i = j := ⟨i.toNat, by omega⟩
      have h1' : j < bs.length := by omega
      simp at ld
      simp [c_colonnaderef01_Get, hG, l1, h1', ld]
      exact hQ _ _ ⟨by simp, g1⟩
    · simp [c_colonnaderef01_Get, hG, l1, h0, h1, skipV]
      exact hQ _ _ ⟨by rw [hold_out (by omega)]; simp, g1⟩
  · simp [c_colonnaderef01_Get, hG, l1, h0, skipV]
    exact hQ _ _ ⟨by simp [h0], g1⟩

theorem rClone {h : Heap} {b : Bool} {hv : Value} {bs : List Bool} (r : Reads h hv (bs.map .bool)) (hn : bs.length ≤ 16777216) :
    Gives P T (.fn F_colonnaderef01_Clone) [rv b hv] h fun u h' => ∃ hw q, u = rv b hw ∧ Own h' hw q (bs.map .bool) ∧ Grow h h' ∧ h.dyn.length ≤ q ∧ (hw ≠ nilS → q < h'.dyn.length) := by
  refine gives_by t_colonnaderef01_Clone (by simp [c_colonnaderef01_Clone]) fun Q hQ => ?_
  have r0 := RowAt.new h [.bool b, hv] 0
  have g0 := Grow.new h [.bool b, hv] 0
  obtain ⟨F, hF⟩ : ∃ G, hnew h [.bool b, hv] 0 = G := ⟨_, rfl⟩
  have hFl : F.dyn.length = h.dyn.length + 1 := by rw [← hF]; simp
  rw [hF] at r0 g0
  have r1 := RowAt.new F [.bool false, .slice none 0 0] 0
  have g1 := Grow.new F [.bool false, .slice none 0 0] 0
  obtain ⟨G, hG⟩ : ∃ G, hnew F [.bool false, .slice none 0 0] 0 = G := ⟨_, rfl⟩
  have hGl : G.dyn.length = F.dyn.length + 1 := by rw [← hG]; simp
  rw [hG] at r1 g1
  obtain ⟨v1, H, q1, e1, o1, g2, hq1, hq2⟩ := copy_any ((r.grow g0).grow g1) hn
  obtain ⟨cb, cn, cc, rfl⟩ := o1.is_slice
  obtain ⟨h3, e3, r3, l3, g3, c3, n3⟩ := row2 rfl (r1.grow g2) ((g0.trans g1).trans g2) (by omega) (x := .bool b) (y := .slice cb cn cc) (by simp) (by simp)
  have a0 := (r0.grow g1).get (i := 0) rfl
  have a1 := (r0.grow g1).get (i := 1) rfl
  have a0' := ((r0.grow g1).grow g2).get (i := 0) rfl
  simp [c_colonnaderef01_Clone, hF, hG, a0, a1, a0', e1, e3, pushP_in]
  exact ⟨_, res_cell2 (by decide) (by simp) l3, hQ _ _ ⟨_, q1, rfl, o1.chg c3 (by omega), g3, by omega, fun e => by have := hq2 e; omega⟩⟩

end Go.Ax

namespace Go.Ax
open Go.Proofs
set_option linter.unusedVariables false
set_option linter.unusedSimpArgs false
set_option maxRecDepth 100000

theorem add_or {x : BitVec 64} {m : Nat} (hm : m < 64) (h : x.getLsbD m = false) : x + 1#64 <<< m = x ||| 1#64 <<< m := by
  apply BitVec.add_eq_or_of_and_eq_zero
  apply BitVec.eq_of_getLsbD_eq
  intro j hj
  rw [BitVec.getLsbD_and, one_bit m j hm hj]
  by_cases e : j = m
  · subst e; simp [h]
  · simp [e]

theorem bit_zeros (N j : Nat) : bit (List.replicate N 0) j = false := by
  have : word (List.replicate N 0) (j / 64) = 0#64 := by
    unfold word
    rw [List.getD_eq_getElem?_getD, List.getElem?_replicate]
    split <;> rfl
  unfold bit; rw [this]; simp

theorem wv_getA {ws : List (BitVec 64)} {i : Nat} (h : i < ws.length) : (ws.map wv)[i]? = some (.int .u64 (wi (word ws i))) := by
  rw [List.getElem?_map, List.getElem?_eq_getElem h]
  unfold word
  rw [List.getD_eq_getElem?_getD, List.getElem?_eq_getElem h]; rfl

theorem rWords {h : Heap} {b : Bool} {hv : Value} {bs : List Bool} (r : Reads h hv (bs.map .bool)) (hn : bs.length ≤ 16777216) :
    Gives P T (.fn F_colonnaderef01_Words) [rv b hv] h fun v h' => ∃ ws, Reads h' v (ws.map wv) ∧ Canon bs.length ws ∧ (∀ j, bit ws j = hold bs j) ∧ Grow h h' := by
  refine gives_by t_colonnaderef01_Words (by simp [c_colonnaderef01_Words]) fun Q hQ => ?_
  obtain ⟨bb, c, rfl, _⟩ := r.shape
  obtain ⟨n, hN⟩ : ∃ n, bs.length = n := ⟨_, rfl⟩
  rw [List.length_map, hN] at r ⊢
  rw [hN] at hn hQ
  have r0 := RowAt.new h [.bool b, .slice bb n c] 0
  have g0 := Grow.new h [.bool b, .slice bb n c] 0
  obtain ⟨F, hF⟩ : ∃ G, hnew h [.bool b, .slice bb n c] 0 = G := ⟨_, rfl⟩
  have hFl : F.dyn.length = h.dyn.length + 1 := by rw [← hF]; simp
  rw [hF] at r0 g0
  have rF := r.grow g0
  obtain ⟨N, hL⟩ : ∃ N, (n + 63) / 64 = N := ⟨_, rfl⟩
  have e0 : IntKind.i64.wrap ((n : Int) + 63) = ((n + 63 : Nat) : Int) := by rw [wrap_i64 (by omega) (by omega)]; omega
  have e1 := tdiv_nat (n + 63) 64
  rw [hL] at e1
  simp only [Int.cast_ofNat_Int] at e1
  have e1' : ((n : Int) + 63).tdiv 64 = (N : Int) := by rw [← e1]; congr 1
  have e2 : IntKind.i64.wrap (N : Int) = N := wrap_i64 (by omega) (by omega)
  have l1 := r0.get (i := 1) rfl
  simp [c_colonnaderef01_Words, hF, l1, e0, e1, e1', e2]
  rw [mkS_nat (by omega) (by omega)]
  have r1 := RowAt.new F (List.replicate N (Value.int .u64 0)) 1
  have g1 := Grow.new F (List.replicate N (Value.int .u64 0)) 1
  obtain ⟨G, hG⟩ : ∃ G, hnew F (List.replicate N (Value.int .u64 0)) 1 = G := ⟨_, rfl⟩
  rw [hG] at r1 g1
  have hz : (List.replicate N (0 : BitVec 64)).map wv = List.replicate N (Value.int .u64 0) := by simp [wv]
  rw [← hz] at r1
  simp [hG]
  refine go_loopK (fun k ks h2 => ∃ (i : Nat) (W : List (BitVec 64)), k = n - i ∧ i ≤ n ∧ ks = [(1, .pointer (some ⟨h.dyn.length, 0, some 0⟩)), (3, .slice (some ⟨F.dyn.length, 0, some 0⟩) N N), (4, .int .i64 i)] ∧
      W.length = N ∧ (∀ j, bit W j = (hold bs j && decide (j < i))) ∧ RowAt h2 F.dyn.length 0 1 (W.map wv) ∧ Grow F h2) (n := n)
    ⟨0, _, rfl, by omega, rfl, by simp, fun j => by rw [bit_zeros]; simp, r1, g1⟩ (by simp) ?_
  rintro I hI k ks e h2 ⟨i, W, rfl, hi, rfl, hW, hb, r2, g2⟩
  have l2 := (r0.grow g2).get (i := 1) rfl
  simp [l2]
  refine branch_dec (fun hlt => ?_) (fun hge => ?_)
  · obtain ⟨_, _, ev, k⟩ := (rF.grow g2).shape
    simp only [List.length_map, hN, Value.slice.injEq] at ev k
    obtain ⟨rfl, -, rfl⟩ := ev
    obtain ⟨a, rfl, hla⟩ := k i hlt
    have ld := hla i _ (hold_get (by omega))
    have hw1 : IntKind.i64.wrap ((i : Int) + 1) = ((i + 1 : Nat) : Int) := by rw [wrap_i64 (by omega) (by omega)]; omega
    obtain ⟨bv, hbv⟩ : ∃ bv, hold bs i = bv := ⟨_, rfl⟩
    rw [hbv] at ld
    cases bv with
    | false =>
      simp [hlt, l2, ld, hw1]
      exact ⟨n - (i + 1), by omega, hI _ _ _ _ ⟨i + 1, W, rfl, by omega, rfl, hW, fun j => by
        rw [hb]
        by_cases hj : j = i
        · subst hj; rw [hbv]; rfl
        · rw [dec_succ hj], r2, g2⟩ (by simp)⟩
    | true =>
      have i3 : i / 64 < W.length := by omega
      have hbp := @bit_put W i true i3
      have hm64 : i % 64 < 64 := by omega
      have hlow : (word W (i / 64)).getLsbD (i % 64) = false := by
        have : bit W i = false := by rw [hb]; simp
        exact this
      have hadd := add_or hm64 hlow
      obtain ⟨m, hm⟩ : ∃ m, i % 64 = m := ⟨_, rfl⟩
      obtain ⟨d, hd⟩ : ∃ d, i / 64 = d := ⟨_, rfl⟩
      have f1 := tmod_nat i 64
      have f2 := tdiv_nat i 64
      rw [hm] at f1 hbp hadd hm64
      rw [hd] at f2 i3 hbp hadd
      simp only [Int.cast_ofNat_Int] at f1 f2
      have f3 : IntKind.i64.wrap (d : Int) = d := wrap_i64 (by omega) (by omega)
      have f4 : IntKind.u64.wrap (m : Int) = m := wrap_u64 (by omega) (by omega)
      have i4 : d < N := by omega
      obtain ⟨h3, e3, r3, c3, n3⟩ := r2.store (i := d) (by simpa using i3) (x := .int .u64 (wi (word W d ||| 1#64 <<< m))) (by simp)
      have es : (W.map wv).set d (.int .u64 (wi (word W d ||| 1#64 <<< m))) = (W.set d (word W d ||| 1#64 <<< m)).map wv := by rw [List.map_set]; rfl
      rw [es] at r3
      have ldw := r2.get (wv_getA i3)
      simp [hlt, l2, ld, hw1, f1, f2, f3, f4, i4, ldw, hadd, e3]
      exact ⟨n - (i + 1), by omega, hI _ _ _ _ ⟨i + 1, _, rfl, by omega, rfl, by simpa using hW, fun j => by
        have := hbp j
        simp only [if_true] at this
        rw [this, hb]
        by_cases hj : j = i
        · subst hj; rw [if_pos rfl, hbv]; simp
        · rw [if_neg hj, dec_succ hj], r3, g2.after c3 fun b hb e => by omega⟩ (by simp)⟩
  · have hin : i = n := by omega
    subst hin
    simp
    have hb' : ∀ j, bit W j = hold bs j := fun j => by
      rw [hb]
      by_cases hj : j < i
      · simp [hj]
      · rw [hold_out (by omega)]; rfl
    refine hQ _ _ ⟨W, .inr ⟨_, _, by simp [hW]; exact ⟨rfl, rfl⟩, fun j x hx => ?_⟩, ⟨by omega, hn, fun j hj => by rw [hb', hold_out (by omega)]⟩, hb', g0.trans g2⟩
    have := r2.get hx
    simpa using this

end Go.Ax

namespace Go.Ax
open Go.Proofs
set_option linter.unusedVariables false
set_option linter.unusedSimpArgs false
set_option maxRecDepth 100000

theorem rAll {h : Heap} {b : Bool} {hv : Value} {bs : List Bool} (r : Reads h hv (bs.map .bool)) (hn : bs.length ≤ 16777216) :
    Gives P T (.fn F_colonnaderef01_All) [rv b hv] h fun v h' => ∃ q, Own h' v q (iL (filt (hold bs) bs.length)) ∧ Grow h h' := by
  refine gives_by t_colonnaderef01_All (by simp [c_colonnaderef01_All]) fun Q hQ => ?_
  obtain ⟨bb, c, rfl, _⟩ := r.shape
  obtain ⟨n, hN⟩ : ∃ n, bs.length = n := ⟨_, rfl⟩
  rw [List.length_map, hN] at r ⊢
  rw [hN] at hn hQ
  have r0 := RowAt.new h [.bool b, .slice bb n c] 0
  have g0 := Grow.new h [.bool b, .slice bb n c] 0
  obtain ⟨F, hF⟩ : ∃ G, hnew h [.bool b, .slice bb n c] 0 = G := ⟨_, rfl⟩
  have hFl : F.dyn.length = h.dyn.length + 1 := by rw [← hF]; simp
  rw [hF] at r0 g0
  have rF := r.grow g0
  simp [c_colonnaderef01_All, hF]
  refine go_loopK (fun k ks h2 => ∃ (i : Nat) (u : Value) (q : Nat), k = n - i ∧ i ≤ n ∧ ks = [(1, .pointer (some ⟨h.dyn.length, 0, some 0⟩)), (3, u), (4, .int .i64 i)] ∧
      Own h2 u q (iL (filt (hold bs) i)) ∧ (u ≠ nilS → F.dyn.length ≤ q) ∧ Grow F h2) (n := n)
    ⟨0, nilS, 0, rfl, by omega, rfl, .inl ⟨rfl, rfl⟩, fun e => absurd rfl e, Chg.refl _⟩ (by simp [nilS]) ?_
  rintro I hI k ks e h2 ⟨i, u, q, rfl, hi, rfl, o2, hq, g2⟩
  have l2 := (r0.grow g2).get (i := 1) rfl
  simp [l2]
  refine branch_dec (fun hlt => ?_) (fun hge => ?_)
  · obtain ⟨_, _, ev, k⟩ := (rF.grow g2).shape
    simp only [List.length_map, hN, Value.slice.injEq] at ev k
    obtain ⟨rfl, -, rfl⟩ := ev
    obtain ⟨a, rfl, hla⟩ := k i hlt
    have ld := hla i _ (hold_get (by omega))
    have hw1 : IntKind.i64.wrap ((i : Int) + 1) = ((i + 1 : Nat) : Int) := by rw [wrap_i64 (by omega) (by omega)]; omega
    obtain ⟨bv, hbv⟩ : ∃ bv, hold bs i = bv := ⟨_, rfl⟩
    rw [hbv] at ld
    cases bv with
    | false =>
      simp [hlt, l2, ld, hw1]
      exact ⟨n - (i + 1), by omega, hI _ _ _ _ ⟨i + 1, u, q, rfl, by omega, rfl, by rw [filt_step, hbv]; exact o2, hq, g2⟩ (by simp)⟩
    | true =>
      have hlen : (filt (hold bs) i).length ≤ i := by rw [filt_len]; exact cnt_le _ _
      obtain ⟨u', h3, q', e3, o3, c3, l3, d3⟩ := o2.push (bytes := 8) (z := .int .i64 0) (x := .int .i64 (i : Nat)) (by simp) (by rw [iL_len]; omega) (by rw [iL_len]; omega)
      have c3l := c3.len
      have g2l := g2.len
      simp [hlt, l2, ld, hw1, e3]
      refine ⟨n - (i + 1), by omega, hI _ _ _ _ ⟨i + 1, u', q', rfl, by omega, rfl, by rw [filt_step, hbv, if_pos rfl, iL_app]; exact o3, fun _ => ?_, ?_⟩ (by simp)⟩
      · rcases d3 with ⟨e1, e2⟩ | e1
        · have := hq e2; omega
        · omega
      · exact g2.after c3 fun b hb e => by have := hq e.2; have := e.1; omega
  · have hin : i = n := by omega
    subst hin
    simp
    exact hQ _ _ ⟨q, o2, g0.trans g2⟩

theorem rRank {h : Heap} {b : Bool} {hv : Value} {bs : List Bool} (r : Reads h hv (bs.map .bool)) (hn : bs.length ≤ 16777216) (x : Int) :
    Gives P T (.fn F_colonnaderef01_Rank) [rv b hv, .int .i64 x] h fun v h' => v = .int .i64 (cnt (hold bs) (min (max x 0) bs.length).toNat) ∧ Grow h h' := by
  refine gives_by t_colonnaderef01_Rank (by simp [c_colonnaderef01_Rank]) fun Q hQ => ?_
  obtain ⟨bb, c, rfl, _⟩ := r.shape
  obtain ⟨n, hN⟩ : ∃ n, bs.length = n := ⟨_, rfl⟩
  rw [List.length_map, hN] at r ⊢
  rw [hN] at hn hQ
  have r0 := RowAt.new h [.bool b, .slice bb n c] 0
  have g0 := Grow.new h [.bool b, .slice bb n c] 0
  obtain ⟨F, hF⟩ : ∃ G, hnew h [.bool b, .slice bb n c] 0 = G := ⟨_, rfl⟩
  rw [hF] at r0 g0
  have rF := r.grow g0
  have l2 := r0.get (i := 1) rfl
  simp [c_colonnaderef01_Rank, hF]
  refine go_loopK (fun k ks h2 => ∃ (i m : Nat), k = n - i ∧ i ≤ n ∧ ks = [(1, .int .i64 x), (2, .pointer (some ⟨h.dyn.length, 0, some 0⟩)), (5, .int .i64 m), (6, .int .i64 i)] ∧
      m = cnt (hold bs) (min (max x 0) i).toNat ∧ h2 = F) (n := n)
    ⟨0, 0, rfl, by omega, rfl, by rw [show (min (max x 0) ((0 : Nat) : Int)).toNat = 0 by omega]; rfl, rfl⟩ (by simp) ?_
  rintro I hI k ks e h2 ⟨i, m, rfl, hi, rfl, hm, rfl⟩
  simp [l2]
  refine branch_dec (fun hlt => ?_) (fun hge => ?_)
  · obtain ⟨_, _, ev, k⟩ := rF.shape
    simp only [List.length_map, hN, Value.slice.injEq] at ev k
    obtain ⟨rfl, -, rfl⟩ := ev
    obtain ⟨a, rfl, hla⟩ := k i hlt
    have ld := hla i _ (hold_get (by omega))
    have hw1 : IntKind.i64.wrap ((i : Int) + 1) = ((i + 1 : Nat) : Int) := by rw [wrap_i64 (by omega) (by omega)]; omega
    have hml : m ≤ i := by rw [hm]; have := cnt_le (hold bs) (min (max x 0) (i : Int)).toNat; omega
    have hw2 : IntKind.i64.wrap ((m : Int) + 1) = ((m + 1 : Nat) : Int) := by rw [wrap_i64 (by omega) (by omega)]; omega
    by_cases hx : (i : Int) < x
    · have hi1 : (min (max x 0) ((i + 1 : Nat) : Int)).toNat = i + 1 := by omega
      have hi0 : (min (max x 0) (i : Int)).toNat = i := by omega
      rw [hi0] at hm
      obtain ⟨bv, hbv⟩ : ∃ bv, hold bs i = bv := ⟨_, rfl⟩
      rw [hbv] at ld
      cases bv with
      | false =>
        simp [hlt, l2, ld, hw1, skipV]
        exact ⟨n - (i + 1), by omega, hI _ _ _ _ ⟨i + 1, m, rfl, by omega, rfl, by rw [hi1, cnt_step, hbv, hm]; rfl, rfl⟩ (by simp)⟩
      | true =>
        simp [hlt, l2, ld, hw1, hw2, hx]
        exact ⟨n - (i + 1), by omega, hI _ _ _ _ ⟨i + 1, m + 1, rfl, by omega, rfl, by rw [hi1, cnt_step, hbv, hm]; rfl, rfl⟩ (by simp)⟩
    · have hi1 : (min (max x 0) ((i + 1 : Nat) : Int)).toNat = (min (max x 0) (i : Int)).toNat := by omega
      cases hbv : hold bs i with
      | false =>
        rw [hbv] at ld
        simp [hlt, l2, ld, hw1, skipV]
        exact ⟨n - (i + 1), by omega, hI _ _ _ _ ⟨i + 1, m, rfl, by omega, rfl, by rw [hi1, hm], rfl⟩ (by simp)⟩
      | true =>
        rw [hbv] at ld
        simp [hlt, l2, ld, hw1, hx]
        exact ⟨n - (i + 1), by omega, hI _ _ _ _ ⟨i + 1, m, rfl, by omega, rfl, by rw [hi1, hm], rfl⟩ (by simp)⟩
  · have hin : i = n := by omega
    subst hin
    simp
    exact hQ _ _ ⟨by rw [hm], g0⟩

theorem rSelect {h : Heap} {b : Bool} {hv : Value} {bs : List Bool} (r : Reads h hv (bs.map .bool)) (hn : bs.length ≤ 16777216) (k : Int) :
    Gives P T (.fn F_colonnaderef01_Select) [rv b hv, .int .i64 k] h fun v h' => (if 0 ≤ k ∧ k < (filt (hold bs) bs.length).length then v = .tuple #[.int .i64 ((filt (hold bs) bs.length).getD k.toNat 0 : Nat), .bool true] else v = .tuple #[.int .i64 0, .bool false]) ∧ Grow h h' := by
  refine gives_by t_colonnaderef01_Select (by simp [c_colonnaderef01_Select]) fun Q hQ => ?_
  have r0 := RowAt.new h [.bool b, hv] 0
  have g0 := Grow.new h [.bool b, hv] 0
  obtain ⟨F, hF⟩ : ∃ G, hnew h [.bool b, hv] 0 = G := ⟨_, rfl⟩
  rw [hF] at r0 g0
  have l0 := loadN_row_all r0 (n := 2) rfl
  simp [c_colonnaderef01_Select, hF, l0]
  refine got_call (rAll (r.grow g0) hn) ?_
  rintro v h2 ⟨q, o, g2⟩
  obtain ⟨bb, c, rfl, _⟩ := o.reads.shape
  obtain ⟨L, hL⟩ : ∃ L, filt (hold bs) bs.length = L := ⟨_, rfl⟩
  rw [hL] at o hQ ⊢
  obtain ⟨m, hm⟩ : ∃ m, L.length = m := ⟨_, rfl⟩
  have hml : m ≤ 16777216 := by rw [← hm, ← hL, filt_len]; have := cnt_le (hold bs) bs.length; omega
  simp only [iL_len, hm] at o hQ ⊢
  by_cases h0 : k < 0
  · simp [h0, skipV]
    exact hQ _ _ ⟨by rw [if_neg (by omega)], g0.trans g2⟩
  · by_cases h1 : (m : Int) ≤ k
    · simp [h0, h1]
      exact hQ _ _ ⟨by rw [if_neg (by omega)], g0.trans g2⟩
    · obtain ⟨j, rfl⟩ : ∃ j : Nat, k = j := ⟨k.toNat, by omega⟩
      have hj : j < m := by omega
      obtain ⟨_, _, ev, kk⟩ := o.reads.shape
      simp only [iL_len, hm, Value.slice.injEq] at ev kk
      obtain ⟨rfl, -, rfl⟩ := ev
      obtain ⟨a, rfl, hla⟩ := kk j hj
      have ld := hla j _ (iL_get (by omega))
      have hj0 : ¬ (j : Int) < 0 := by omega
      have h1' : ¬ m ≤ j := by omega
      simp [hj0, h1', hj, ld]
      exact hQ _ _ ⟨by rw [if_pos (by omega)]; simp, g0.trans g2⟩

theorem rClamp {h : Heap} {i n : Int} (hn : 0 ≤ n) : Gives P T (.fn F_colonnaderef01_clamp) [.int .i64 i, .int .i64 n] h fun v h' => v = .int .i64 (min (max i 0) n) ∧ h' = h := by
  refine gives_by t_colonnaderef01_clamp (by simp [c_colonnaderef01_clamp]) fun Q hQ => ?_
  by_cases h0 : i < 0
  · simp [c_colonnaderef01_clamp, h0]
    exact hQ _ _ ⟨by congr 1; omega, rfl⟩
  · by_cases h1 : n < i
    · simp [c_colonnaderef01_clamp, h0, h1]
      exact hQ _ _ ⟨by congr 1; omega, rfl⟩
    · simp [c_colonnaderef01_clamp, h0, h1]
      exact hQ _ _ ⟨by congr 1; omega, rfl⟩

/-- A list of the program's own, cut: it reads as the piece. -/
theorem Own.cut {h : Heap} {v : Value} {q : Nat} {l : List Value} (o : Own h v q l) {f t : Nat} (hf : f ≤ t) (ht : t ≤ l.length) :
    ∃ u, aslice h 1 v (some (.int .i64 f)) (some (.int .i64 t)) none = some u ∧ Reads h u ((l.drop f).take (t - f)) := by
  have hlen : ((l.drop f).take (t - f)).length = t - f := by simp; omega
  have piece : ∀ {w : Nat} {rest : List Value} (r : RowAt h q w 1 (l ++ rest)) i x, ((l.drop f).take (t - f))[i]? = some x → hload h (aadd ⟨q, f, some w⟩ i) = some x := fun {w rest} r i x hx => by
    rw [List.getElem?_take] at hx
    split at hx
    · rw [List.getElem?_drop] at hx
      have := r.get (i := f + i) (x := x) (by rw [List.getElem?_append_left (by omega)]; exact hx)
      simpa using this
    · cases hx
  rcases o with ⟨rfl, rfl⟩ | ⟨w, rfl, r⟩ | ⟨w, rest, rfl, hc, r⟩
  · have : t = 0 := by simpa using ht
    subst this
    have : f = 0 := by omega
    subst this
    exact ⟨_, rfl, .inl ⟨rfl, rfl⟩⟩
  · have r' : RowAt h q w 1 (l ++ []) := by simpa using r
    have hb : optBound (some (.int .i64 (t : Nat))) (max l.length (topOf h 1 ⟨q, 0, some w⟩ l.length)) l.length = some t := by
      simp only [optBound, asliceBound]
      rw [if_pos (by omega)]; simp
    have hb2 : optBound (some (.int .i64 (f : Nat))) t 0 = some f := by
      simp only [optBound, asliceBound]
      rw [if_pos (by omega)]; simp
    have e0 : aslice h 1 (.slice (some ⟨q, 0, some w⟩) l.length gcap) (some (.int .i64 f)) (some (.int .i64 t)) none = if f = 0 then some (.slice (some ⟨q, 0, some w⟩) t gcap) else if f < t then (if esOk h 1 ⟨q, 0, some w⟩ then some (.slice (some (aadd ⟨q, 0, some w⟩ (f * 1))) (t - f) gcap) else none) else some (.slice (some ⟨0, 0, none⟩) 0 (gcap + 1)) := by
      simp only [aslice]
      rw [if_neg (by omega)]
      simp [hb, hb2]
    rw [e0]
    by_cases h0 : f = 0
    · rw [if_pos h0]
      exact ⟨_, rfl, .inr ⟨_, _, by rw [hlen, h0, Nat.sub_zero], fun i x hx => by have := piece r' i x hx; simpa [h0] using this⟩⟩
    · rw [if_neg h0]
      by_cases h1 : f < t
      · rw [if_pos h1, if_pos (r.esOk 0)]
        exact ⟨_, rfl, .inr ⟨_, _, by rw [hlen], fun i x hx => by have := piece r' i x hx; simpa using this⟩⟩
      · rw [if_neg h1]
        exact ⟨_, rfl, .inr ⟨⟨0, 0, none⟩, gcap + 1, by rw [hlen, show t - f = 0 by omega], fun i x hx => by
          have : i < ((l.drop f).take (t - f)).length := (List.getElem?_eq_some_iff.1 hx).1
          omega⟩⟩
  · have hcap : l.length + rest.length < gcap := hc
    have hb : optBound (some (.int .i64 (t : Nat))) (l.length + rest.length) l.length = some t := by
      simp only [optBound, asliceBound]
      rw [if_pos (by omega)]; simp
    have hb2 : optBound (some (.int .i64 (f : Nat))) t 0 = some f := by
      simp only [optBound, asliceBound]
      rw [if_pos (by omega)]; simp
    have e0 : aslice h 1 (.slice (some ⟨q, 0, some w⟩) l.length (l.length + rest.length)) (some (.int .i64 f)) (some (.int .i64 t)) none = some (.slice (if l.length + rest.length = f then some ⟨q, 0, some w⟩ else some (aadd ⟨q, 0, some w⟩ (f * 1))) (t - f) (l.length + rest.length - f)) := by
      simp only [aslice]
      rw [if_pos hcap]
      have hb0 : optBound none (l.length + rest.length) (l.length + rest.length) = some (l.length + rest.length) := rfl
      simp only [cutK, hb0, hb, hb2]
      simp
    rw [e0]
    refine ⟨_, rfl, .inr ?_⟩
    by_cases h1 : l.length + rest.length = f
    · rw [if_pos h1]
      exact ⟨_, _, by rw [hlen], fun i x hx => by
        have : i < ((l.drop f).take (t - f)).length := (List.getElem?_eq_some_iff.1 hx).1
        omega⟩
    · rw [if_neg h1]
      exact ⟨_, _, by rw [hlen], fun i x hx => by have := piece r i x hx; simpa using this⟩

theorem vsame_self {v : Value} (hg : ∃ b n c, v = .slice b n c) : vsame v (some v) = true := by
  obtain ⟨b, n, c, rfl⟩ := hg; exact veqN_self_slice

theorem rSlice {h : Heap} {b : Bool} {hv : Value} {q0 : Nat} {bs : List Bool} (o : Own h hv q0 (bs.map .bool)) (hn : bs.length ≤ 16777216) (from_ to_ : Int) {f t : Nat} (hf : min (max from_ 0) (bs.length : Int) = f) (ht : max (min (max to_ 0) (bs.length : Int)) f = t) :
    Gives P T (.fn F_colonnaderef01_Slice) [rv b hv, .int .i64 from_, .int .i64 to_] h fun u h' => ∃ hw q, u = rv b hw ∧ Own h' hw q (((bs.drop f).take (t - f)).map .bool) ∧ Grow h h' ∧ h.dyn.length ≤ q ∧ (hw ≠ nilS → q < h'.dyn.length) := by
  refine gives_by t_colonnaderef01_Slice (by simp [c_colonnaderef01_Slice]) fun Q hQ => ?_
  obtain ⟨bb, c, rfl, _⟩ := o.reads.shape
  obtain ⟨n, hN⟩ : ∃ n, bs.length = n := ⟨_, rfl⟩
  rw [List.length_map, hN] at o ⊢
  rw [hN] at hn hf ht
  have hft : f ≤ t := by omega
  have htn : t ≤ n := by omega
  have r0 := RowAt.new h [.bool b, .slice bb n c] 0
  have g0 := Grow.new h [.bool b, .slice bb n c] 0
  obtain ⟨F, hF⟩ : ∃ G, hnew h [.bool b, .slice bb n c] 0 = G := ⟨_, rfl⟩
  have hFl : F.dyn.length = h.dyn.length + 1 := by rw [← hF]; simp
  rw [hF] at r0 g0
  have r1 := RowAt.new F [.bool false, .slice none 0 0] 0
  have g1 := Grow.new F [.bool false, .slice none 0 0] 0
  obtain ⟨G, hG⟩ : ∃ G, hnew F [.bool false, .slice none 0 0] 0 = G := ⟨_, rfl⟩
  have hGl : G.dyn.length = F.dyn.length + 1 := by rw [← hG]; simp
  rw [hG] at r1 g1
  have oG := (o.grow g0).grow g1
  have a0 := (r0.grow g1).get (i := 0) rfl
  have a1 := (r0.grow g1).get (i := 1) rfl
  obtain ⟨u, eu, ru⟩ := oG.cut hft (by simp [hN]; omega)
  have e5 : ((bs.map Value.bool).drop f).take (t - f) = ((bs.drop f).take (t - f)).map Value.bool := by rw [List.map_take, List.map_drop]
  rw [e5] at ru
  obtain ⟨v1, H, q1, e1, o1, g2, hq1, hq2⟩ := copy_any ru (by simp; omega)
  obtain ⟨cb, cn, cc, rfl⟩ := o1.is_slice
  obtain ⟨h3, e3, r3, l3, g3, c3, n3⟩ := row2 rfl (r1.grow g2) ((g0.trans g1).trans g2) (by omega) (x := .bool b) (y := .slice cb cn cc) (by simp) (by simp)
  have a0' := ((r0.grow g1).grow g2).get (i := 0) rfl
  simp [c_colonnaderef01_Slice, hF, hG, a0, a1]
  refine got_call (rClamp (by omega)) ?_
  rintro _ _ ⟨rfl, rfl⟩
  rw [hf]
  simp [a0, a1]
  refine got_call (rClamp (by omega)) ?_
  rintro _ _ ⟨rfl, rfl⟩
  obtain ⟨t0, ht0⟩ : ∃ t0 : Nat, min (max to_ 0) (n : Int) = t0 := ⟨(min (max to_ 0) (n : Int)).toNat, by omega⟩
  rw [ht0] at ht ⊢
  by_cases hlt : t0 < f
  · obtain rfl : t = f := by omega
    simp [hlt, a0, a1, eu, e1, a0', e3, pushP_in]
    exact ⟨_, res_cell2 (by decide) (by simp) l3, hQ _ _ ⟨_, q1, rfl, o1.chg c3 (by omega), g3, by omega, fun e => by have := hq2 e; omega⟩⟩
  · obtain rfl : t = t0 := by omega
    simp [hlt, a0, a1, eu, e1, a0', e3, pushP_in]
    exact ⟨_, res_cell2 (by decide) (by simp) l3, hQ _ _ ⟨_, q1, rfl, o1.chg c3 (by omega), g3, by omega, fun e => by have := hq2 e; omega⟩⟩

end Go.Ax

namespace Go.Ax
open Go.Proofs
set_option linter.unusedVariables false
set_option linter.unusedSimpArgs false
set_option maxRecDepth 100000

theorem hold_set {bs : List Bool} {i : Nat} {x : Bool} (h : i < bs.length) (j : Nat) : hold (bs.set i x) j = if j = i then x else hold bs j := by
  unfold hold
  rw [List.getD_eq_getElem?_getD, List.getD_eq_getElem?_getD]
  by_cases e : j = i
  · subst e; rw [if_pos rfl, List.getElem?_set_self h]; rfl
  · rw [if_neg e, List.getElem?_set_ne (fun x => e x.symm)]

theorem set_map {bs : List Bool} {i : Nat} {x : Bool} : (bs.map Value.bool).set i (.bool x) = (bs.set i x).map .bool := by rw [List.map_set]

theorem rPut_gone {h : Heap} {hv : Value} (hg : goodC hv = true) {i : Int} {x : Bool} : Gives P T (.fn F_colonnaderef01_Put) [rv false hv, .int .i64 i, .bool x] h fun v h' => v = .tuple #[rv false hv, .int .i64 1] ∧ Grow h h' := by
  refine gives_by t_colonnaderef01_Put (by simp [c_colonnaderef01_Put]) fun Q hQ => ?_
  have r0 := RowAt.new h [.bool false, hv] 0
  have g0 := Grow.new h [.bool false, hv] 0
  obtain ⟨F, hF⟩ : ∃ G, hnew h [.bool false, hv] 0 = G := ⟨_, rfl⟩
  have hFl : F.dyn.length = h.dyn.length + 1 := by rw [← hF]; simp
  rw [hF] at r0 g0
  have r1 := RowAt.new F [.bool false, .slice none 0 0] 0
  have g1 := Grow.new F [.bool false, .slice none 0 0] 0
  obtain ⟨G, hG⟩ : ∃ G, hnew F [.bool false, .slice none 0 0] 0 = G := ⟨_, rfl⟩
  rw [hG] at r1 g1
  have a0 := (r0.grow g1).get (i := 0) rfl
  have l0 := loadN_row_all (r0.grow g1) (n := 2) rfl
  obtain ⟨h3, e3, r3, l3, g3, c3, n3⟩ := row2 rfl r1 (g0.trans g1) (by omega) (x := .bool false) (y := hv) (by simp) hg
  simp [c_colonnaderef01_Put, hF, hG, a0, l0, e3]
  exact ⟨_, res_cell3 (by decide) (by simp) l3 (by decide), hQ _ _ ⟨by simp [oneOf], g3⟩⟩

theorem rPut_out {h : Heap} {hv : Value} {bs : List Bool} (r : Reads h hv (bs.map .bool)) {i : Int} (hi : i < 0 ∨ (bs.length : Int) ≤ i) {x : Bool} : Gives P T (.fn F_colonnaderef01_Put) [rv true hv, .int .i64 i, .bool x] h fun v h' => v = .tuple #[rv true hv, .int .i64 2] ∧ Grow h h' := by
  refine gives_by t_colonnaderef01_Put (by simp [c_colonnaderef01_Put]) fun Q hQ => ?_
  obtain ⟨bb, c, rfl, _⟩ := r.shape
  simp only [List.length_map] at r hQ ⊢
  have r0 := RowAt.new h [.bool true, .slice bb bs.length c] 0
  have g0 := Grow.new h [.bool true, .slice bb bs.length c] 0
  obtain ⟨F, hF⟩ : ∃ G, hnew h [.bool true, .slice bb bs.length c] 0 = G := ⟨_, rfl⟩
  have hFl : F.dyn.length = h.dyn.length + 1 := by rw [← hF]; simp
  rw [hF] at r0 g0
  have r1 := RowAt.new F [.bool false, .slice none 0 0] 0
  have g1 := Grow.new F [.bool false, .slice none 0 0] 0
  obtain ⟨G, hG⟩ : ∃ G, hnew F [.bool false, .slice none 0 0] 0 = G := ⟨_, rfl⟩
  rw [hG] at r1 g1
  have a0 := (r0.grow g1).get (i := 0) rfl
  have a1 := (r0.grow g1).get (i := 1) rfl
  have l0 := loadN_row_all (r0.grow g1) (n := 2) rfl
  obtain ⟨h3, e3, r3, l3, g3, c3, n3⟩ := row2 rfl r1 (g0.trans g1) (by omega) (x := .bool true) (y := .slice bb bs.length c) (by simp) (by simp)
  by_cases h0 : i < 0
  · simp [c_colonnaderef01_Put, hF, hG, a0, a1, l0, e3, h0, skipV]
    exact ⟨_, res_cell3 (by decide) (by simp) l3 (by decide), hQ _ _ ⟨by simp [oneOf], g3⟩⟩
  · have h1 : (bs.length : Int) ≤ i := by omega
    simp [c_colonnaderef01_Put, hF, hG, a0, a1, l0, e3, h0, h1]
    exact ⟨_, res_cell3 (by decide) (by simp) l3 (by decide), hQ _ _ ⟨by simp [oneOf], g3⟩⟩

theorem rPut_in {h : Heap} {hv : Value} {bs : List Bool} (r : Reads h hv (bs.map .bool)) (hn : bs.length ≤ 16777216) {i : Nat} (hi : i < bs.length) {x : Bool} :
    Gives P T (.fn F_colonnaderef01_Put) [rv true hv, .int .i64 i, .bool x] h fun v h' => ∃ hw q, v = .tuple #[rv true hw, .int .i64 0] ∧ Own h' hw q ((bs.set i x).map .bool) ∧ Grow h h' ∧ h.dyn.length ≤ q ∧ (hw ≠ nilS → q < h'.dyn.length) := by
  refine gives_by t_colonnaderef01_Put (by simp [c_colonnaderef01_Put]) fun Q hQ => ?_
  obtain ⟨bb, c, rfl, _⟩ := r.shape
  simp only [List.length_map] at r hQ ⊢
  have r0 := RowAt.new h [.bool true, .slice bb bs.length c] 0
  have g0 := Grow.new h [.bool true, .slice bb bs.length c] 0
  obtain ⟨F, hF⟩ : ∃ G, hnew h [.bool true, .slice bb bs.length c] 0 = G := ⟨_, rfl⟩
  have hFl : F.dyn.length = h.dyn.length + 1 := by rw [← hF]; simp
  rw [hF] at r0 g0
  have r1 := RowAt.new F [.bool false, .slice none 0 0] 0
  have g1 := Grow.new F [.bool false, .slice none 0 0] 0
  obtain ⟨G, hG⟩ : ∃ G, hnew F [.bool false, .slice none 0 0] 0 = G := ⟨_, rfl⟩
  have hGl : G.dyn.length = F.dyn.length + 1 := by rw [← hG]; simp
  rw [hG] at r1 g1
  have a0 := (r0.grow g1).get (i := 0) rfl
  have a1 := (r0.grow g1).get (i := 1) rfl
  have l0 := loadN_row_all (r0.grow g1) (n := 2) rfl
  have h0 : ¬ (i : Int) < 0 := by omega
  have h1 : ¬ (bs.length : Int) ≤ i := by omega
  have h1' : ¬ bs.length ≤ i := by omega
  simp [c_colonnaderef01_Put, hF, hG, a0, a1, l0, h0, h1, h1']
  refine got_call (rClone (b := true) ((r.grow g0).grow g1) hn) ?_
  rintro _ H ⟨hw, q, rfl, o, gH, hq, hq2⟩
  obtain ⟨J, eJ, rJ, lJ, gJ, cJ, nJ⟩ := row2 rfl (RowAt.new H [.bool false, .slice none 0 0] 0) (Grow.new H [.bool false, .slice none 0 0] 0) (Nat.le_refl _) (x := .bool true) (y := hw) (by simp) o.good
  have oJ := o.grow gJ
  obtain ⟨u, cc, K, ehw, eK, oK, cK, nK⟩ := oJ.set (i := i) (by simpa using hi) (x := .bool x) (by simp)
  rw [set_map] at oK
  have hne : hw ≠ nilS := by rw [ehw]; simp [nilS]
  have hql := hq2 hne
  have lK := loadN_row_all (rJ.chg cK (by omega)) (n := 2) rfl
  have gK : Grow G K := (gH.trans gJ).after cK fun b hb e => by omega
  obtain ⟨h3, e3, r3, l3, g3, c3, n3⟩ := row2 rfl (r1.grow gK) ((g0.trans g1).trans gK) (by omega) (x := .bool true) (y := hw) (by simp) o.good
  have b1 := rJ.get (i := 1) rfl
  have hJl : J.dyn.length = H.dyn.length + 1 := by rw [nJ]; simp
  rw [List.length_map] at ehw
  subst ehw
  simp [eJ, b1, hi, eK, lK, e3]
  exact ⟨_, res_cell3 (by decide) (by simp) l3 (by decide), hQ _ _ ⟨_, q, by simp [oneOf], oK.chg c3 (by omega), g3, by have := gH.len; omega, fun _ => by omega⟩⟩

theorem rNot {h : Heap} {b : Bool} {hv : Value} {bs : List Bool} (r : Reads h hv (bs.map .bool)) (hn : bs.length ≤ 16777216) :
    Gives P T (.fn F_colonnaderef01_Not) [rv b hv] h fun u h' => ∃ hw q bs', u = rv b hw ∧ bs'.length = bs.length ∧ (∀ j, j < bs.length → hold bs' j = !hold bs j) ∧ Own h' hw q (bs'.map .bool) ∧ Grow h h' ∧ h.dyn.length ≤ q ∧ (hw ≠ nilS → q < h'.dyn.length) := by
  refine gives_by t_colonnaderef01_Not (by simp [c_colonnaderef01_Not]) fun Q hQ => ?_
  have hgv : goodC hv = true := by obtain ⟨bb, c, rfl, _⟩ := r.shape; simp
  have r0 := RowAt.new h [.bool b, hv] 0
  have g0 := Grow.new h [.bool b, hv] 0
  obtain ⟨F, hF⟩ : ∃ G, hnew h [.bool b, hv] 0 = G := ⟨_, rfl⟩
  have hFl : F.dyn.length = h.dyn.length + 1 := by rw [← hF]; simp
  rw [hF] at r0 g0
  have r1 := RowAt.new F [.bool false, .slice none 0 0] 0
  have g1 := Grow.new F [.bool false, .slice none 0 0] 0
  obtain ⟨G, hG⟩ : ∃ G, hnew F [.bool false, .slice none 0 0] 0 = G := ⟨_, rfl⟩
  have hGl : G.dyn.length = F.dyn.length + 1 := by rw [← hG]; simp
  rw [hG] at r1 g1
  have l0 := loadN_row_all (r0.grow g1) (n := 2) rfl
  simp [c_colonnaderef01_Not, hF, hG, l0]
  refine got_call (rClone (b := b) ((r.grow g0).grow g1) hn) ?_
  rintro _ H ⟨hw, q, rfl, o, gH, hq, hq2⟩
  obtain ⟨J, eJ, rJ, lJ, gJ, cJ, nJ⟩ := row2 rfl (RowAt.new H [.bool false, .slice none 0 0] 0) (Grow.new H [.bool false, .slice none 0 0] 0) (Nat.le_refl _) (x := .bool b) (y := hw) (by simp) o.good
  have oJ := o.grow gJ
  have hJl : J.dyn.length = H.dyn.length + 1 := by rw [nJ]; simp
  have gHl := gH.len
  obtain ⟨bb, c, ew, _⟩ := o.reads.shape
  obtain ⟨n, hN⟩ : ∃ n, bs.length = n := ⟨_, rfl⟩
  rw [List.length_map, hN] at ew
  rw [hN] at hn hQ
  simp [eJ]
  have rJ' : RowAt J H.dyn.length 0 0 [.bool b, .slice bb n c] := by rw [← ew]; exact rJ
  have hgw : Grow G J := gH.trans gJ
  refine go_loopK (fun k ks h2 => ∃ (i : Nat) (L : List Bool), k = n - i ∧ i ≤ n ∧ ks = [(2, .pointer (some ⟨F.dyn.length, 0, some 0⟩)), (3, .pointer (some ⟨H.dyn.length, 0, some 0⟩)), (4, .int .i64 i)] ∧
      L.length = n ∧ (∀ j, hold L j = if j < i then !hold bs j else hold bs j) ∧ Own h2 hw q (L.map .bool) ∧ RowAt h2 H.dyn.length 0 0 [.bool b, .slice bb n c] ∧ Grow G h2 ∧ h2.dyn.length = J.dyn.length) (n := n)
    ⟨0, bs, rfl, by omega, rfl, hN, fun j => by simp, oJ, rJ', hgw, rfl⟩ (by simp) ?_
  rintro I hI k ks e h2 ⟨i, L, rfl, hi, rfl, hL, hb, o2, r3, g2, n2⟩
  have l1 := r3.get (i := 1) rfl
  have l3 := loadN_row_all r3 (n := 2) rfl
  simp [l1]
  refine branch_dec (fun hlt => ?_) (fun hge => ?_)
  · obtain ⟨a, cc, eg, _, ld⟩ := o2.get (i := i) (hold_get (by omega))
    obtain ⟨u, c4, h4, e4', e4, o4, c4', n4⟩ := o2.set (i := i) (by simpa [hL] using hlt) (x := .bool (!hold L i)) (by simp)
    rw [set_map] at o4
    have hne : hw ≠ nilS := by rw [e4']; simp [nilS]
    have hql := hq2 hne
    have hw1 : IntKind.i64.wrap ((i : Int) + 1) = ((i + 1 : Nat) : Int) := by rw [wrap_i64 (by omega) (by omega)]; omega
    rw [List.length_map, hL] at eg e4'
    rw [ew] at eg e4'
    simp only [Value.slice.injEq] at eg e4'
    obtain ⟨rfl, -, rfl⟩ := eg
    obtain ⟨e5, -, -⟩ := e4'
    obtain rfl := Option.some.inj e5
    simp at ld
    simp [hlt, l1, ld, e4, hw1, pushP_in]
    exact ⟨n - (i + 1), by omega, hI _ _ _ _ ⟨i + 1, L.set i (!hold L i), rfl, by omega, rfl, by simpa using hL, fun j => by
      rw [hold_set (by omega), hb, hb]
      by_cases hj : j = i
      · subst hj; simp
      · rw [if_neg hj]
        by_cases h1 : j < i
        · rw [if_pos h1, if_pos (by omega)]
        · rw [if_neg h1, if_neg (by omega)], o4, r3.chg c4' (by omega), g2.after c4' fun b hb e => by omega, by omega⟩ (by simp)⟩
  · have hin : i = n := by omega
    subst hin
    obtain ⟨h3, e3, r5, l5, g3, c3, n3⟩ := row2 rfl (r1.grow g2) ((g0.trans g1).trans g2) (by omega) (x := .bool b) (y := .slice bb i c) (by simp) (by simp)
    simp [l3, e3]
    exact ⟨_, res_cell2 (by decide) (by simp) l5, hQ _ _ ⟨.slice bb i c, q, L, by simp [oneOf], hL, fun j hj => by rw [hb, if_pos hj], by rw [← ew]; exact o2.chg c3 (by omega), g3, by omega, fun e => by have := hq2 (by rw [ew]; exact e); omega⟩⟩

/-- The four ways to put two truths together. -/
def opB (k : Nat) (x y : Bool) : Bool := if k = 0 then x && y else if k = 1 then x || y else if k = 2 then Bool.xor x y else x && !y

theorem rBoth_nil {h : Heap} {k : Int} {b b' : Bool} {hv hv' : Value} (hb : (b && b') = false) : Gives P T (.fn F_colonnaderef01_Both) [.int .i64 k, rv b hv, rv b' hv'] h fun v h' => v = .tuple #[rv false nilS, .int .i64 1] ∧ Grow h h' := by
  refine gives_by t_colonnaderef01_Both (by simp [c_colonnaderef01_Both]) fun Q hQ => ?_
  have r0 := RowAt.new h [.bool b, hv] 0
  have g0 := Grow.new h [.bool b, hv] 0
  obtain ⟨F, hF⟩ : ∃ G, hnew h [.bool b, hv] 0 = G := ⟨_, rfl⟩
  have hFl : F.dyn.length = h.dyn.length + 1 := by rw [← hF]; simp
  rw [hF] at r0 g0
  have r1 := RowAt.new F [.bool b', hv'] 0
  have g1 := Grow.new F [.bool b', hv'] 0
  obtain ⟨G, hG⟩ : ∃ G, hnew F [.bool b', hv'] 0 = G := ⟨_, rfl⟩
  have hGl : G.dyn.length = F.dyn.length + 1 := by rw [← hG]; simp
  rw [hG] at r1 g1
  have r2 := RowAt.new G [.bool false, .slice none 0 0] 0
  have g2 := Grow.new G [.bool false, .slice none 0 0] 0
  obtain ⟨H, hH⟩ : ∃ G', hnew G [.bool false, .slice none 0 0] 0 = G' := ⟨_, rfl⟩
  rw [hH] at r2 g2
  have a0 := ((r0.grow g1).grow g2).get (i := 0) rfl
  have b0 := (r1.grow g2).get (i := 0) rfl
  obtain ⟨h3, e3, r3, l3, g3, c3, n3⟩ := row2 rfl r2 ((g0.trans g1).trans g2) (by omega) (x := .bool false) (y := .slice none 0 0) (by simp) (by simp)
  cases b with
  | false =>
    simp [c_colonnaderef01_Both, hF, hG, hH, a0, e3, skipV]
    exact ⟨_, res_cell3 (by decide) (by simp) l3 (by decide), hQ _ _ ⟨by simp [oneOf, nilS], g3⟩⟩
  | true =>
    have : b' = false := by simpa using hb
    subst this
    simp [c_colonnaderef01_Both, hF, hG, hH, a0, b0, e3]
    exact ⟨_, res_cell3 (by decide) (by simp) l3 (by decide), hQ _ _ ⟨by simp [oneOf, nilS], g3⟩⟩

theorem rBoth_size {h : Heap} {k : Int} {hv hv' : Value} {xs ys : List Bool} (r : Reads h hv (xs.map .bool)) (r' : Reads h hv' (ys.map .bool)) (hne : xs.length ≠ ys.length) :
    Gives P T (.fn F_colonnaderef01_Both) [.int .i64 k, rv true hv, rv true hv'] h fun v h' => v = .tuple #[rv false nilS, .int .i64 11] ∧ Grow h h' := by
  refine gives_by t_colonnaderef01_Both (by simp [c_colonnaderef01_Both]) fun Q hQ => ?_
  obtain ⟨bb, c, rfl, _⟩ := r.shape
  obtain ⟨bb', c', rfl, _⟩ := r'.shape
  rw [List.length_map] at r r'
  have r0 := RowAt.new h [.bool true, .slice bb xs.length c] 0
  have g0 := Grow.new h [.bool true, .slice bb xs.length c] 0
  obtain ⟨F, hF⟩ : ∃ G, hnew h [.bool true, .slice bb xs.length c] 0 = G := ⟨_, rfl⟩
  have hFl : F.dyn.length = h.dyn.length + 1 := by rw [← hF]; simp
  rw [hF] at r0 g0
  have r1 := RowAt.new F [.bool true, .slice bb' ys.length c'] 0
  have g1 := Grow.new F [.bool true, .slice bb' ys.length c'] 0
  obtain ⟨G, hG⟩ : ∃ G, hnew F [.bool true, .slice bb' ys.length c'] 0 = G := ⟨_, rfl⟩
  have hGl : G.dyn.length = F.dyn.length + 1 := by rw [← hG]; simp
  rw [hG] at r1 g1
  have r2 := RowAt.new G [.bool false, .slice none 0 0] 0
  have g2 := Grow.new G [.bool false, .slice none 0 0] 0
  obtain ⟨H, hH⟩ : ∃ G', hnew G [.bool false, .slice none 0 0] 0 = G' := ⟨_, rfl⟩
  rw [hH] at r2 g2
  have a0 := ((r0.grow g1).grow g2).get (i := 0) rfl
  have a1 := ((r0.grow g1).grow g2).get (i := 1) rfl
  have b0 := (r1.grow g2).get (i := 0) rfl
  have b1 := (r1.grow g2).get (i := 1) rfl
  obtain ⟨h3, e3, r3, l3, g3, c3, n3⟩ := row2 rfl r2 ((g0.trans g1).trans g2) (by omega) (x := .bool false) (y := .slice none 0 0) (by simp) (by simp)
  have hne' : ¬ (xs.length : Int) = ys.length := by omega
  simp [c_colonnaderef01_Both, hF, hG, hH, a0, b0, a1, b1, hne, hne', e3]
  exact ⟨_, res_cell3 (by decide) (by simp) l3 (by decide), hQ _ _ ⟨by simp [oneOf, nilS], g3⟩⟩

set_option maxHeartbeats 4000000 in
theorem rBoth_ok {h : Heap} {k : Nat} (hk : k < 4) {hv hv' : Value} {xs ys : List Bool} (r : Reads h hv (xs.map .bool)) (r' : Reads h hv' (ys.map .bool)) (he : ys.length = xs.length) (hn : xs.length ≤ 16777216) :
    Gives P T (.fn F_colonnaderef01_Both) [.int .i64 k, rv true hv, rv true hv'] h fun v h' => ∃ hw q zs, v = .tuple #[rv true hw, .int .i64 0] ∧ zs.length = xs.length ∧ (∀ j, hold zs j = (decide (j < xs.length) && opB k (hold xs j) (hold ys j))) ∧ Own h' hw q (zs.map .bool) ∧ Grow h h' ∧ h.dyn.length ≤ q ∧ (hw ≠ nilS → q < h'.dyn.length) := by
  refine gives_by t_colonnaderef01_Both (by simp [c_colonnaderef01_Both]) fun Q hQ => ?_
  obtain ⟨bb, c, rfl, _⟩ := r.shape
  obtain ⟨bb', c', rfl, _⟩ := r'.shape
  obtain ⟨n, hN⟩ : ∃ n, xs.length = n := ⟨_, rfl⟩
  rw [hN] at he hn hQ
  rw [List.length_map, hN] at r ⊢
  rw [List.length_map, he] at r' ⊢
  have r0 := RowAt.new h [.bool true, .slice bb n c] 0
  have g0 := Grow.new h [.bool true, .slice bb n c] 0
  obtain ⟨F, hF⟩ : ∃ G, hnew h [.bool true, .slice bb n c] 0 = G := ⟨_, rfl⟩
  have hFl : F.dyn.length = h.dyn.length + 1 := by rw [← hF]; simp
  rw [hF] at r0 g0
  have r1 := RowAt.new F [.bool true, .slice bb' n c'] 0
  have g1 := Grow.new F [.bool true, .slice bb' n c'] 0
  obtain ⟨G, hG⟩ : ∃ G, hnew F [.bool true, .slice bb' n c'] 0 = G := ⟨_, rfl⟩
  have hGl : G.dyn.length = F.dyn.length + 1 := by rw [← hG]; simp
  rw [hG] at r1 g1
  have r2 := RowAt.new G [.bool false, .slice none 0 0] 0
  have g2 := Grow.new G [.bool false, .slice none 0 0] 0
  obtain ⟨H, hH⟩ : ∃ G', hnew G [.bool false, .slice none 0 0] 0 = G' := ⟨_, rfl⟩
  have hHl : H.dyn.length = G.dyn.length + 1 := by rw [← hH]; simp
  rw [hH] at r2 g2
  have A := (r0.grow g1).grow g2
  have B := r1.grow g2
  have a0 := A.get (i := 0) rfl
  have a1 := A.get (i := 1) rfl
  have b0 := B.get (i := 0) rfl
  have b1 := B.get (i := 1) rfl
  have rX := ((r.grow g0).grow g1).grow g2
  have rY := ((r'.grow g0).grow g1).grow g2
  have gH := (g0.trans g1).trans g2
  simp [c_colonnaderef01_Both, hF, hG, hH, a0, b0, a1, b1]
  refine got_call (rNew_ok hn) ?_
  rintro _ J ⟨hw, q, rfl, o, gJ, hq, hq2⟩
  obtain ⟨K, eK, rK, lK, gK, cK, nK⟩ := row2 rfl (RowAt.new J [.bool false, .slice none 0 0] 0) (Grow.new J [.bool false, .slice none 0 0] 0) (Nat.le_refl _) (x := .bool true) (y := hw) (by simp) o.good
  have oK := o.grow gK
  have hKl : K.dyn.length = J.dyn.length + 1 := by rw [nK]; simp
  obtain ⟨cw, cc, ew, _⟩ := o.reads.shape
  rw [List.length_map, List.length_replicate] at ew
  have rK' : RowAt K J.dyn.length 0 0 [.bool true, .slice cw n cc] := by rw [← ew]; exact rK
  have gJl := gJ.len
  simp [eK]
  refine go_loopK (fun kk ks h2 => ∃ (i : Nat) (L : List Bool), kk = n - i ∧ i ≤ n ∧ ks = [(0, .int .i64 k), (4, .pointer (some ⟨h.dyn.length, 0, some 0⟩)), (5, .pointer (some ⟨F.dyn.length, 0, some 0⟩)), (6, .pointer (some ⟨G.dyn.length, 0, some 0⟩)), (8, .pointer (some ⟨J.dyn.length, 0, some 0⟩)), (9, .int .i64 i)] ∧
      L.length = n ∧ (∀ j, hold L j = (decide (j < i) && opB k (hold xs j) (hold ys j))) ∧ Own h2 hw q (L.map .bool) ∧ RowAt h2 J.dyn.length 0 0 [.bool true, .slice cw n cc] ∧ Grow H h2 ∧ h2.dyn.length = K.dyn.length) (n := n)
    ⟨0, List.replicate n false, rfl, by omega, rfl, by simp, fun j => by unfold hold; rw [List.getD_eq_getElem?_getD, List.getElem?_replicate]; split <;> simp, oK, rK', gJ.trans gK, rfl⟩ (by simp) ?_
  rintro I hI kk ks e h2 ⟨i, L, rfl, hi, rfl, hL, hb, o2, rw2, gg, n2⟩
  have x1 := (A.grow gg).get (i := 1) rfl
  have y1 := (B.grow gg).get (i := 1) rfl
  have z1 := rw2.get (i := 1) rfl
  simp [x1]
  refine branch_dec (fun hlt => ?_) (fun hge => ?_)
  · obtain ⟨_, _, ex, kx⟩ := (rX.grow gg).shape
    simp only [List.length_map, hN, Value.slice.injEq] at ex kx
    obtain ⟨rfl, -, rfl⟩ := ex
    obtain ⟨ax, rfl, hlx⟩ := kx i hlt
    have ldx := hlx i _ (hold_get (by omega))
    obtain ⟨_, _, ey, ky⟩ := (rY.grow gg).shape
    simp only [List.length_map, he, Value.slice.injEq] at ey ky
    obtain ⟨rfl, -, rfl⟩ := ey
    obtain ⟨ay, rfl, hly⟩ := ky i hlt
    have ldy := hly i _ (hold_get (by omega))
    obtain ⟨u, c4, h4, e4', e4, o4, c4', n4⟩ := o2.set (i := i) (by simpa [hL] using hlt) (x := .bool (opB k (hold xs i) (hold ys i))) (by simp)
    rw [set_map] at o4
    have hw1 : IntKind.i64.wrap ((i : Int) + 1) = ((i + 1 : Nat) : Int) := by rw [wrap_i64 (by omega) (by omega)]; omega
    rw [List.length_map, hL, ew] at e4'
    simp only [Value.slice.injEq] at e4'
    obtain ⟨e5, -, -⟩ := e4'
    subst e5
    have fin := hI (n - (i + 1)) [(0, .int .i64 k), (4, .pointer (some ⟨h.dyn.length, 0, some 0⟩)), (5, .pointer (some ⟨F.dyn.length, 0, some 0⟩)), (6, .pointer (some ⟨G.dyn.length, 0, some 0⟩)), (8, .pointer (some ⟨J.dyn.length, 0, some 0⟩)), (9, .int .i64 (i + 1 : Nat))]
    have inv : ∃ (i' : Nat) (L' : List Bool), n - (i + 1) = n - i' ∧ i' ≤ n ∧ [(0, Value.int .i64 k), (4, .pointer (some ⟨h.dyn.length, 0, some 0⟩)), (5, .pointer (some ⟨F.dyn.length, 0, some 0⟩)), (6, .pointer (some ⟨G.dyn.length, 0, some 0⟩)), (8, .pointer (some ⟨J.dyn.length, 0, some 0⟩)), (9, .int .i64 (i + 1 : Nat))] = [(0, Value.int .i64 k), (4, .pointer (some ⟨h.dyn.length, 0, some 0⟩)), (5, .pointer (some ⟨F.dyn.length, 0, some 0⟩)), (6, .pointer (some ⟨G.dyn.length, 0, some 0⟩)), (8, .pointer (some ⟨J.dyn.length, 0, some 0⟩)), (9, .int .i64 (i' : Nat))] ∧
        L'.length = n ∧ (∀ j, hold L' j = (decide (j < i') && opB k (hold xs j) (hold ys j))) ∧ Own h4 hw q (L'.map .bool) ∧ RowAt h4 J.dyn.length 0 0 [.bool true, .slice (some ⟨q, 0, some u⟩) n cc] ∧ Grow H h4 ∧ h4.dyn.length = K.dyn.length :=
      ⟨i + 1, L.set i (opB k (hold xs i) (hold ys i)), rfl, by omega, rfl, by simpa using hL, fun j => by
        rw [hold_set (by omega), hb]
        by_cases hj : j = i
        · subst hj; simp
        · rw [if_neg hj, dec_succ hj], o4, rw2.chg c4' (by omega), gg.after c4' fun b hb e => by omega, by omega⟩
    have hk' : k = 0 ∨ k = 1 ∨ k = 2 ∨ k = 3 := by omega
    generalize hold xs i = xb at *
    generalize hold ys i = yb at *
    rcases hk' with rfl | rfl | rfl | rfl <;> cases xb <;> cases yb <;> simp [opB] at e4 <;> simp [hlt, x1, y1, z1, ldx, ldy, hw1, skipV, e4] <;> exact ⟨n - (i + 1), by omega, fin _ _ inv (by simp)⟩
  · have hin : i = n := by omega
    subst hin
    have l5 := loadN_row_all rw2 (n := 2) rfl
    obtain ⟨h3, e3, r5, l6, g3, c3, n3⟩ := row2 rfl (r2.grow gg) (gH.trans gg) (by omega) (x := .bool true) (y := .slice cw i cc) (by simp) (by simp)
    simp [l5, e3]
    exact ⟨_, res_cell3 (by decide) (by simp) l6 (by decide), hQ _ _ ⟨_, q, L, by simp [oneOf, ew], hL, hb, o2.chg c3 (by omega), g3, by omega, fun e => by omega⟩⟩

end Go.Ax
