/- Seat valuec: the law ValueTexts. -/
import Derived.Test.YtjfdnmjjmbildaaGreatDoorVK
import Derived.Test.YtjfdnmjjmbildaaGreatDoorKD
namespace Go.Ax
open Go.Proofs
set_option linter.unusedVariables false
set_option linter.unusedSimpArgs false
set_option maxRecDepth 100000

theorem tcL_pre : ∀ (a b c : List (BitVec 8)), tcL (a ++ b) (a ++ c) = tcL b c
  | [], b, c => rfl
  | x :: a, b, c => by
    rw [List.cons_append, List.cons_append, tcL, if_pos rfl]
    exact tcL_pre a b c

theorem tcL_own : ∀ (a b : List (BitVec 8)), tcL a (a ++ b) = if b = [] then 0 else -1
  | [], [] => rfl
  | [], y :: b => by rw [if_neg (by simp)]; rfl
  | x :: a, b => by
    rw [List.cons_append, tcL, if_pos rfl]
    exact tcL_own a b

theorem cmp_texts {bs bs' : List (BitVec 8)} (h : bs.length ≤ 65535) (h' : bs'.length ≤ 65535) : cmpB 2 0 0 bs 2 0 0 bs' = tcL bs bs' := by
  unfold cmpB
  simp [mayB, h, h']

theorem store_new4 {h : Heap} {l m : List Value} (hl : m.length = l.length) (hg : m.all goodC = true) : ∃ h', storeN (hnew h l 0) ⟨h.dyn.length, 0, some 0⟩ m = some h' ∧ RowAt h' h.dyn.length 0 0 m ∧ Grow h h' := by
  obtain ⟨h', e, r, c, n⟩ := (RowAt.new h l 0).storeN m 0 (by omega) hg
  have e2 : l.take 0 ++ m ++ l.drop (0 + m.length) = m := by rw [List.take_zero, List.nil_append, Nat.zero_add, hl, List.drop_length, List.append_nil]
  rw [e2] at r
  exact ⟨h', e, r, (Grow.new h l 0).after c fun b hb e => by omega⟩

@[simp] theorem store_agg4 {h : Heap} {a : Addr} {x y z u : Value} : storeR h 4 (.pointer (some a)) (.agg #[x, y, z, u]) = (storeN h a [x, y, z, u]).map fun h' => (undef, h') := store_agg (cs := #[x, y, z, u])

theorem res_cell {N i n : Nat} {a : Addr} {l : List Value} {h : Heap} {e : List (Nat × Value)} (hi : i < N) (hs : slot e i = .pointer (some a)) (hl : loadN h a n = some l) : resVals (envT N e) h [.cell i (some n)] = some [.agg l.toArray] := by
  simp only [resVals, envT_getD hi, hs, aload, hl, Option.map_some]

theorem Text_spec {h : Heap} {bs : List (BitVec 8)} : Gives P T (.fn F_value_Text) [.string (bstr bs)] h fun v h' => v = .agg (vCells 2 0 0 bs).toArray ∧ Grow h h' := by
  refine gives_by t_value_Text (by simp [c_value_Text]) fun Q hQ => ?_
  obtain ⟨h1, e1, r1, g1⟩ := store_new4 (h := h) (l := vCells 0 0 0 []) (m := vCells 2 0 0 bs) rfl rfl
  have l1 := loadN_row_all r1 (n := 4) rfl
  simp only [vCells] at e1 l1 hQ
  simp [c_value_Text, str_nil, e1, l1]
  exact ⟨_, res_cell (by decide) (by simp) l1, hQ _ _ ⟨rfl, g1⟩⟩

set_option maxHeartbeats 1000000 in
theorem texts_law {a b c : List (BitVec 8)} (ha : a.length ≤ 140737488355328) (hb : b.length ≤ 140737488355328) (hc : c.length ≤ 140737488355328) :
    Gives P T (.fn F_colonnadelaw05_ValueTexts) [.string (bstr a), .string (bstr b), .string (bstr c)] (heap0 roV) fun v _ => v = .bool true := by
  refine gives_by t_colonnadelaw05_ValueTexts (by simp [c_colonnadelaw05_ValueTexts]) fun Q hQ => ?_
  have w1 : IntKind.i64.wrap ((a.length : Int) + b.length) = ((a.length + b.length : Nat) : Int) := by rw [wrap_i64 (by omega) (by omega)]; omega
  have w2 : IntKind.i64.wrap (((a.length + b.length : Nat) : Int) + c.length) = ((a.length + b.length + c.length : Nat) : Int) := by rw [wrap_i64 (by omega) (by omega)]; omega
  have w2' : IntKind.i64.wrap ((a.length : Int) + b.length + c.length) = ((a.length + b.length + c.length : Nat) : Int) := by rw [wrap_i64 (by omega) (by omega)]; omega
  simp [c_colonnadelaw05_ValueTexts]
  refine got_call awake_spec ?_
  rintro _ h0 ⟨rfl, -⟩
  by_cases hbig : 65535 < a.length + b.length + c.length
  · have hb' : (65535 : Int) < (a.length : Int) + b.length + c.length := by omega
    simp [w1, w2, w2', hb']
    exact hQ _ _ rfl
  have hb' : ¬ (65535 : Int) < (a.length : Int) + b.length + c.length := by omega
  have sab := fun (h : Heap) (ty : TypeId) (q : EqK) (x y : Operand) => add_str (P := P) (h := h) (ty := ty) (q := q) (x := x) (y := y) (a := a) (b := b) (by omega)
  have sac := fun (h : Heap) (ty : TypeId) (q : EqK) (x y : Operand) => add_str (P := P) (h := h) (ty := ty) (q := q) (x := x) (y := y) (a := a) (b := c) (by omega)
  simp [w1, w2, w2', hb', sab]
  refine got_call Text_spec ?_
  rintro _ h1 ⟨rfl, -⟩
  simp [sac]
  refine got_call Text_spec ?_
  rintro _ h2 ⟨rfl, -⟩
  simp
  refine got_call (Compare_spec (by omega) (by omega)) ?_
  rintro _ h3 ⟨rfl, -⟩
  rw [cmp_texts (by rw [List.length_append]; omega) (by rw [List.length_append]; omega), tcL_pre]
  simp
  refine got_call Text_spec ?_
  rintro _ h4 ⟨rfl, -⟩
  simp
  refine got_call Text_spec ?_
  rintro _ h5 ⟨rfl, -⟩
  simp
  refine got_call (Compare_spec (by omega) (by omega)) ?_
  rintro _ h6 ⟨rfl, -⟩
  rw [cmp_texts (by omega) (by omega)]
  simp
  refine got_call Text_spec ?_
  rintro _ h7 ⟨rfl, -⟩
  simp [sab]
  refine got_call Text_spec ?_
  rintro _ h8 ⟨rfl, -⟩
  simp
  refine got_call (Compare_spec (by omega) (by omega)) ?_
  rintro _ h9 ⟨rfl, -⟩
  rw [cmp_texts (by omega) (by rw [List.length_append]; omega), tcL_own]
  by_cases h0b : b = []
  · subst h0b
    simp [skipV]
    exact hQ _ _ rfl
  · have hbl : 0 < b.length := List.length_pos_iff.2 h0b
    have hbl' : (0 : Int) < b.length := by omega
    rw [if_neg h0b]
    simp [hbl, hbl', h0b, skipV]
    exact hQ _ _ rfl

end Go.Ax
