/- Seat value: texts, classes, numbers; the law ValueCompares. -/
import Derived.Test.YtjfdnmjjmbildaaGreatDoorVE
namespace Go.Ax
open Go.Proofs
set_option linter.unusedVariables false
set_option linter.unusedSimpArgs false
set_option maxRecDepth 100000

/-! ### texts -/

/-- Byte by byte. -/
def tcL : List (BitVec 8) → List (BitVec 8) → Int
  | [], [] => 0
  | [], _ :: _ => -1
  | _ :: _, [] => 1
  | a :: xs, b :: bs => if a = b then tcL xs bs else cmpI a.toNat b.toNat

theorem tcL_step {xs bs : List (BitVec 8)} {i : Nat} (h1 : i < xs.length) (h2 : i < bs.length) (h : byteA xs i = byteA bs i) : tcL (xs.drop i) (bs.drop i) = tcL (xs.drop (i + 1)) (bs.drop (i + 1)) := by
  rw [List.drop_eq_getElem_cons h1, List.drop_eq_getElem_cons h2]
  have e1 : byteA xs i = xs[i] := by unfold byteA; rw [List.getD_eq_getElem?_getD, List.getElem?_eq_getElem h1]; rfl
  have e2 : byteA bs i = bs[i] := by unfold byteA; rw [List.getD_eq_getElem?_getD, List.getElem?_eq_getElem h2]; rfl
  rw [e1, e2] at h
  simp only [tcL]
  rw [if_pos h]

theorem tcL_diff {xs bs : List (BitVec 8)} {i : Nat} (h1 : i < xs.length) (h2 : i < bs.length) (h : ¬ byteA xs i = byteA bs i) : tcL (xs.drop i) (bs.drop i) = cmpI (byteA xs i).toNat (byteA bs i).toNat := by
  rw [List.drop_eq_getElem_cons h1, List.drop_eq_getElem_cons h2]
  have e1 : byteA xs i = xs[i] := by unfold byteA; rw [List.getD_eq_getElem?_getD, List.getElem?_eq_getElem h1]; rfl
  have e2 : byteA bs i = bs[i] := by unfold byteA; rw [List.getD_eq_getElem?_getD, List.getElem?_eq_getElem h2]; rfl
  rw [e1, e2] at h ⊢
  simp only [tcL]
  rw [if_neg h]

theorem tcL_end {xs bs : List (BitVec 8)} {i : Nat} (h : ¬ (i < xs.length ∧ i < bs.length)) (h1 : i ≤ xs.length) (h2 : i ≤ bs.length) : tcL (xs.drop i) (bs.drop i) = cmpI xs.length bs.length := by
  unfold cmpI
  by_cases ha : i < xs.length
  · have hb : bs.length ≤ i := by omega
    rw [List.drop_eq_nil_of_le hb, List.drop_eq_getElem_cons ha]
    simp only [tcL]
    rw [if_neg (by omega), if_pos (by omega)]
  · rw [List.drop_eq_nil_of_le (by omega : xs.length ≤ i)]
    by_cases hb : i < bs.length
    · rw [List.drop_eq_getElem_cons hb]
      simp only [tcL]
      rw [if_pos (by omega)]
    · rw [List.drop_eq_nil_of_le (by omega : bs.length ≤ i)]
      simp only [tcL]
      rw [if_neg (by omega), if_neg (by omega)]

theorem tcL_from {xs bs : List (BitVec 8)} : ∀ {i : Nat}, i ≤ xs.length → i ≤ bs.length → (∀ j, j < i → byteA xs j = byteA bs j) → tcL xs bs = tcL (xs.drop i) (bs.drop i)
  | 0, _, _, _ => rfl
  | i + 1, h1, h2, h => by
    rw [tcL_from (i := i) (by omega) (by omega) fun j hj => h j (by omega), tcL_step (by omega) (by omega) (h i (by omega))]

theorem bstr_at {xs : List (BitVec 8)} {i : Nat} (h : i < xs.length) : (bstr xs)[i]! = UInt8.ofBitVec (byteA xs i) := by
  have hs : i < (bstr xs).size := by rw [bstr_size]; exact h
  rw [getElem!_pos (bstr xs) i hs]
  unfold byteA
  rw [List.getD_eq_getElem?_getD, List.getElem?_eq_getElem h]
  show ((xs.map UInt8.ofBitVec).toArray)[i]'(by simpa using h) = _
  rw [List.getElem_toArray, List.getElem_map]; rfl

theorem ext_cmp (xs bs : List (BitVec 8)) : Extern.BytealgCompare.cmp (bstr xs) (bstr bs) = tcL xs bs := by
  unfold Extern.BytealgCompare.cmp
  rw [bstr_size, bstr_size]
  split
  · rename_i i hi
    rw [List.find?_range_eq_some] at hi
    obtain ⟨h1, h2, h3⟩ := hi
    have h2' := List.mem_range.1 h2
    have ia : i < xs.length := by omega
    have ib : i < bs.length := by omega
    have ne : ¬ byteA xs i = byteA bs i := by
      rw [bstr_at ia, bstr_at ib] at h1
      intro e; rw [e] at h1; simp at h1
    have eqs : ∀ j, j < i → byteA xs j = byteA bs j := by
      intro j hj
      have := h3 j hj
      rw [bstr_at (by omega), bstr_at (by omega)] at this
      simpa using this
    rw [tcL_from (by omega) (by omega) eqs, tcL_diff ia ib ne, bstr_at ia, bstr_at ib]
    unfold cmpI
    have hlt : (UInt8.ofBitVec (byteA xs i) < UInt8.ofBitVec (byteA bs i)) ↔ (byteA xs i).toNat < (byteA bs i).toNat := by
      rw [UInt8.lt_iff_toNat_lt]; rfl
    by_cases hc : (byteA xs i).toNat < (byteA bs i).toNat
    · rw [if_pos (hlt.2 hc), if_pos (by omega)]
    · have : (byteA xs i).toNat ≠ (byteA bs i).toNat := fun e => ne (BitVec.eq_of_toNat_eq e)
      rw [if_neg (fun h => hc (hlt.1 h)), if_neg (by omega), if_pos (by omega)]
  · rename_i hi
    rw [List.find?_eq_none] at hi
    have eqs : ∀ j, j < min xs.length bs.length → byteA xs j = byteA bs j := by
      intro j hj
      have := hi j (List.mem_range.2 hj)
      rw [bstr_at (by omega), bstr_at (by omega)] at this
      simpa using this
    rw [tcL_from (i := min xs.length bs.length) (by omega) (by omega) eqs, tcL_end (by omega) (by omega) (by omega)]
    unfold cmpI
    rcases Nat.lt_trichotomy xs.length bs.length with h | h | h
    · have a1 : (xs.length : Int) < bs.length := by omega
      simp [h, a1]
    · have a1 : ¬ (xs.length : Int) < bs.length := by omega
      have a2 : ¬ (bs.length : Int) < xs.length := by omega
      have a3 : ¬ xs.length < bs.length := by omega
      have a4 : ¬ bs.length < xs.length := by omega
      simp [a1, a2, a3, a4]
    · have a1 : ¬ (xs.length : Int) < bs.length := by omega
      have a2 : (bs.length : Int) < xs.length := by omega
      have a3 : ¬ xs.length < bs.length := by omega
      have a4 : bs.length < xs.length := by omega
      simp [a1, a2, a3, a4]

theorem ext54_spec {h : Heap} {xs bs : List (BitVec 8)} : Gives P T (.fn 59) [.string (bstr xs), .string (bstr bs)] h fun v h' => v = .int .i64 (tcL xs bs) ∧ h' = h := by
  have e : runExt P 59 [.string (bstr xs), .string (bstr bs)] h = some (.int .i64 (Extern.BytealgCompare.cmp (bstr xs) (bstr bs)), h) := by kernel_rfl
  exact gives_ext rfl e ⟨by rw [ext_cmp], rfl⟩

theorem strCompare_spec {h : Heap} {xs bs : List (BitVec 8)} : Gives P T (.fn F_strings_Compare) [.string (bstr xs), .string (bstr bs)] h fun v h' => v = .int .i64 (tcL xs bs) ∧ h' = h := by
  refine gives_by t_strings_Compare (by simp [c_strings_Compare]) fun Q hQ => ?_
  simp [c_strings_Compare]
  refine got_call (gives_by (R := fun v h' => v = .int .i64 (tcL xs bs) ∧ h' = h) t_internal_bytealg_CompareString (by simp [c_internal_bytealg_CompareString]) fun Q hQ => ?_) ?_
  · simp [c_internal_bytealg_CompareString]
    refine got_call ext54_spec ?_
    rintro _ _ ⟨rfl, rfl⟩
    simp
    exact hQ _ _ ⟨rfl, rfl⟩
  rintro _ _ ⟨rfl, rfl⟩
  simp
  exact hQ _ _ ⟨rfl, rfl⟩

def ixSR (h : Heap) : Value → Value → Option (Value × Heap)
  | .string s, .int _ i => if 0 ≤ i then (match s.data.toList[i.toNat]? with | some b => some (.int .u8 b.toNat, h) | none => none) else none
  | _, _ => none
@[simp] theorem op_ixS {P : Program} {cf : CF} {t : List Value} {h : Heap} {x i : Operand} : runOp P cf (.ixS x i) t h = ixSR h (evalT t x) (evalT t i) := by
  unfold runOp ixSR; simp only [aop]
  generalize evalT t x = u
  generalize evalT t i = v
  cases u with
  | string s =>
    cases v with
    | int kd i =>
      simp only
      by_cases hi : 0 ≤ i
      · simp only [hi, if_true]; cases s.data.toList[i.toNat]? <;> rfl
      · simp only [hi, if_false]
    | _ => rfl
  | _ => cases v <;> rfl

theorem ix_bstr {h : Heap} {xs : List (BitVec 8)} {i : Nat} {kd : IntKind} (hi : i < xs.length) : ixSR h (.string (bstr xs)) (.int kd (i : Nat)) = some (.int .u8 ((byteA xs i).toNat : Nat), h) := by
  have h1 : (bstr xs).data.toList[i]? = some (UInt8.ofBitVec (byteA xs i)) := by
    unfold bstr byteA
    rw [List.getD_eq_getElem?_getD, List.getElem?_eq_getElem hi]
    simp [hi]
  simp only [ixSR]
  rw [if_pos (by omega)]
  simp only [Int.toNat_natCast, h1]
  rfl

/-! ### the first that is not nought -/

theorem or_spec {h : Heap} {x y : Int} {q : Nat} (r : RowAt h q 0 1 [.int .i64 x, .int .i64 y]) (hy : y ≠ 0) :
    Gives P T (.fn F_cmp_Or_int) [.slice (some ⟨q, 0, some 0⟩) 2 2] h fun v h' => v = .int .i64 (if x = 0 then y else x) ∧ h' = h := by
  refine gives_by t_cmp_Or_int (by simp [c_cmp_Or_int]) fun Q hQ => ?_
  have r0 := r.get (i := 0) rfl
  have r1 := r.get (i := 1) rfl
  have wn : IntKind.i64.wrap 1 = 1 := wrap_i64 (by omega) (by omega)
  simp [c_cmp_Or_int]
  refine go_loopK (fun k ks h2 => ∃ (i : Nat), k = 2 - i ∧ i ≤ 1 ∧ (i = 1 → x = 0) ∧ ks = [(3, .int .i64 0), (6, .slice (some ⟨q, 0, some 0⟩) 2 2), (7, .int .i64 2), (8, .int .i64 i)] ∧ h2 = h) (n := 2)
    ⟨0, rfl, by omega, by omega, rfl, rfl⟩ (by simp) ?_
  rintro I hI k ks e h3 ⟨i, rfl, hi, hx0, rfl, rfl⟩
  have hc : i = 0 ∨ i = 1 := by omega
  rcases hc with rfl | rfl
  · by_cases hx : x = 0
    · subst hx
      simp [iadR, r0]
      exact ⟨1, by omega, hI _ _ _ _ ⟨1, rfl, by omega, fun _ => rfl, rfl, rfl⟩ (by simp [wn])⟩
    · simp [iadR, r0, hx]
      exact hQ _ _ ⟨by rw [if_neg hx], rfl⟩
  · simp [iadR, r1, hy]
    exact hQ _ _ ⟨by rw [if_pos (hx0 rfl)], rfl⟩

/-! ### classes -/

def clsP (m : Bool) (k : Int) : Int := if m then (if k = 0 then 1 else if k = 2 then 3 else 2) else 0
def clsR (k : Int) : Int := if k = 0 then 0 else if k = 2 then 2 else 1

theorem class_spec {h : Heap} {k i : Int} {a : Nat} {bs : List (BitVec 8)} (ha : a < 18446744073709551616) :
    Gives P T (.fn F_value_class) [.agg (vCells k i a bs).toArray] h fun v h' => v = .int .i64 (clsP (mayB k i a bs.length) k) ∧ Grow h h' := by
  refine gives_by t_value_class (by simp [c_value_class]) fun Q hQ => ?_
  have g := Grow.new h (vCells k i a bs) 0
  have r := RowAt.new h (vCells k i a bs) 0
  have l := loadN_row_all r (n := 4) rfl
  simp [c_value_class, l]
  refine got_call (May_spec ha) ?_
  rintro _ h2 ⟨rfl, g2⟩
  have r0 := (r.grow g2).get (i := 0) (x := .int .i64 k) rfl
  generalize mayB k i a bs.length = m at hQ
  cases m
  · simp
    exact hQ _ _ ⟨rfl, g.trans g2⟩
  · by_cases h0 : k = 0
    · subst h0
      simp [r0]
      exact hQ _ _ ⟨rfl, g.trans g2⟩
    · by_cases h1 : k = 2
      · subst h1
        simp [r0]
        exact hQ _ _ ⟨rfl, g.trans g2⟩
      · simp [r0, h0, h1]
        exact hQ _ _ ⟨by simp [clsP, h0, h1], g.trans g2⟩

def numV (k i : Int) (a : Nat) (k' i' : Int) (a' : Nat) : Int :=
  if k = 3 ∧ k' = 3 then cmpI (V a) (V a') else if k = 1 ∧ k' = 1 then cmpI i i' else if k = 3 then -(agI i' a) else agI i a'

theorem cmpI_range (a b : Int) : -1 ≤ cmpI a b ∧ cmpI a b ≤ 1 := by unfold cmpI; split <;> (try split) <;> omega
theorem agI_range (i : Int) (a : Nat) : -1 ≤ agI i a ∧ agI i a ≤ 1 := by
  unfold agI
  have h1 := cmpI_range i (TR a)
  have h2 := cmpI_range (TR a * ((2 ^ UE : Nat) : Int)) (V a)
  split
  · omega
  · split
    · omega
    · split <;> assumption

end Go.Ax
