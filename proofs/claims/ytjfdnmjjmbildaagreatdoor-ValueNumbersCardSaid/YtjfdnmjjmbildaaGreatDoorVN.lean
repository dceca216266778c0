/- Seat valuec: what is made. -/
import Derived.Test.YtjfdnmjjmbildaaGreatDoorVM
import Derived.Test.YtjfdnmjjmbildaaGreatDoorKT
namespace Go.Ax
open Go.Proofs
set_option linter.unusedVariables false
set_option linter.unusedSimpArgs false
set_option maxRecDepth 100000

@[simp] theorem f_subn {h : Heap} {x y : Operand} {a b w : Nat} (e : Ieee.double.sub a b = some w) : abinop P h .sub 22 .other x y (.float .f64 a) (.float .f64 b) = some (.float .f64 w) := by
  have e1 : abinop P h .sub 22 .other x y (.float .f64 a) (.float .f64 b) = (match pures P (Op.floatArith .sub .f64 a b) with | some v => some v | none => nanSub (.float .f64 a) (.float .f64 b)) := rfl
  rw [e1]
  unfold Op.floatArith
  have e2 : FloatKind.f64.format.sub a b = some w := e
  simp only [e2]
  rfl

@[simp] theorem f_subx {h : Heap} {x y : Operand} {a b : Nat} (e : Ieee.double.sub a b = none) : abinop P h .sub 22 .other x y (.float .f64 a) (.float .f64 b) = some nanV := by
  have e1 : abinop P h .sub 22 .other x y (.float .f64 a) (.float .f64 b) = (match pures P (Op.floatArith .sub .f64 a b) with | some v => some v | none => nanSub (.float .f64 a) (.float .f64 b)) := rfl
  rw [e1]
  unfold Op.floatArith
  have e2 : FloatKind.f64.format.sub a b = none := e
  simp only [e2]
  show nanSub (.float .f64 a) (.float .f64 b) = some nanV
  simp only [nanSub, e, if_true]

@[simp] theorem f_neqx {h : Heap} {x y : Operand} {b : Nat} : abinop P h .neq 22 .other x y nanV (.float .f64 b) = some (.bool true) := rfl

@[simp] theorem f_add {h : Heap} {x y : Operand} {a b w : Nat} (e : Ieee.double.add a b = some w) : abinop P h .add 22 .other x y (.float .f64 a) (.float .f64 b) = some (.float .f64 w) := by
  have e1 : abinop P h .add 22 .other x y (.float .f64 a) (.float .f64 b) = pures P (Op.floatArith .add .f64 a b) := rfl
  rw [e1]
  unfold Op.floatArith
  have e2 : FloatKind.f64.format.add a b = some w := e
  simp only [e2]
  rfl

@[simp] theorem f_mul {h : Heap} {x y : Operand} {a b w : Nat} (e : Ieee.double.mul a b = some w) : abinop P h .mul 22 .other x y (.float .f64 a) (.float .f64 b) = some (.float .f64 w) := by
  have e1 : abinop P h .mul 22 .other x y (.float .f64 a) (.float .f64 b) = pures P (Op.floatArith .mul .f64 a b) := rfl
  rw [e1]
  unfold Op.floatArith
  have e2 : FloatKind.f64.format.mul a b = some w := e
  simp only [e2]
  rfl

theorem None_spec {h : Heap} : Gives P T (.fn F_value_None) [] h fun v h' => v = .agg (vCells 0 0 0 []).toArray ∧ Grow h h' := by
  refine gives_by t_value_None (by simp [c_value_None]) fun Q hQ => ?_
  obtain ⟨h1, e1, r1, g1⟩ := store_new4 (h := h) (l := vCells 0 0 0 []) (m := vCells 0 0 0 []) rfl rfl
  have l1 := loadN_row_all r1 (n := 4) rfl
  simp only [vCells] at e1 l1 hQ
  simp [c_value_None, str_nil, e1, l1]
  exact ⟨_, res_cell (by decide) (by simp) l1, hQ _ _ ⟨rfl, g1⟩⟩

theorem Int_spec {h : Heap} {i : Int} : Gives P T (.fn F_value_Int) [.int .i64 i] h fun v h' => v = .agg (vCells 1 i 0 []).toArray ∧ Grow h h' := by
  refine gives_by t_value_Int (by simp [c_value_Int]) fun Q hQ => ?_
  obtain ⟨h1, e1, r1, g1⟩ := store_new4 (h := h) (l := vCells 0 0 0 []) (m := vCells 1 i 0 []) rfl rfl
  have l1 := loadN_row_all r1 (n := 4) rfl
  simp only [vCells] at e1 l1 hQ
  simp [c_value_Int, str_nil, e1, l1]
  exact ⟨_, res_cell (by decide) (by simp) l1, hQ _ _ ⟨rfl, g1⟩⟩

/-- What Real makes. -/
def realC (a : Nat) : List Value := if rg a < 9218868437227405312 then vCells 3 0 (made a) [] else vCells 0 0 0 []

theorem ford00 : ford 0 0 = some .eq := rfl

theorem Real_spec {h : Heap} {a : Nat} (ha : a < 18446744073709551616) : Gives P T (.fn F_value_Real) [.float .f64 a] h fun v h' => v = .agg (realC a).toArray ∧ Grow h h' := by
  refine gives_by t_value_Real (by simp [c_value_Real]) fun Q hQ => ?_
  by_cases hf : fin a
  · obtain ⟨h1, e1, r1, g1⟩ := store_new4 (h := h) (l := vCells 0 0 0 []) (m := vCells 3 0 (made a) []) rfl rfl
    have l1 := loadN_row_all r1 (n := 4) rfl
    have er : realC a = vCells 3 0 (made a) [] := by unfold realC; rw [if_pos (show rg a < 9218868437227405312 from hf)]
    rw [er] at hQ
    simp only [vCells] at e1 l1 hQ
    simp [c_value_Real, str_nil, f_subn (sub_self hf), ford00, f_add (add_nought ha hf), e1, l1]
    exact ⟨_, res_cell (by decide) (by simp) l1, hQ _ _ ⟨rfl, g1⟩⟩
  · have er : realC a = vCells 0 0 0 [] := by unfold realC; rw [if_neg (show ¬ rg a < 9218868437227405312 from hf)]
    rw [er] at hQ
    simp [c_value_Real, str_nil, f_subx (sub_none hf)]
    have r0 := RowAt.new h (vCells 0 0 0 []) 0
    have g0 := Grow.new h (vCells 0 0 0 []) 0
    obtain ⟨H, hH⟩ : ∃ H, hnew h (vCells 0 0 0 []) 0 = H := ⟨_, rfl⟩
    rw [hH] at r0 g0
    have hH' : hnew h [Value.int .i64 0, .int .i64 0, .float .f64 0, .string (bstr [])] 0 = H := hH
    rw [hH']
    refine got_call None_spec ?_
    rintro _ h1 ⟨rfl, g1⟩
    obtain ⟨h2, e2, r2, c2, n2⟩ := (r0.grow g1).storeN (vCells 0 0 0 []) 0 (Nat.le_refl _) rfl
    have e3 : (vCells 0 0 0 []).take 0 ++ vCells 0 0 0 [] ++ (vCells 0 0 0 []).drop (0 + (vCells 0 0 0 []).length) = vCells 0 0 0 [] := rfl
    rw [e3] at r2
    have l2 := loadN_row_all r2 (n := 4) rfl
    have gg : Grow h h2 := (g0.trans g1).after c2 fun b hb e => by omega
    simp only [vCells] at e2 l2 hQ
    simp [vCells, e2, l2]
    exact ⟨_, res_cell (by decide) (by simp) l2, hQ _ _ ⟨rfl, gg⟩⟩

theorem sign_spec {h : Heap} {a : Nat} (hf : fin a) : Gives P T (.fn F_colonnaderef05_sign) [.float .f64 a] h fun v h' => v = .float .f64 (if V a < 0 then 13830554455654793216 else 4607182418800017408) ∧ h' = h := by
  refine gives_by t_colonnaderef05_sign (by simp [c_colonnaderef05_sign]) fun Q hQ => ?_
  have f0 : fin 0 := by unfold fin rg; omega
  have e := fin_lt hf f0
  rw [show V 0 = 0 from V_zero.2 rfl] at e
  simp [c_colonnaderef05_sign, e]
  refine branch_dec (fun h1 => ?_) (fun h1 => ?_)
  · rw [if_pos h1] at hQ
    simp
    exact hQ _ _ ⟨rfl, rfl⟩
  · rw [if_neg h1] at hQ
    simp
    exact hQ _ _ ⟨rfl, rfl⟩

theorem refReal_spec {h : Heap} {a : Nat} (ha : a < 18446744073709551616) : Gives P T (.fn F_colonnaderef05_Real) [.float .f64 a] h fun v h' => v = .agg (realC a).toArray ∧ Grow h h' := by
  refine gives_by t_colonnaderef05_Real (by simp [c_colonnaderef05_Real]) fun Q hQ => ?_
  have r0 := RowAt.new h (vCells 0 0 0 []) 0
  have g0 := Grow.new h (vCells 0 0 0 []) 0
  obtain ⟨H, hH⟩ : ∃ H, hnew h (vCells 0 0 0 []) 0 = H := ⟨_, rfl⟩
  rw [hH] at r0 g0
  have hH' : hnew h [Value.int .i64 0, .int .i64 0, .float .f64 0, .string (bstr [])] 0 = H := hH
  have st : ∀ m : List Value, m.length = 4 → m.all goodC = true → ∃ h2, storeN H ⟨h.dyn.length, 0, some 0⟩ m = some h2 ∧ loadN h2 ⟨h.dyn.length, 0, some 0⟩ 4 = some m ∧ Grow h h2 := fun m hm hg => by
    obtain ⟨h2, e2, r2, c2, n2⟩ := r0.storeN m 0 (by rw [hm]; exact Nat.le_refl _) hg
    have e3 : (vCells 0 0 0 []).take 0 ++ m ++ (vCells 0 0 0 []).drop (0 + m.length) = m := by rw [hm, List.take_zero, List.nil_append]; exact List.append_nil _
    rw [e3] at r2
    exact ⟨h2, e2, loadN_row_all r2 hm.symm, g0.after c2 fun b hb e => by omega⟩
  simp [c_colonnaderef05_Real, str_nil, hH']
  refine got_call IsNaN_spec ?_
  rintro _ _ ⟨rfl, rfl⟩
  rename_i H
  by_cases hf : fin a
  · have er : realC a = vCells 3 0 (made a) [] := by unfold realC; rw [if_pos (show rg a < 9218868437227405312 from hf)]
    rw [er] at hQ
    have n1 : ¬ 9218868437227405312 < rg a := by unfold fin at hf; omega
    have n2 : ¬ rg a = 9218868437227405312 := by unfold fin at hf; omega
    obtain ⟨h2, e2, l2, g2⟩ := st (vCells 3 0 (made a) []) rfl rfl
    simp only [vCells] at e2 l2 hQ
    simp [n1]
    refine got_call (IsInf_spec ha) ?_
    rintro _ _ ⟨rfl, rfl⟩
    rename_i H
    simp [n2, zero_iff]
    by_cases hz : rg a = 0
    · have em : made a = 0 := by unfold made; rw [if_pos hz]
      rw [em] at e2 l2 hQ
      have f0 : fin 0 := by unfold fin rg; omega
      simp [hz]
      refine got_call (Abs_spec (a := 0) (by omega)) ?_
      rintro _ _ ⟨rfl, rfl⟩
      rename_i H
      simp
      refine got_call (sign_spec f0) ?_
      rintro _ _ ⟨rfl, rfl⟩
      rename_i H
      have v0 : ¬ V 0 < 0 := by rw [show V 0 = 0 from V_zero.2 rfl]; omega
      have rg0 : rg 0 = 0 := rfl
      rw [if_neg v0]
      simp [rg0, f_mul mul_nought, e2, l2]
      exact ⟨_, res_cell (by decide) (by simp) l2, hQ _ _ ⟨rfl, g2⟩⟩
    · have em : made a = a := by unfold made; rw [if_neg hz]
      rw [em] at e2 l2 hQ
      simp [hz]
      refine got_call (Abs_spec ha) ?_
      rintro _ _ ⟨rfl, rfl⟩
      rename_i H
      simp
      refine got_call (sign_spec hf) ?_
      rintro _ _ ⟨rfl, rfl⟩
      rename_i H
      have hm : 0 < mag a := Nat.pos_of_ne_zero fun e => hz (mag_zero.1 e)
      have e3 : (if V a < 0 then 13830554455654793216 else 4607182418800017408) = (if sgn a = true then 13830554455654793216 else 4607182418800017408 : Nat) := by
        cases hs : sgn a with
        | true => rw [if_pos (by rw [V_neg hs]; omega), if_pos rfl]
        | false => rw [if_neg (by rw [V_pos hs]; omega), if_neg (by simp)]
      have e4 := mul_one hf hz (sgn a)
      rw [word_self ha] at e4
      rw [e3]
      simp [f_mul e4, e2, l2]
      exact ⟨_, res_cell (by decide) (by simp) l2, hQ _ _ ⟨rfl, g2⟩⟩
  · have er : realC a = vCells 0 0 0 [] := by unfold realC; rw [if_neg (show ¬ rg a < 9218868437227405312 from hf)]
    rw [er] at hQ
    obtain ⟨h2, e2, l2, g2⟩ := st (vCells 0 0 0 []) rfl rfl
    simp only [vCells] at e2 l2 hQ
    by_cases h1 : 9218868437227405312 < rg a
    · simp [h1, skipV, e2, l2, str_nil]
      exact ⟨_, res_cell (by decide) (by simp) l2, hQ _ _ ⟨rfl, g2⟩⟩
    · have h3 : rg a = 9218868437227405312 := by unfold fin at hf; omega
      simp [h1]
      refine got_call (IsInf_spec ha) ?_
      rintro _ _ ⟨rfl, rfl⟩
      rename_i H
      simp [h3, e2, l2, str_nil]
      exact ⟨_, res_cell (by decide) (by simp) l2, hQ _ _ ⟨rfl, g2⟩⟩


theorem same_f (a : Nat) : vsame (.float .f64 a) (some (.float .f64 a)) = true := by
  simp [vsame, veqN]

/-- Same tells just the same fields. -/
def sameV (k i : Int) (a : Nat) (bs : List (BitVec 8)) (k' i' : Int) (a' : Nat) (bs' : List (BitVec 8)) : Bool :=
  decide (k = k') && decide (i = i') && decide (bs = bs') && decide (a = a')

theorem Same_spec {h : Heap} {k i k' i' : Int} {a a' : Nat} {bs bs' : List (BitVec 8)} : Gives P T (.fn F_colonnaderef05_Same) [.agg (vCells k i a bs).toArray, .agg (vCells k' i' a' bs').toArray] h fun v h' => v = .bool (sameV k i a bs k' i' a' bs') ∧ Grow h h' := by
  refine gives_by t_colonnaderef05_Same (by simp [c_colonnaderef05_Same]) fun Q hQ => ?_
  have r := RowAt.new h (vCells k i a bs) 0
  have g1 := Grow.new h (vCells k i a bs) 0
  obtain ⟨G, hG⟩ : ∃ G, hnew h (vCells k i a bs) 0 = G := ⟨_, rfl⟩
  rw [hG] at r g1
  have r' := RowAt.new G (vCells k' i' a' bs') 0
  have g2 := Grow.new G (vCells k' i' a' bs') 0
  obtain ⟨H, hH⟩ : ∃ H, hnew G (vCells k' i' a' bs') 0 = H := ⟨_, rfl⟩
  rw [hH] at r' g2
  have rr := r.grow g2
  have a0 := rr.get (i := 0) (x := .int .i64 k) rfl
  have a1 := rr.get (i := 1) (x := .int .i64 i) rfl
  have a2 := rr.get (i := 2) (x := .float .f64 a) rfl
  have a3 := rr.get (i := 3) (x := .string (bstr bs)) rfl
  have b0 := r'.get (i := 0) (x := .int .i64 k') rfl
  have b1 := r'.get (i := 1) (x := .int .i64 i') rfl
  have b2 := r'.get (i := 2) (x := .float .f64 a') rfl
  have b3 := r'.get (i := 3) (x := .string (bstr bs')) rfl
  have gg := g1.trans g2
  rcases Bool.eq_false_or_eq_true (decide (k = k')) with e0 | e0
  all_goals rcases Bool.eq_false_or_eq_true (decide (i = i')) with e1 | e1
  all_goals rcases Bool.eq_false_or_eq_true (decide (bs = bs')) with e2 | e2
  all_goals simp [c_colonnaderef05_Same, hG, hH, a0, a1, a2, a3, b0, b1, b2, b3, e0, e1, e2, skipV]
  all_goals first
    | (refine got_call bits_spec ?_; rintro _ _ ⟨rfl, rfl⟩; simp [a0, a1, a2, a3, b0, b1, b2, b3, pushP_in, same_f]; refine got_call bits_spec ?_; rintro _ _ ⟨rfl, rfl⟩; simp [a0, a1, a2, a3, b0, b1, b2, b3, pushP_in, same_f]; exact hQ _ _ ⟨by unfold sameV; rw [e0, e1, e2]; congr 1; rw [Bool.eq_iff_iff]; simp; omega, gg⟩)
    | exact hQ _ _ ⟨by unfold sameV; rw [e0, e1, e2]; simp, gg⟩

end Go.Ax
