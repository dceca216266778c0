/- Seat value: Fits; the law ValueMays. -/
import Derived.Test.YtpkllocdpgfboaaVC
namespace Go.Ax
open Go.Proofs
set_option linter.unusedVariables false
set_option linter.unusedSimpArgs false

/-- A column's fields. -/
def colCells (nm : ByteArray) (ty : Int) (nl : Bool) : List Value := [.string nm, .int .i64 ty, .bool nl]

def fitsB (k i : Int) (a n : Nat) (ty : Int) (nl : Bool) : Bool := mayB k i a n && (decide (k = ty) || decide (k = 0) && nl)

theorem Fits_spec {h : Heap} {k i : Int} {a : Nat} {bs : List (BitVec 8)} (ha : a < 18446744073709551616) (nm : ByteArray) (ty : Int) (nl : Bool) :
    Gives P T (.fn F_value_Fits) [.agg (colCells nm ty nl).toArray, .agg (vCells k i a bs).toArray] h fun v h' => v = .bool (fitsB k i a bs.length ty nl) ∧ Grow h h' := by
  refine gives_by t_value_Fits (by simp [c_value_Fits]) fun Q hQ => ?_
  have g1 := Grow.new h (colCells nm ty nl) 0
  have r1 := RowAt.new h (colCells nm ty nl) 0
  have g2 := Grow.new (hnew h (colCells nm ty nl) 0) (vCells k i a bs) 0
  have r2 := RowAt.new (hnew h (colCells nm ty nl) 0) (vCells k i a bs) 0
  have l2 := loadN_row_all r2 (n := 4) rfl
  simp at l2
  simp [c_value_Fits, l2]
  refine got_call (May_spec ha) ?_
  rintro _ h3 ⟨rfl, g3⟩
  have c1 := (r1.grow g2).grow g3
  have c2 := r2.grow g3
  have k0 := c2.get (i := 0) (x := .int .i64 k) rfl
  have k1 := c1.get (i := 1) (x := .int .i64 ty) rfl
  have k2 := c1.get (i := 2) (x := .bool nl) rfl
  simp at k0 k1 k2
  have G := (g1.trans g2).trans g3
  unfold fitsB at hQ
  generalize mayB k i a bs.length = m at hQ
  cases m
  · simp [skipV]
    exact hQ _ _ ⟨rfl, G⟩
  · by_cases h1 : k = ty
    · simp [k0, k1, h1, skipV]
      exact hQ _ _ ⟨by simp [h1], G⟩
    · by_cases h2 : k = 0
      · subst h2
        simp [k0, k1, k2, h1, skipV]
        exact hQ (.bool nl) _ ⟨by simp [h1], G⟩
      · simp [k0, k1, k2, h1, h2, skipV]
        exact hQ _ _ ⟨by simp [h1, h2], G⟩

theorem refFits_spec {h : Heap} {k i : Int} {a : Nat} {bs : List (BitVec 8)} (ha : a < 18446744073709551616) (nm : ByteArray) (ty : Int) (nl : Bool) :
    Gives P T (.fn F_colonnaderef05_Fits) [.agg (colCells nm ty nl).toArray, .agg (vCells k i a bs).toArray] h fun v h' => v = .bool (fitsB k i a bs.length ty nl) ∧ Grow h h' := by
  refine gives_by t_colonnaderef05_Fits (by simp [c_colonnaderef05_Fits]) fun Q hQ => ?_
  have g1 := Grow.new h (colCells nm ty nl) 0
  have r1 := RowAt.new h (colCells nm ty nl) 0
  have g2 := Grow.new (hnew h (colCells nm ty nl) 0) (vCells k i a bs) 0
  have r2 := RowAt.new (hnew h (colCells nm ty nl) 0) (vCells k i a bs) 0
  have l2 := loadN_row_all r2 (n := 4) rfl
  simp at l2
  simp [c_colonnaderef05_Fits, l2]
  refine got_call (refMay_spec ha) ?_
  rintro _ h3 ⟨rfl, g3⟩
  have c1 := (r1.grow g2).grow g3
  have c2 := r2.grow g3
  have k0 := c2.get (i := 0) (x := .int .i64 k) rfl
  have k1 := c1.get (i := 1) (x := .int .i64 ty) rfl
  have k2 := c1.get (i := 2) (x := .bool nl) rfl
  simp at k0 k1 k2
  have G := (g1.trans g2).trans g3
  unfold fitsB at hQ
  generalize mayB k i a bs.length = m at hQ
  cases m
  · simp [skipV]
    exact hQ _ _ ⟨rfl, G⟩
  · by_cases h1 : k = ty
    · simp [k0, k1, h1, skipV]
      exact hQ _ _ ⟨by simp [h1], G⟩
    · by_cases h2 : k = 0
      · subst h2
        simp [k0, k1, k2, h1, skipV]
        exact hQ (.bool nl) _ ⟨by simp [h1], G⟩
      · simp [k0, k1, k2, h1, h2, skipV]
        exact hQ _ _ ⟨by simp [h1, h2], G⟩

theorem same_v (k i : Int) (a : Nat) (bs : List (BitVec 8)) : vsame (.agg (vCells k i a bs).toArray) (some (.agg (vCells k i a bs).toArray)) = true := by
  simp [vsame, veqN, vCells]
theorem same_c (nm : ByteArray) (ty : Int) (nl : Bool) : vsame (.agg (colCells nm ty nl).toArray) (some (.agg (colCells nm ty nl).toArray)) = true := by
  simp [vsame, veqN, colCells]

theorem mays_spec {h : Heap} {k i : Int} {a : Nat} {bs : List (BitVec 8)} (ha : a < 18446744073709551616) (nm : ByteArray) (ty : Int) (nl : Bool) :
    Gives P T (.fn F_colonnadelaw05_ValueMays) [.agg (colCells nm ty nl).toArray, .agg (vCells k i a bs).toArray] h fun v h' => v = .bool true := by
  refine gives_by t_colonnadelaw05_ValueMays (by simp [c_colonnadelaw05_ValueMays]) fun Q hQ => ?_
  have r1 := RowAt.new h (colCells nm ty nl) 0
  have g2 := Grow.new (hnew h (colCells nm ty nl) 0) (vCells k i a bs) 0
  have r2 := RowAt.new (hnew h (colCells nm ty nl) 0) (vCells k i a bs) 0
  have r1 := r1.grow g2
  have ld : ∀ h', Grow (hnew (hnew h (colCells nm ty nl) 0) (vCells k i a bs) 0) h' → loadN h' ⟨h.dyn.length + 1, 0, some 0⟩ 4 = some (vCells k i a bs) ∧ loadN h' ⟨h.dyn.length, 0, some 0⟩ 3 = some (colCells nm ty nl) := fun h' g => by
    have l2 := loadN_row_all (r2.grow g) (n := 4) rfl
    have l1 := loadN_row_all (r1.grow g) (n := 3) rfl
    simp at l2 l1
    exact ⟨l2, l1⟩
  obtain ⟨l2, l1⟩ := ld _ (Chg.refl _)
  simp [c_colonnadelaw05_ValueMays, l2]
  refine got_call (May_spec ha) ?_
  rintro _ h3 ⟨rfl, g3⟩
  obtain ⟨a2, a1⟩ := ld h3 g3
  simp [a2, l2, pushP_in, same_v]
  refine got_call (refMay_spec ha) ?_
  rintro _ h4 ⟨rfl, g4⟩
  obtain ⟨b2, b1⟩ := ld h4 (g3.trans g4)
  simp [a2, l2, b2, b1, a1, pushP_in, same_v, same_c]
  refine got_call (Fits_spec ha nm ty nl) ?_
  rintro _ h5 ⟨rfl, g5⟩
  obtain ⟨d2, d1⟩ := ld h5 ((g3.trans g4).trans g5)
  simp [a2, l2, b2, b1, a1, d2, d1, pushP_in, same_v, same_c]
  refine got_call (refFits_spec ha nm ty nl) ?_
  rintro _ h6 ⟨rfl, g6⟩
  simp [pushP_in]
  exact hQ _ _ rfl

end Go.Ax
