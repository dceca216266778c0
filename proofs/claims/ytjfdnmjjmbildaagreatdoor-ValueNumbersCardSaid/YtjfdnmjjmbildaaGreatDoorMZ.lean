/- The machine: floats and strings that come in. -/
import Derived.Test.YtjfdnmjjmbildaaGreatDoorMO
import Derived.Test.YtjfdnmjjmbildaaGreatDoorMS
namespace Go.Ax
open Go.ChangeShapes Go.WideShapes Go.ChangeAt Go.RowKit
set_option linter.unusedVariables false
set_option linter.unusedSimpArgs false

section
variable {H : Type} {enc : TypeId × Value → H} {P : Program} {w : World} {base : Nat} {sp : Nat → Bool} {held : Bool} {fuel : Nat} {t : TypeId} {cs : List Value} {x : DataW H × List MemPlace}

theorem trod_float {k : FloatKind} (ht : P.underlying t = some (.float k)) (h : DataW.trod enc P w base sp held fuel t cs = some x) : ∃ n, cs = [.float k n] ∧ x = (.lit (.float k n), []) ∧ (Lit.float k n).wf = true := by
  cases fuel with
  | zero => simp [DataW.trod] at h
  | succ n =>
    unfold DataW.trod at h
    rw [ht] at h
    split at h <;> simp_all

theorem open_f64 {r : Reach} {b0 : Nat} {v : Value} {d : DataW H} {ps : List MemPlace} (ht : P.underlying t = some (.float .f64)) (hval : Value.okWide P w r b0 t v) (hd : DataW.Trod enc P w base sp held t v d ps) :
    ∃ a : Nat, v = .float .f64 a ∧ d = .lit (.float .f64 a) ∧ ps = [] ∧ a < 18446744073709551616 := by
  obtain ⟨fuel, hf⟩ := hd
  obtain ⟨a, h1, h2, h3⟩ := trod_float ht hf
  have hv : v = .float .f64 a := by
    unfold Value.okWide at hval
    rw [ht] at hval
    cases v <;> first | (simp [Value.cells] at h1; done) | skip
    all_goals simp_all [Value.cells, Cell.okWide, Cell.ok]
  subst hv
  obtain ⟨rfl, rfl⟩ := Prod.mk.inj h2
  exact ⟨a, rfl, rfl, rfl, by simpa [Lit.wf] using h3⟩

theorem shut_f64 {a : Nat} (ht : P.underlying t = some (.float .f64)) (ha : a < 18446744073709551616) : DataW.Trod enc P w base sp held t (.float .f64 a) (.lit (.float .f64 a)) [] :=
  ⟨1, by simp [DataW.trod, Value.cells, ht, Lit.wf, ha]⟩

theorem str_of (s : ByteArray) : ∃ bs : List (BitVec 8), s = bstr bs := by
  refine ⟨s.data.toList.map UInt8.toBitVec, ?_⟩
  unfold bstr
  apply ByteArray.ext
  have : UInt8.ofBitVec ∘ UInt8.toBitVec = id := by funext x; rfl
  simp [this]
end
end Go.Ax
