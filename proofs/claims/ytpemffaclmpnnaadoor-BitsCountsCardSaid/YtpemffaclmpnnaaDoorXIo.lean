/- An abstract machine for Go programs: slices that come in, opened. -/
import Derived.Test.YtpemffaclmpnnaaDoorXJ
import Derived.ProofKit
import Derived.OpenShut
import Derived.WideShapes
import Derived.ChangeSlices
namespace Go.Ax
open Go.ChangeShapes Go.WideShapes Go.ChangeAt Go.RowKit
set_option linter.unusedVariables false
set_option linter.unusedSimpArgs false

section
variable {H : Type} {enc : TypeId × Value → H} {P : Program} {W : World}

/-- A slice in the model's memory that reads as l. -/
def ArgM (W : World) (b : Option Addr) (len : Nat) (l : List Value) : Prop :=
  (b = none ∧ len = 0 ∧ l = []) ∨ ∃ x, b = some x ∧ x.spot = none ∧ l.length = len ∧ ∀ i y, l[i]? = some y → W.cell? ⟨x.block, x.off + i, none⟩ = some y

theorem pick_list {α : Type} {R : Nat → α → Prop} : ∀ n, (∀ i, i < n → ∃ z, R i z) → ∃ zs : List α, zs.length = n ∧ ∀ i, i < n → ∃ z, zs[i]? = some z ∧ R i z
  | 0, _ => ⟨[], rfl, fun i hi => by omega⟩
  | m + 1, h => by
    obtain ⟨zs, h1, h2⟩ := pick_list m fun i hi => h i (by omega)
    obtain ⟨z, hz⟩ := h m (by omega)
    refine ⟨zs ++ [z], by simp [h1], fun i hi => ?_⟩
    by_cases him : i < m
    · obtain ⟨y, h3, h4⟩ := h2 i him
      exact ⟨y, by rw [List.getElem?_append_left (by omega)]; exact h3, h4⟩
    · have : i = m := by omega
      subst this
      exact ⟨z, by rw [List.getElem?_append_right (by omega), h1]; simp, hz⟩

theorem open_arg {α : Type} (val : α → Value) {t e : TypeId} {base : Nat} {v : Value} {d : DataW H} {p : List MemPlace} (ht : P.underlying t = some (.slice e)) (hc : P.cellsOf e = 1)
    (one : ∀ n cs y, DataW.trod enc P W 0 (fun _ => true) true n e cs = some y → ∃ a, cs = [val a]) (hval : Value.okWide P W .any base t v) (hd : DataW.Trod enc P W 0 (fun _ => true) true t v d p) :
    ∃ (b : Option Addr) (len cap : Nat) (zs : List α), v = .slice b len cap ∧ len ≤ cap ∧ (b = none → cap = 0) ∧ ArgM W b len (zs.map val) := by
  obtain ⟨b, len, cap, rfl⟩ := okWide_slice ht hval
  obtain ⟨fuel, hf⟩ := hd
  rcases DataW.trod_slice ht hf with ⟨h1, _⟩ | ⟨a, len', cap', elems, rest, n, _, h1, _, _, hle, _, hlen, hel, _, _⟩
  · simp [Value.cells] at h1
    obtain ⟨rfl, rfl, rfl⟩ := h1
    exact ⟨none, 0, 0, [], rfl, Nat.le_refl _, fun _ => rfl, .inl ⟨rfl, rfl, rfl⟩⟩
  · simp [Value.cells] at h1
    obtain ⟨rfl, rfl, rfl⟩ := h1
    have hs : a.spot = none := by
      simp only [Value.okWide, ht, Cell.okWide, Cell.ok] at hval
      exact hval.2.2.2.1
    have each : ∀ i, i < len → ∃ z : α, W.cell? (a.add i) = some (val z) := by
      intro i hi
      have h2 := hel i hi
      rw [hc, Nat.mul_one, List.getElem?_eq_getElem (by omega), Option.bind_eq_some_iff] at h2
      obtain ⟨cs', hcs, hy⟩ := h2
      obtain ⟨z, rfl⟩ := one _ _ _ hy
      exact ⟨z, cell_of_cells?_one hcs⟩
    have := pick_list len each
    obtain ⟨zs, hz, hcell⟩ := this
    refine ⟨some a, len, cap, zs, rfl, hle, ⟨(fun h => absurd h (by simp)), .inr ⟨a, rfl, hs, by simp [hz], fun i y hy => ?_⟩⟩⟩
    rw [List.getElem?_map, Option.map_eq_some_iff] at hy
    obtain ⟨z, hzi, rfl⟩ := hy
    obtain ⟨z', h3, h4⟩ := hcell i (by rw [← hz]; exact (List.getElem?_eq_some_iff.1 hzi).1)
    rw [hzi] at h3
    obtain rfl := Option.some.inj h3
    rw [addr_add a hs] at h4
    exact h4

/-- The abstract slice for argument k. -/
def argV (k : Nat) (b : Option Addr) (len : Nat) : Value := match b with | none => .slice none 0 0 | some _ => .slice (some ⟨4294967296 + k, 0, none⟩) len gcap

theorem arg_rel {B : Nat → Addr} {k : Nat} {b : Option Addr} {len cap : Nat} {l : List Value} (m : ArgM W b len l) (hle : len ≤ cap) (hB : ∀ x, b = some x → B k = x) (hn : b = none → cap = 0) :
    VRel (ghost0 fun b => B (b - 4294967296)) (argV k b len) (.slice b len cap) := by
  rcases m with ⟨rfl, rfl, _⟩ | ⟨x, rfl, hs, _, _⟩
  · rw [hn rfl]; exact .sliN 0 0
  · refine .sliU len cap ⟨hs, ?_⟩ hle (fun v h => by simp at h)
    simp only [roA]
    rw [if_neg (by omega)]
    simp only [ghost0, Nat.add_sub_cancel_left, hB x rfl]
    exact ⟨trivial, by omega⟩

end
end Go.Ax
