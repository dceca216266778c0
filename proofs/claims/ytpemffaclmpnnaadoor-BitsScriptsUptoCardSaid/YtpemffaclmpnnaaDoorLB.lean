/- Seat bits: the package's table, as the rows lay it. -/
import Derived.Test.YtpemffaclmpnnaaDoorRows
import Derived.Test.YtpemffaclmpnnaaDoorYT
import Derived.Test.YtpemffaclmpnnaaDoorXK
import Derived.ProofKit
import Derived.LaidLaws
import Derived.Handed
import Derived.Lay
import Derived.OpenShut
namespace Go.Proofs.YtpemffaclmpnnaaDoor
open Go.ChangeShapes Go.WideShapes Go.ChangeAt Go.RowKit
open Go.Ax (tabL tabG)
set_option maxRecDepth 1000000
set_option linter.unusedVariables false

theorem own : ownKnob Tryd.prog.godebug = none := by kernel_rfl
theorem laidOut : laidOutB Tryd.prog = true := by kernel_rfl

def laidL : List (String × DataW Unit) := [("math/bits.deBruijn64tab", Rows.laid_math_bits_deBruijn64tab)]

theorem of_gl {α β γ : Type} {o : Option α} {f : α → β} {g : β → γ} {b : β} {c : γ} (h : o.map f = some b) (k : o.map (fun x => g (f x)) = some c) : g b = c := by
  cases o with
  | none => cases h
  | some x => cases h; exact Option.some.inj k

/-- The table's cells. -/
theorem tab_of_laid {W : World} (h : laidMet Tryd.prog laidL W) : W.var? Tryd.prog "math/bits.deBruijn64tab" = some tabL.toArray := by
  obtain ⟨ps, ⟨g, t, cs, fuel, p, q, hg, ht, hv, hd, _, _⟩, _, _⟩ := h
  obtain rfl := Option.some.inj ((show Tryd.prog.globalNamed "math/bits.deBruijn64tab" = some 0 by kernel_rfl).symm.trans hg)
  obtain ⟨tt, htt⟩ : ∃ tt, (Tryd.prog.globals[0]?).map (·.type) = some tt := ⟨_, ht⟩
  obtain rfl := Option.some.inj (htt.symm.trans ht)
  have hu : Tryd.prog.underlying tt = some (.array 64 5) := of_gl htt (show (Tryd.prog.globals[0]?).map (fun g => Tryd.prog.underlying g.type) = some (some (.array 64 5)) by kernel_rfl)
  have hc : Tryd.prog.cellsOf tt = 64 := of_gl htt (show (Tryd.prog.globals[0]?).map (fun g => Tryd.prog.cellsOf g.type) = some 64 by kernel_rfl)
  have c5 : Tryd.prog.cellsOf 5 = 1 := by kernel_rfl
  obtain ⟨xs, m, _, ex, hlen, hl, hel⟩ := DataW.trod_array hu hd
  rw [hc] at hlen
  have e3 := DataW.agg.inj (Prod.mk.inj ex).1
  rw [hv]
  congr 1
  obtain ⟨l⟩ := cs
  simp only at hlen hel
  congr 1
  apply List.ext_getElem?
  intro i
  by_cases hi : i < 64
  · have k := hel i hi
    rw [c5, Nat.mul_one] at k
    have hx : i < xs.length := by omega
    rw [List.getElem?_eq_getElem hx] at k
    have hll : i < l.length := by omega
    have e1 : (l.drop i).take 1 = [l[i]] := by
      rw [List.drop_eq_getElem_cons hll]; rfl
    rw [e1] at k
    obtain ⟨z, a0, b0, _⟩ := DataW.trod_int Tryd.underlying5 k
    have e2 : (xs.map (·.1))[i]? = some (.lit (.int .u8 z)) := by
      rw [List.getElem?_map, List.getElem?_eq_getElem hx, b0]; rfl
    rw [← e3] at e2
    rw [List.getElem?_eq_getElem hll]
    have e4 : l[i] = .int .u8 z := by simpa using a0
    rw [e4]
    have key : ∀ j, j < 64 → ∀ z, (match (Rows.laid_math_bits_deBruijn64tab : DataW Unit) with | .agg l => l | _ => [])[j]? = some (.lit (.int .u8 z)) → tabL[j]? = some (.int .u8 z) := by
      intro j hj z hz
      rcases j with _ | _ | _ | _ | _ | _ | _ | _ | _ | _ | _ | _ | _ | _ | _ | _ | _ | _ | _ | _ | _ | _ | _ | _ | _ | _ | _ | _ | _ | _ | _ | _ | _ | _ | _ | _ | _ | _ | _ | _ | _ | _ | _ | _ | _ | _ | _ | _ | _ | _ | _ | _ | _ | _ | _ | _ | _ | _ | _ | _ | _ | _ | _ | _ | j
      all_goals first
        | (simp [Rows.laid_math_bits_deBruijn64tab] at hz; subst hz; rfl)
        | omega
    rw [← key i hi z e2]
  · rw [List.getElem?_eq_none (by omega), List.getElem?_eq_none (by simp [tabL]; omega)]

theorem cell_lt {W : World} {b o : Nat} {x : Value} (h : W.cell? ⟨b, o, none⟩ = some x) : b < W.heap.size := by
  by_cases hb : b < W.heap.size
  · exact hb
  · exfalso
    simp [World.cell?, Array.getElem?_eq_none (Nat.le_of_not_lt hb)] at h

theorem tab_ro {W : World} (h : laidMet Tryd.prog laidL W) : ∀ b o x, tabG b o = some x → Go.Ax.plain x = true ∧ b < W.heap.size ∧ W.cell? ⟨b, o, none⟩ = some x := by
  intro b o x hx
  unfold tabG at hx
  split at hx
  · rename_i hb
    subst hb
    have hc := World.var?_cell (show Tryd.prog.globalNamed "math/bits.deBruijn64tab" = some 0 by kernel_rfl) (tab_of_laid h) o
    have hv : W.cell? ⟨0, o, none⟩ = some x := by rw [hc]; simpa using hx
    refine ⟨?_, cell_lt hv, hv⟩
    simp only [tabL, List.getElem?_map, Option.map_eq_some_iff] at hx
    obtain ⟨n, _, rfl⟩ := hx
    rfl
  · cases hx

theorem laid_met (os : Os) (args : Array Value) : laidMet Tryd.prog laidL ((World.laidAll Tryd.prog os laidL).forCall (fun _ _ => 0) ⟨#[], args, []⟩).memory :=
  laidMet_laidAll _ (by kernel_rfl) (by kernel_rfl)
end Go.Proofs.YtpemffaclmpnnaaDoor
