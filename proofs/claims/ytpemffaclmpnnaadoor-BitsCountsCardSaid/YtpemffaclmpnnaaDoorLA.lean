/- Seat bits: words on arguments, for the laws. -/
import Derived.Test.YtpemffaclmpnnaaDoorLB
import Derived.Test.YtpemffaclmpnnaaDoorYG
import Derived.Test.YtpemffaclmpnnaaDoorXIo
import Derived.Below
namespace Go.Proofs.YtpemffaclmpnnaaDoor
open Go.ChangeShapes Go.WideShapes Go.ChangeAt Go.RowKit
open Go.Ax (tabL tabG ArgM ArgS argV)
set_option linter.unusedVariables false
set_option maxRecDepth 1000000

theorem args_ro {W : World} {bs : List (Option Addr)} {lens : List Nat} {ls : List (List Value)} {B : Nat → Addr}
    (hall : ∀ k l, ls[k]? = some l → ∃ b n, ArgM W b n l ∧ (∀ x, b = some x → B k = x) ∧ ∀ y ∈ l, Go.Ax.plain y = true) :
    ∀ k o x, (ls.getD k [])[o]? = some x → Go.Ax.plain x = true ∧ (B k).block < W.heap.size ∧ W.cell? ⟨(B k).block, (B k).off + o, none⟩ = some x := by
  intro k o x hx
  rw [List.getD_eq_getElem?_getD] at hx
  cases hl : ls[k]? with
  | none => simp [hl] at hx
  | some l =>
    simp only [hl, Option.getD_some] at hx
    obtain ⟨b, n, m, hB, hp⟩ := hall k l hl
    rcases m with ⟨_, _, rfl⟩ | ⟨a, rfl, hs, hlen, hc⟩
    · simp at hx
    · rw [hB a rfl]
      have := hc o x hx
      exact ⟨hp x (List.mem_of_getElem? hx), cell_lt this, this⟩

theorem argS_of {W : World} {b : Option Addr} {n : Nat} {l : List Value} {k : Nat} {L : Nat → List Value} (m : ArgM W b n l) (hL : L k = l) : ArgS (Go.Ax.heap0 (Go.Ax.roBlk tabG L)) (argV k b n) l := by
  rcases m with ⟨rfl, rfl, rfl⟩ | ⟨a, rfl, hs, rfl, hc⟩
  · exact .inl ⟨rfl, rfl⟩
  · refine .inr ⟨4294967296 + k, 0, rfl, fun i x hx => ?_⟩
    show Go.Ax.roBlk tabG L (4294967296 + k) (0 + i) = some x
    rw [Go.Ax.roBlk_hi, hL, Nat.zero_add]; exact hx

theorem one_bool {H : Type} {enc : TypeId × Value → H} {W : World} {t : TypeId} (ht : Tryd.prog.underlying t = some .bool) : ∀ n cs y, DataW.trod enc Tryd.prog W 0 (fun _ => true) true n t cs = some y → ∃ a : Bool, cs = [.bool a] := by
  intro n cs y h
  obtain ⟨b, h1, _⟩ := DataW.trod_bool ht h
  exact ⟨b, h1⟩

theorem plain_bools (l : List Bool) : ∀ y ∈ l.map Value.bool, Go.Ax.plain y = true := by
  intro y hy
  rw [List.mem_map] at hy
  obtain ⟨b, _, rfl⟩ := hy
  rfl

end Go.Proofs.YtpemffaclmpnnaaDoor
