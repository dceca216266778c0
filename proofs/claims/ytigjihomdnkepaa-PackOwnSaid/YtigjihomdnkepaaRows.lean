/-
  No cell of these rows narrows 'for every input' (looked for: loops, veiled, ifaces, maps, wideKeys, modest, calm, conditions, laid).
  DERIVED. THE GIVEN ROWS OF THIS SEAT. 10 by the template 'for every input the law returns true; each argument reads behind the call as it read before'; 0 by the template 'total and deterministic' (their statements: YtigjihomdnkepaaTotals.lean).
  GIVEN WITH THE SEED: the statements are not yours to turn. If you find one false, say at which input.
  Laid BY PROGRAM, IN A SANDBOX (cutbox-rows.mjs): the forced cells as the released guide's own fill.sh prints them over the translation 3921fe2b0d7adbc0… (all of the seat's roots in one cut). By AI agents, Wed Nov 11 2026. No macro, syntax, notation, axiom, sorry.
-/
import Derived.Test.YtigjihomdnkepaaChecked
import GoSem.Claim
import GoSem.ClaimJoined
import GoSem.ClaimMapViews
import Derived.JoinedTies
import Derived.KernelRfl
namespace Go.Proofs.Ytigjihomdnkepaa
/- THE CELL 'sum', in the pinned program and in every row, IS THE sha256 OF THE DUMP (.gsa) THAT YtigjihomdnkepaaProg.lean LOADS. Nothing in Lean hashes anything: it is a label: what it is worth is what the hold of that sum in a sandbox is worth. -/
noncomputable def Try.pinned : Pinned := { name := "ytigjihomdnkepaa", sum := "3921fe2b0d7adbc09ee762079d94cafd40a4be5dd1b36a802fe8b129133a693e", checked := Try.checked }
namespace Rows
def none {H : Type} : Left H := { results := [], args := [] }

/-- 'colonnadelaw02.PackWidths': WHATEVER THE INPUT: true; the input reads as it did. -/
def packWidthsSpec : ChangeSpec := { name := "packWidths", fn := fun _ => fun
  | [d1, d2, d3] => { results := [.lit (.bool true)], args := [d1, d2, d3] }
  | _ => none }
def packWidthsRow : OpenClaim := { program := "ytigjihomdnkepaa", sum := "3921fe2b0d7adbc09ee762079d94cafd40a4be5dd1b36a802fe8b129133a693e", func := "colonnade/colonnadelaw02.PackWidths", spec := "packWidths", apart := false }
def PackWidthsSaid : Prop := packWidthsRow.holds Try.pinned (OpenSpec.ofChange packWidthsSpec)

/-- ITS FALSE NEIGHBOUR: 'it returns false'. Refute it at one input. -/
def packWidthsWrong : ChangeSpec := { name := "packWidths", fn := fun _ => fun
  | [d1, d2, d3] => { results := [.lit (.bool false)], args := [d1, d2, d3] }
  | _ => none }
def PackWidthsWrongFalsely : Prop := packWidthsRow.holds Try.pinned (OpenSpec.ofChange packWidthsWrong)

/-- 'colonnadelaw02.PackAts': WHATEVER THE INPUT: true; the input reads as it did. -/
def packAtsSpec : ChangeSpec := { name := "packAts", fn := fun _ => fun
  | [d1, d2, d3, d4] => { results := [.lit (.bool true)], args := [d1, d2, d3, d4] }
  | _ => none }
def packAtsRow : OpenClaim := { program := "ytigjihomdnkepaa", sum := "3921fe2b0d7adbc09ee762079d94cafd40a4be5dd1b36a802fe8b129133a693e", func := "colonnade/colonnadelaw02.PackAts", spec := "packAts", recurses := true, apart := false }
def PackAtsSaid : Prop := packAtsRow.holds Try.pinned (OpenSpec.ofChange packAtsSpec)

/-- ITS FALSE NEIGHBOUR: 'it returns false'. Refute it at one input. -/
def packAtsWrong : ChangeSpec := { name := "packAts", fn := fun _ => fun
  | [d1, d2, d3, d4] => { results := [.lit (.bool false)], args := [d1, d2, d3, d4] }
  | _ => none }
def PackAtsWrongFalsely : Prop := packAtsRow.holds Try.pinned (OpenSpec.ofChange packAtsWrong)

/-- 'colonnadelaw02.PackPacks': WHATEVER THE INPUT: true; the input reads as it did. -/
def packPacksSpec : ChangeSpec := { name := "packPacks", fn := fun _ => fun
  | [d1, d2] => { results := [.lit (.bool true)], args := [d1, d2] }
  | _ => none }
def packPacksRow : OpenClaim := { program := "ytigjihomdnkepaa", sum := "3921fe2b0d7adbc09ee762079d94cafd40a4be5dd1b36a802fe8b129133a693e", func := "colonnade/colonnadelaw02.PackPacks", spec := "packPacks", apart := false }
def PackPacksSaid : Prop := packPacksRow.holds Try.pinned (OpenSpec.ofChange packPacksSpec)

/-- ITS FALSE NEIGHBOUR: 'it returns false'. Refute it at one input. -/
def packPacksWrong : ChangeSpec := { name := "packPacks", fn := fun _ => fun
  | [d1, d2] => { results := [.lit (.bool false)], args := [d1, d2] }
  | _ => none }
def PackPacksWrongFalsely : Prop := packPacksRow.holds Try.pinned (OpenSpec.ofChange packPacksWrong)

/-- 'colonnadelaw02.PackUnpacks': WHATEVER THE INPUT: true; the input reads as it did. -/
def packUnpacksSpec : ChangeSpec := { name := "packUnpacks", fn := fun _ => fun
  | [d1, d2, d3] => { results := [.lit (.bool true)], args := [d1, d2, d3] }
  | _ => none }
def packUnpacksRow : OpenClaim := { program := "ytigjihomdnkepaa", sum := "3921fe2b0d7adbc09ee762079d94cafd40a4be5dd1b36a802fe8b129133a693e", func := "colonnade/colonnadelaw02.PackUnpacks", spec := "packUnpacks", recurses := true, apart := false }
def PackUnpacksSaid : Prop := packUnpacksRow.holds Try.pinned (OpenSpec.ofChange packUnpacksSpec)

/-- ITS FALSE NEIGHBOUR: 'it returns false'. Refute it at one input. -/
def packUnpacksWrong : ChangeSpec := { name := "packUnpacks", fn := fun _ => fun
  | [d1, d2, d3] => { results := [.lit (.bool false)], args := [d1, d2, d3] }
  | _ => none }
def PackUnpacksWrongFalsely : Prop := packUnpacksRow.holds Try.pinned (OpenSpec.ofChange packUnpacksWrong)

/-- 'colonnadelaw02.PackBack': WHATEVER THE INPUT: true; the input reads as it did. -/
def packBackSpec : ChangeSpec := { name := "packBack", fn := fun _ => fun
  | [d1, d2] => { results := [.lit (.bool true)], args := [d1, d2] }
  | _ => none }
def packBackRow : OpenClaim := { program := "ytigjihomdnkepaa", sum := "3921fe2b0d7adbc09ee762079d94cafd40a4be5dd1b36a802fe8b129133a693e", func := "colonnade/colonnadelaw02.PackBack", spec := "packBack", recurses := true, apart := false }
def PackBackSaid : Prop := packBackRow.holds Try.pinned (OpenSpec.ofChange packBackSpec)

/-- ITS FALSE NEIGHBOUR: 'it returns false'. Refute it at one input. -/
def packBackWrong : ChangeSpec := { name := "packBack", fn := fun _ => fun
  | [d1, d2] => { results := [.lit (.bool false)], args := [d1, d2] }
  | _ => none }
def PackBackWrongFalsely : Prop := packBackRow.holds Try.pinned (OpenSpec.ofChange packBackWrong)

/-- 'colonnadelaw02.PackWidest': WHATEVER THE INPUT: true; the input reads as it did. -/
def packWidestSpec : ChangeSpec := { name := "packWidest", fn := fun _ => fun
  | [d1, d2] => { results := [.lit (.bool true)], args := [d1, d2] }
  | _ => none }
def packWidestRow : OpenClaim := { program := "ytigjihomdnkepaa", sum := "3921fe2b0d7adbc09ee762079d94cafd40a4be5dd1b36a802fe8b129133a693e", func := "colonnade/colonnadelaw02.PackWidest", spec := "packWidest", recurses := true, apart := false }
def PackWidestSaid : Prop := packWidestRow.holds Try.pinned (OpenSpec.ofChange packWidestSpec)

/-- ITS FALSE NEIGHBOUR: 'it returns false'. Refute it at one input. -/
def packWidestWrong : ChangeSpec := { name := "packWidest", fn := fun _ => fun
  | [d1, d2] => { results := [.lit (.bool false)], args := [d1, d2] }
  | _ => none }
def PackWidestWrongFalsely : Prop := packWidestRow.holds Try.pinned (OpenSpec.ofChange packWidestWrong)

/-- 'colonnadelaw02.PackForm': WHATEVER THE INPUT: true; the input reads as it did. -/
def packFormSpec : ChangeSpec := { name := "packForm", fn := fun _ => fun
  | [d1, d2, d3] => { results := [.lit (.bool true)], args := [d1, d2, d3] }
  | _ => none }
def packFormRow : OpenClaim := { program := "ytigjihomdnkepaa", sum := "3921fe2b0d7adbc09ee762079d94cafd40a4be5dd1b36a802fe8b129133a693e", func := "colonnade/colonnadelaw02.PackForm", spec := "packForm", recurses := true, apart := false }
def PackFormSaid : Prop := packFormRow.holds Try.pinned (OpenSpec.ofChange packFormSpec)

/-- ITS FALSE NEIGHBOUR: 'it returns false'. Refute it at one input. -/
def packFormWrong : ChangeSpec := { name := "packForm", fn := fun _ => fun
  | [d1, d2, d3] => { results := [.lit (.bool false)], args := [d1, d2, d3] }
  | _ => none }
def PackFormWrongFalsely : Prop := packFormRow.holds Try.pinned (OpenSpec.ofChange packFormWrong)

/-- 'colonnadelaw02.PackJoins': WHATEVER THE INPUT: true; the input reads as it did. -/
def packJoinsSpec : ChangeSpec := { name := "packJoins", fn := fun _ => fun
  | [d1, d2, d3] => { results := [.lit (.bool true)], args := [d1, d2, d3] }
  | _ => none }
def packJoinsRow : OpenClaim := { program := "ytigjihomdnkepaa", sum := "3921fe2b0d7adbc09ee762079d94cafd40a4be5dd1b36a802fe8b129133a693e", func := "colonnade/colonnadelaw02.PackJoins", spec := "packJoins", recurses := true, apart := false }
def PackJoinsSaid : Prop := packJoinsRow.holds Try.pinned (OpenSpec.ofChange packJoinsSpec)

/-- ITS FALSE NEIGHBOUR: 'it returns false'. Refute it at one input. -/
def packJoinsWrong : ChangeSpec := { name := "packJoins", fn := fun _ => fun
  | [d1, d2, d3] => { results := [.lit (.bool false)], args := [d1, d2, d3] }
  | _ => none }
def PackJoinsWrongFalsely : Prop := packJoinsRow.holds Try.pinned (OpenSpec.ofChange packJoinsWrong)

/-- 'colonnadelaw02.PackShifts': WHATEVER THE INPUT: true; the input reads as it did. -/
def packShiftsSpec : ChangeSpec := { name := "packShifts", fn := fun _ => fun
  | [d1, d2, d3] => { results := [.lit (.bool true)], args := [d1, d2, d3] }
  | _ => none }
def packShiftsRow : OpenClaim := { program := "ytigjihomdnkepaa", sum := "3921fe2b0d7adbc09ee762079d94cafd40a4be5dd1b36a802fe8b129133a693e", func := "colonnade/colonnadelaw02.PackShifts", spec := "packShifts", recurses := true, apart := false }
def PackShiftsSaid : Prop := packShiftsRow.holds Try.pinned (OpenSpec.ofChange packShiftsSpec)

/-- ITS FALSE NEIGHBOUR: 'it returns false'. Refute it at one input. -/
def packShiftsWrong : ChangeSpec := { name := "packShifts", fn := fun _ => fun
  | [d1, d2, d3] => { results := [.lit (.bool false)], args := [d1, d2, d3] }
  | _ => none }
def PackShiftsWrongFalsely : Prop := packShiftsRow.holds Try.pinned (OpenSpec.ofChange packShiftsWrong)

/-- 'colonnadelaw02.PackOwn': WHATEVER THE INPUT: true; the input reads as it did. -/
def packOwnSpec : ChangeSpec := { name := "packOwn", fn := fun _ => fun
  | [d1, d2, d3] => { results := [.lit (.bool true)], args := [d1, d2, d3] }
  | _ => none }
def packOwnRow : OpenClaim := { program := "ytigjihomdnkepaa", sum := "3921fe2b0d7adbc09ee762079d94cafd40a4be5dd1b36a802fe8b129133a693e", func := "colonnade/colonnadelaw02.PackOwn", spec := "packOwn", recurses := true, apart := false }
def PackOwnSaid : Prop := packOwnRow.holds Try.pinned (OpenSpec.ofChange packOwnSpec)

/-- ITS FALSE NEIGHBOUR: 'it returns false'. Refute it at one input. -/
def packOwnWrong : ChangeSpec := { name := "packOwn", fn := fun _ => fun
  | [d1, d2, d3] => { results := [.lit (.bool false)], args := [d1, d2, d3] }
  | _ => none }
def PackOwnWrongFalsely : Prop := packOwnRow.holds Try.pinned (OpenSpec.ofChange packOwnWrong)

/- THE SECOND FORM. 'bulk': how many values and letters a reading holds, each counted each time it is reached (what is shared counts as often as it is met; a slice's spare places count too). A statement '..UptoSaid' is the law's where the arguments, and the package variables that the reading takes, are together of bulk at most 1048576: NARROWER than '..Said'. Prove '..Said' where nothing that the law and all that it calls make is longer than what came in: it says more and counts as full. Else prove '..UptoSaid'. A law counts once. -/
mutual
def uptoBulk {H : Type} : DataW H → Nat
  | .lit (.string bytes) => bytes.length + 1
  | .lit _ => 1
  | .nil => 1
  | .ptr d => uptoBulk d + 1
  | .slice elems spare => uptoBulkAll elems + uptoBulkAll spare + 1
  | .agg parts => uptoBulkAll parts + 1
  | .iface _ d => uptoBulk d + 1
  | .map entries => uptoBulkEntries entries + 1
  | .held _ => 1
def uptoBulkAll {H : Type} : List (DataW H) → Nat
  | [] => 0
  | d :: r => uptoBulk d + uptoBulkAll r
def uptoBulkEntries {H : Type} : List (Lit × DataW H) → Nat
  | [] => 0
  | x :: r => uptoBulkEntry x + uptoBulkEntries r
def uptoBulkEntry {H : Type} : Lit × DataW H → Nat
  | (.string bytes, d) => bytes.length + uptoBulk d + 1
  | (_, d) => uptoBulk d + 1
 end
def uptoSmall : (H : Type) → List (DataW H) → Bool := fun _ ds => decide (uptoBulkAll ds ≤ 1048576)
def OpenSpec.upto (s : _root_.Go.ChangeSpec) : _root_.Go.OpenSpec := { _root_.Go.OpenSpec.ofChange s with cond := some uptoSmall }

/-- 'colonnadelaw02.PackWidths', WHERE WHAT IT READS IS OF BULK AT MOST 1048576: true; the input reads as it did. -/
def packWidthsUptoRow : OpenClaim := { program := "ytigjihomdnkepaa", sum := "3921fe2b0d7adbc09ee762079d94cafd40a4be5dd1b36a802fe8b129133a693e", func := "colonnade/colonnadelaw02.PackWidths", spec := "packWidths", apart := false, narrowed := true }
def PackWidthsUptoSaid : Prop := packWidthsUptoRow.holds Try.pinned (OpenSpec.upto packWidthsSpec)

/-- 'colonnadelaw02.PackAts', WHERE WHAT IT READS IS OF BULK AT MOST 1048576: true; the input reads as it did. -/
def packAtsUptoRow : OpenClaim := { program := "ytigjihomdnkepaa", sum := "3921fe2b0d7adbc09ee762079d94cafd40a4be5dd1b36a802fe8b129133a693e", func := "colonnade/colonnadelaw02.PackAts", spec := "packAts", recurses := true, apart := false, narrowed := true }
def PackAtsUptoSaid : Prop := packAtsUptoRow.holds Try.pinned (OpenSpec.upto packAtsSpec)

/-- 'colonnadelaw02.PackPacks', WHERE WHAT IT READS IS OF BULK AT MOST 1048576: true; the input reads as it did. -/
def packPacksUptoRow : OpenClaim := { program := "ytigjihomdnkepaa", sum := "3921fe2b0d7adbc09ee762079d94cafd40a4be5dd1b36a802fe8b129133a693e", func := "colonnade/colonnadelaw02.PackPacks", spec := "packPacks", apart := false, narrowed := true }
def PackPacksUptoSaid : Prop := packPacksUptoRow.holds Try.pinned (OpenSpec.upto packPacksSpec)

/-- 'colonnadelaw02.PackUnpacks', WHERE WHAT IT READS IS OF BULK AT MOST 1048576: true; the input reads as it did. -/
def packUnpacksUptoRow : OpenClaim := { program := "ytigjihomdnkepaa", sum := "3921fe2b0d7adbc09ee762079d94cafd40a4be5dd1b36a802fe8b129133a693e", func := "colonnade/colonnadelaw02.PackUnpacks", spec := "packUnpacks", recurses := true, apart := false, narrowed := true }
def PackUnpacksUptoSaid : Prop := packUnpacksUptoRow.holds Try.pinned (OpenSpec.upto packUnpacksSpec)

/-- 'colonnadelaw02.PackBack', WHERE WHAT IT READS IS OF BULK AT MOST 1048576: true; the input reads as it did. -/
def packBackUptoRow : OpenClaim := { program := "ytigjihomdnkepaa", sum := "3921fe2b0d7adbc09ee762079d94cafd40a4be5dd1b36a802fe8b129133a693e", func := "colonnade/colonnadelaw02.PackBack", spec := "packBack", recurses := true, apart := false, narrowed := true }
def PackBackUptoSaid : Prop := packBackUptoRow.holds Try.pinned (OpenSpec.upto packBackSpec)

/-- 'colonnadelaw02.PackWidest', WHERE WHAT IT READS IS OF BULK AT MOST 1048576: true; the input reads as it did. -/
def packWidestUptoRow : OpenClaim := { program := "ytigjihomdnkepaa", sum := "3921fe2b0d7adbc09ee762079d94cafd40a4be5dd1b36a802fe8b129133a693e", func := "colonnade/colonnadelaw02.PackWidest", spec := "packWidest", recurses := true, apart := false, narrowed := true }
def PackWidestUptoSaid : Prop := packWidestUptoRow.holds Try.pinned (OpenSpec.upto packWidestSpec)

/-- 'colonnadelaw02.PackForm', WHERE WHAT IT READS IS OF BULK AT MOST 1048576: true; the input reads as it did. -/
def packFormUptoRow : OpenClaim := { program := "ytigjihomdnkepaa", sum := "3921fe2b0d7adbc09ee762079d94cafd40a4be5dd1b36a802fe8b129133a693e", func := "colonnade/colonnadelaw02.PackForm", spec := "packForm", recurses := true, apart := false, narrowed := true }
def PackFormUptoSaid : Prop := packFormUptoRow.holds Try.pinned (OpenSpec.upto packFormSpec)

/-- 'colonnadelaw02.PackJoins', WHERE WHAT IT READS IS OF BULK AT MOST 1048576: true; the input reads as it did. -/
def packJoinsUptoRow : OpenClaim := { program := "ytigjihomdnkepaa", sum := "3921fe2b0d7adbc09ee762079d94cafd40a4be5dd1b36a802fe8b129133a693e", func := "colonnade/colonnadelaw02.PackJoins", spec := "packJoins", recurses := true, apart := false, narrowed := true }
def PackJoinsUptoSaid : Prop := packJoinsUptoRow.holds Try.pinned (OpenSpec.upto packJoinsSpec)

/-- 'colonnadelaw02.PackShifts', WHERE WHAT IT READS IS OF BULK AT MOST 1048576: true; the input reads as it did. -/
def packShiftsUptoRow : OpenClaim := { program := "ytigjihomdnkepaa", sum := "3921fe2b0d7adbc09ee762079d94cafd40a4be5dd1b36a802fe8b129133a693e", func := "colonnade/colonnadelaw02.PackShifts", spec := "packShifts", recurses := true, apart := false, narrowed := true }
def PackShiftsUptoSaid : Prop := packShiftsUptoRow.holds Try.pinned (OpenSpec.upto packShiftsSpec)

/-- 'colonnadelaw02.PackOwn', WHERE WHAT IT READS IS OF BULK AT MOST 1048576: true; the input reads as it did. -/
def packOwnUptoRow : OpenClaim := { program := "ytigjihomdnkepaa", sum := "3921fe2b0d7adbc09ee762079d94cafd40a4be5dd1b36a802fe8b129133a693e", func := "colonnade/colonnadelaw02.PackOwn", spec := "packOwn", recurses := true, apart := false, narrowed := true }
def PackOwnUptoSaid : Prop := packOwnUptoRow.holds Try.pinned (OpenSpec.upto packOwnSpec)

end Rows
end Go.Proofs.Ytigjihomdnkepaa
