/-
  No cell of these rows narrows 'for every input' (looked for: loops, veiled, ifaces, maps, wideKeys, modest, calm, conditions, laid).
  DERIVED. THE GIVEN ROWS OF THIS SEAT. 8 by the template 'for every input the law returns true; each argument reads behind the call as it read before'; 0 by the template 'total and deterministic' (their statements: YthfgelbbcdgopaaTotals.lean).
  GIVEN WITH THE SEED: the statements are not yours to turn. If you find one false, say at which input.
  Laid BY PROGRAM, IN A SANDBOX (cutbox-rows.mjs): the forced cells as the released guide's own fill.sh prints them over the translation e36f9c62324992dd… (all of the seat's roots in one cut). By AI agents, Wed Nov 11 2026. No macro, syntax, notation, axiom, sorry.
-/
import Derived.Test.YthfgelbbcdgopaaChecked
import GoSem.Claim
import GoSem.ClaimJoined
import GoSem.ClaimMapViews
import Derived.JoinedTies
import Derived.KernelRfl
namespace Go.Proofs.Ythfgelbbcdgopaa
/- THE CELL 'sum', in the pinned program and in every row, IS THE sha256 OF THE DUMP (.gsa) THAT YthfgelbbcdgopaaProg.lean LOADS. Nothing in Lean hashes anything: it is a label: what it is worth is what the hold of that sum in a sandbox is worth. -/
noncomputable def Try.pinned : Pinned := { name := "ythfgelbbcdgopaa", sum := "e36f9c62324992dd5df526372b19cd695e7cc32f33b803bec1e3bd605e533ec6", checked := Try.checked }
namespace Rows
def none {H : Type} : Left H := { results := [], args := [] }

/-- 'colonnadelaw11.FrameLifts': WHATEVER THE INPUT: true; the input reads as it did. -/
def frameLiftsSpec : ChangeSpec := { name := "frameLifts", fn := fun _ => fun
  | [d1, d2, d3] => { results := [.lit (.bool true)], args := [d1, d2, d3] }
  | _ => none }
def frameLiftsRow : OpenClaim := { program := "ythfgelbbcdgopaa", sum := "e36f9c62324992dd5df526372b19cd695e7cc32f33b803bec1e3bd605e533ec6", func := "colonnade/colonnadelaw11.FrameLifts", spec := "frameLifts", apart := false }
def FrameLiftsSaid : Prop := frameLiftsRow.holds Try.pinned (OpenSpec.ofChange frameLiftsSpec)

/-- ITS FALSE NEIGHBOUR: 'it returns false'. Refute it at one input. -/
def frameLiftsWrong : ChangeSpec := { name := "frameLifts", fn := fun _ => fun
  | [d1, d2, d3] => { results := [.lit (.bool false)], args := [d1, d2, d3] }
  | _ => none }
def FrameLiftsWrongFalsely : Prop := frameLiftsRow.holds Try.pinned (OpenSpec.ofChange frameLiftsWrong)

/-- 'colonnadelaw11.FrameValues': WHATEVER THE INPUT: true; the input reads as it did. -/
def frameValuesSpec : ChangeSpec := { name := "frameValues", fn := fun _ => fun
  | [d1, d2, d3, d4] => { results := [.lit (.bool true)], args := [d1, d2, d3, d4] }
  | _ => none }
def frameValuesRow : OpenClaim := { program := "ythfgelbbcdgopaa", sum := "e36f9c62324992dd5df526372b19cd695e7cc32f33b803bec1e3bd605e533ec6", func := "colonnade/colonnadelaw11.FrameValues", spec := "frameValues", recurses := true, apart := false }
def FrameValuesSaid : Prop := frameValuesRow.holds Try.pinned (OpenSpec.ofChange frameValuesSpec)

/-- ITS FALSE NEIGHBOUR: 'it returns false'. Refute it at one input. -/
def frameValuesWrong : ChangeSpec := { name := "frameValues", fn := fun _ => fun
  | [d1, d2, d3, d4] => { results := [.lit (.bool false)], args := [d1, d2, d3, d4] }
  | _ => none }
def FrameValuesWrongFalsely : Prop := frameValuesRow.holds Try.pinned (OpenSpec.ofChange frameValuesWrong)

/-- 'colonnadelaw11.FrameOpens': WHATEVER THE INPUT: true; the input reads as it did. -/
def frameOpensSpec : ChangeSpec := { name := "frameOpens", fn := fun _ => fun
  | [d1, d2, d3] => { results := [.lit (.bool true)], args := [d1, d2, d3] }
  | _ => none }
def frameOpensRow : OpenClaim := { program := "ythfgelbbcdgopaa", sum := "e36f9c62324992dd5df526372b19cd695e7cc32f33b803bec1e3bd605e533ec6", func := "colonnade/colonnadelaw11.FrameOpens", spec := "frameOpens", recurses := true, apart := false }
def FrameOpensSaid : Prop := frameOpensRow.holds Try.pinned (OpenSpec.ofChange frameOpensSpec)

/-- ITS FALSE NEIGHBOUR: 'it returns false'. Refute it at one input. -/
def frameOpensWrong : ChangeSpec := { name := "frameOpens", fn := fun _ => fun
  | [d1, d2, d3] => { results := [.lit (.bool false)], args := [d1, d2, d3] }
  | _ => none }
def FrameOpensWrongFalsely : Prop := frameOpensRow.holds Try.pinned (OpenSpec.ofChange frameOpensWrong)

/-- 'colonnadelaw11.FramePuts': WHATEVER THE INPUT: true; the input reads as it did. -/
def framePutsSpec : ChangeSpec := { name := "framePuts", fn := fun _ => fun
  | [d1, d2] => { results := [.lit (.bool true)], args := [d1, d2] }
  | _ => none }
def framePutsRow : OpenClaim := { program := "ythfgelbbcdgopaa", sum := "e36f9c62324992dd5df526372b19cd695e7cc32f33b803bec1e3bd605e533ec6", func := "colonnade/colonnadelaw11.FramePuts", spec := "framePuts", apart := false }
def FramePutsSaid : Prop := framePutsRow.holds Try.pinned (OpenSpec.ofChange framePutsSpec)

/-- ITS FALSE NEIGHBOUR: 'it returns false'. Refute it at one input. -/
def framePutsWrong : ChangeSpec := { name := "framePuts", fn := fun _ => fun
  | [d1, d2] => { results := [.lit (.bool false)], args := [d1, d2] }
  | _ => none }
def FramePutsWrongFalsely : Prop := framePutsRow.holds Try.pinned (OpenSpec.ofChange framePutsWrong)

/-- 'colonnadelaw11.FrameOrder': WHATEVER THE INPUT: true; the input reads as it did. -/
def frameOrderSpec : ChangeSpec := { name := "frameOrder", fn := fun _ => fun
  | [d1, d2, d3, d4] => { results := [.lit (.bool true)], args := [d1, d2, d3, d4] }
  | _ => none }
def frameOrderRow : OpenClaim := { program := "ythfgelbbcdgopaa", sum := "e36f9c62324992dd5df526372b19cd695e7cc32f33b803bec1e3bd605e533ec6", func := "colonnade/colonnadelaw11.FrameOrder", spec := "frameOrder", recurses := true, apart := false }
def FrameOrderSaid : Prop := frameOrderRow.holds Try.pinned (OpenSpec.ofChange frameOrderSpec)

/-- ITS FALSE NEIGHBOUR: 'it returns false'. Refute it at one input. -/
def frameOrderWrong : ChangeSpec := { name := "frameOrder", fn := fun _ => fun
  | [d1, d2, d3, d4] => { results := [.lit (.bool false)], args := [d1, d2, d3, d4] }
  | _ => none }
def FrameOrderWrongFalsely : Prop := frameOrderRow.holds Try.pinned (OpenSpec.ofChange frameOrderWrong)

/-- 'colonnadelaw11.FrameForm': WHATEVER THE INPUT: true; the input reads as it did. -/
def frameFormSpec : ChangeSpec := { name := "frameForm", fn := fun _ => fun
  | [d1, d2, d3] => { results := [.lit (.bool true)], args := [d1, d2, d3] }
  | _ => none }
def frameFormRow : OpenClaim := { program := "ythfgelbbcdgopaa", sum := "e36f9c62324992dd5df526372b19cd695e7cc32f33b803bec1e3bd605e533ec6", func := "colonnade/colonnadelaw11.FrameForm", spec := "frameForm", recurses := true, apart := false }
def FrameFormSaid : Prop := frameFormRow.holds Try.pinned (OpenSpec.ofChange frameFormSpec)

/-- ITS FALSE NEIGHBOUR: 'it returns false'. Refute it at one input. -/
def frameFormWrong : ChangeSpec := { name := "frameForm", fn := fun _ => fun
  | [d1, d2, d3] => { results := [.lit (.bool false)], args := [d1, d2, d3] }
  | _ => none }
def FrameFormWrongFalsely : Prop := frameFormRow.holds Try.pinned (OpenSpec.ofChange frameFormWrong)

/-- 'colonnadelaw11.FrameOwn': WHATEVER THE INPUT: true; the input reads as it did. -/
def frameOwnSpec : ChangeSpec := { name := "frameOwn", fn := fun _ => fun
  | [d1, d2] => { results := [.lit (.bool true)], args := [d1, d2] }
  | _ => none }
def frameOwnRow : OpenClaim := { program := "ythfgelbbcdgopaa", sum := "e36f9c62324992dd5df526372b19cd695e7cc32f33b803bec1e3bd605e533ec6", func := "colonnade/colonnadelaw11.FrameOwn", spec := "frameOwn", recurses := true, apart := false }
def FrameOwnSaid : Prop := frameOwnRow.holds Try.pinned (OpenSpec.ofChange frameOwnSpec)

/-- ITS FALSE NEIGHBOUR: 'it returns false'. Refute it at one input. -/
def frameOwnWrong : ChangeSpec := { name := "frameOwn", fn := fun _ => fun
  | [d1, d2] => { results := [.lit (.bool false)], args := [d1, d2] }
  | _ => none }
def FrameOwnWrongFalsely : Prop := frameOwnRow.holds Try.pinned (OpenSpec.ofChange frameOwnWrong)

/-- 'colonnadelaw11.FrameBack': WHATEVER THE INPUT: true; the input reads as it did. -/
def frameBackSpec : ChangeSpec := { name := "frameBack", fn := fun _ => fun
  | [d1, d2] => { results := [.lit (.bool true)], args := [d1, d2] }
  | _ => none }
def frameBackRow : OpenClaim := { program := "ythfgelbbcdgopaa", sum := "e36f9c62324992dd5df526372b19cd695e7cc32f33b803bec1e3bd605e533ec6", func := "colonnade/colonnadelaw11.FrameBack", spec := "frameBack", recurses := true, apart := false }
def FrameBackSaid : Prop := frameBackRow.holds Try.pinned (OpenSpec.ofChange frameBackSpec)

/-- ITS FALSE NEIGHBOUR: 'it returns false'. Refute it at one input. -/
def frameBackWrong : ChangeSpec := { name := "frameBack", fn := fun _ => fun
  | [d1, d2] => { results := [.lit (.bool false)], args := [d1, d2] }
  | _ => none }
def FrameBackWrongFalsely : Prop := frameBackRow.holds Try.pinned (OpenSpec.ofChange frameBackWrong)

/- THE SECOND FORM. 'bulk': how many values and letters a reading holds, each counted each time it is reached (what is shared counts as often as it is met; a slice's spare places count too). A statement '..UptoSaid' is the law's where the arguments, and the package variables that the reading takes, are together of bulk at most 1048576: NARROWER than '..Said'. Prove '..Said' where nothing that the law and all that it calls make is longer than what came in: it says more and counts as full. Else prove '..UptoSaid'. A law counts once. -/
mutual
def uptoBulk {H : Type} : DataW H → Nat
  | .lit (.string bytes) => bytes.length + 1
  | .lit _ => 1
  | .nil => 1
  | .ptr d => uptoBulk d + 1
  | .slice elems spare => uptoBulkAll elems + uptoBulkAll spare + 1
  | .agg parts => uptoBulkAll parts + 1
  | .iface _ d => uptoBulk d + 1
  | .map entries => uptoBulkEntries entries + 1
  | .held _ => 1
def uptoBulkAll {H : Type} : List (DataW H) → Nat
  | [] => 0
  | d :: r => uptoBulk d + uptoBulkAll r
def uptoBulkEntries {H : Type} : List (Lit × DataW H) → Nat
  | [] => 0
  | x :: r => uptoBulkEntry x + uptoBulkEntries r
def uptoBulkEntry {H : Type} : Lit × DataW H → Nat
  | (.string bytes, d) => bytes.length + uptoBulk d + 1
  | (_, d) => uptoBulk d + 1
 end
def uptoSmall : (H : Type) → List (DataW H) → Bool := fun _ ds => decide (uptoBulkAll ds ≤ 1048576)
def OpenSpec.upto (s : _root_.Go.ChangeSpec) : _root_.Go.OpenSpec := { _root_.Go.OpenSpec.ofChange s with cond := some uptoSmall }

/-- 'colonnadelaw11.FrameLifts', WHERE WHAT IT READS IS OF BULK AT MOST 1048576: true; the input reads as it did. -/
def frameLiftsUptoRow : OpenClaim := { program := "ythfgelbbcdgopaa", sum := "e36f9c62324992dd5df526372b19cd695e7cc32f33b803bec1e3bd605e533ec6", func := "colonnade/colonnadelaw11.FrameLifts", spec := "frameLifts", apart := false, narrowed := true }
def FrameLiftsUptoSaid : Prop := frameLiftsUptoRow.holds Try.pinned (OpenSpec.upto frameLiftsSpec)

/-- 'colonnadelaw11.FrameValues', WHERE WHAT IT READS IS OF BULK AT MOST 1048576: true; the input reads as it did. -/
def frameValuesUptoRow : OpenClaim := { program := "ythfgelbbcdgopaa", sum := "e36f9c62324992dd5df526372b19cd695e7cc32f33b803bec1e3bd605e533ec6", func := "colonnade/colonnadelaw11.FrameValues", spec := "frameValues", recurses := true, apart := false, narrowed := true }
def FrameValuesUptoSaid : Prop := frameValuesUptoRow.holds Try.pinned (OpenSpec.upto frameValuesSpec)

/-- 'colonnadelaw11.FrameOpens', WHERE WHAT IT READS IS OF BULK AT MOST 1048576: true; the input reads as it did. -/
def frameOpensUptoRow : OpenClaim := { program := "ythfgelbbcdgopaa", sum := "e36f9c62324992dd5df526372b19cd695e7cc32f33b803bec1e3bd605e533ec6", func := "colonnade/colonnadelaw11.FrameOpens", spec := "frameOpens", recurses := true, apart := false, narrowed := true }
def FrameOpensUptoSaid : Prop := frameOpensUptoRow.holds Try.pinned (OpenSpec.upto frameOpensSpec)

/-- 'colonnadelaw11.FramePuts', WHERE WHAT IT READS IS OF BULK AT MOST 1048576: true; the input reads as it did. -/
def framePutsUptoRow : OpenClaim := { program := "ythfgelbbcdgopaa", sum := "e36f9c62324992dd5df526372b19cd695e7cc32f33b803bec1e3bd605e533ec6", func := "colonnade/colonnadelaw11.FramePuts", spec := "framePuts", apart := false, narrowed := true }
def FramePutsUptoSaid : Prop := framePutsUptoRow.holds Try.pinned (OpenSpec.upto framePutsSpec)

/-- 'colonnadelaw11.FrameOrder', WHERE WHAT IT READS IS OF BULK AT MOST 1048576: true; the input reads as it did. -/
def frameOrderUptoRow : OpenClaim := { program := "ythfgelbbcdgopaa", sum := "e36f9c62324992dd5df526372b19cd695e7cc32f33b803bec1e3bd605e533ec6", func := "colonnade/colonnadelaw11.FrameOrder", spec := "frameOrder", recurses := true, apart := false, narrowed := true }
def FrameOrderUptoSaid : Prop := frameOrderUptoRow.holds Try.pinned (OpenSpec.upto frameOrderSpec)

/-- 'colonnadelaw11.FrameForm', WHERE WHAT IT READS IS OF BULK AT MOST 1048576: true; the input reads as it did. -/
def frameFormUptoRow : OpenClaim := { program := "ythfgelbbcdgopaa", sum := "e36f9c62324992dd5df526372b19cd695e7cc32f33b803bec1e3bd605e533ec6", func := "colonnade/colonnadelaw11.FrameForm", spec := "frameForm", recurses := true, apart := false, narrowed := true }
def FrameFormUptoSaid : Prop := frameFormUptoRow.holds Try.pinned (OpenSpec.upto frameFormSpec)

/-- 'colonnadelaw11.FrameOwn', WHERE WHAT IT READS IS OF BULK AT MOST 1048576: true; the input reads as it did. -/
def frameOwnUptoRow : OpenClaim := { program := "ythfgelbbcdgopaa", sum := "e36f9c62324992dd5df526372b19cd695e7cc32f33b803bec1e3bd605e533ec6", func := "colonnade/colonnadelaw11.FrameOwn", spec := "frameOwn", recurses := true, apart := false, narrowed := true }
def FrameOwnUptoSaid : Prop := frameOwnUptoRow.holds Try.pinned (OpenSpec.upto frameOwnSpec)

/-- 'colonnadelaw11.FrameBack', WHERE WHAT IT READS IS OF BULK AT MOST 1048576: true; the input reads as it did. -/
def frameBackUptoRow : OpenClaim := { program := "ythfgelbbcdgopaa", sum := "e36f9c62324992dd5df526372b19cd695e7cc32f33b803bec1e3bd605e533ec6", func := "colonnade/colonnadelaw11.FrameBack", spec := "frameBack", recurses := true, apart := false, narrowed := true }
def FrameBackUptoSaid : Prop := frameBackUptoRow.holds Try.pinned (OpenSpec.upto frameBackSpec)

end Rows
end Go.Proofs.Ythfgelbbcdgopaa
