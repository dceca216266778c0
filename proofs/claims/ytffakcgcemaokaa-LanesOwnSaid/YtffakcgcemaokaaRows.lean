/-
  No cell of these rows narrows 'for every input' (looked for: loops, veiled, ifaces, maps, wideKeys, modest, calm, conditions, laid).
  DERIVED. THE GIVEN ROWS OF THIS SEAT. 13 by the template 'for every input the law returns true; each argument reads behind the call as it read before'; 0 by the template 'total and deterministic' (their statements: YtffakcgcemaokaaTotals.lean).
  GIVEN WITH THE SEED: the statements are not yours to turn. If you find one false, say at which input.
  Laid BY PROGRAM, IN A SANDBOX (cutbox-rows.mjs): the forced cells as the released guide's own fill.sh prints them over the translation 23b91fd045ef2667… (all of the seat's roots in one cut). By AI agents, Wed Nov 11 2026. No macro, syntax, notation, axiom, sorry.
-/
import Derived.Test.YtffakcgcemaokaaChecked
import GoSem.Claim
import GoSem.ClaimJoined
import GoSem.ClaimMapViews
import Derived.JoinedTies
import Derived.KernelRfl
namespace Go.Proofs.Ytffakcgcemaokaa
/- THE CELL 'sum', in the pinned program and in every row, IS THE sha256 OF THE DUMP (.gsa) THAT YtffakcgcemaokaaProg.lean LOADS. Nothing in Lean hashes anything: it is a label: what it is worth is what the hold of that sum in a sandbox is worth. -/
noncomputable def Try.pinned : Pinned := { name := "ytffakcgcemaokaa", sum := "23b91fd045ef2667bfb5dc05f4b8d48ee90a421f5210c7b060caa3161e41cb72", checked := Try.checked }
namespace Rows
def none {H : Type} : Left H := { results := [], args := [] }

/-- 'colonnadelaw03.LanesSpreads': WHATEVER THE INPUT: true; the input reads as it did. -/
def lanesSpreadsSpec : ChangeSpec := { name := "lanesSpreads", fn := fun _ => fun
  | [d1, d2] => { results := [.lit (.bool true)], args := [d1, d2] }
  | _ => none }
def lanesSpreadsRow : OpenClaim := { program := "ytffakcgcemaokaa", sum := "23b91fd045ef2667bfb5dc05f4b8d48ee90a421f5210c7b060caa3161e41cb72", func := "colonnade/colonnadelaw03.LanesSpreads", spec := "lanesSpreads", inPlace := ["math/bits.Add64"], unfollowed := true, recurses := true, apart := false }
def LanesSpreadsSaid : Prop := lanesSpreadsRow.holds Try.pinned (OpenSpec.ofChange lanesSpreadsSpec)

/-- ITS FALSE NEIGHBOUR: 'it returns false'. Refute it at one input. -/
def lanesSpreadsWrong : ChangeSpec := { name := "lanesSpreads", fn := fun _ => fun
  | [d1, d2] => { results := [.lit (.bool false)], args := [d1, d2] }
  | _ => none }
def LanesSpreadsWrongFalsely : Prop := lanesSpreadsRow.holds Try.pinned (OpenSpec.ofChange lanesSpreadsWrong)

/-- 'colonnadelaw03.LanesMarks': WHATEVER THE INPUT: true; the input reads as it did. -/
def lanesMarksSpec : ChangeSpec := { name := "lanesMarks", fn := fun _ => fun
  | [d1, d2] => { results := [.lit (.bool true)], args := [d1, d2] }
  | _ => none }
def lanesMarksRow : OpenClaim := { program := "ytffakcgcemaokaa", sum := "23b91fd045ef2667bfb5dc05f4b8d48ee90a421f5210c7b060caa3161e41cb72", func := "colonnade/colonnadelaw03.LanesMarks", spec := "lanesMarks", inPlace := ["math/bits.Add64"], unfollowed := true, recurses := true, apart := false }
def LanesMarksSaid : Prop := lanesMarksRow.holds Try.pinned (OpenSpec.ofChange lanesMarksSpec)

/-- ITS FALSE NEIGHBOUR: 'it returns false'. Refute it at one input. -/
def lanesMarksWrong : ChangeSpec := { name := "lanesMarks", fn := fun _ => fun
  | [d1, d2] => { results := [.lit (.bool false)], args := [d1, d2] }
  | _ => none }
def LanesMarksWrongFalsely : Prop := lanesMarksRow.holds Try.pinned (OpenSpec.ofChange lanesMarksWrong)

/-- 'colonnadelaw03.LanesTests': WHATEVER THE INPUT: true; the input reads as it did. -/
def lanesTestsSpec : ChangeSpec := { name := "lanesTests", fn := fun _ => fun
  | [d] => { results := [.lit (.bool true)], args := [d] }
  | _ => none }
def lanesTestsRow : OpenClaim := { program := "ytffakcgcemaokaa", sum := "23b91fd045ef2667bfb5dc05f4b8d48ee90a421f5210c7b060caa3161e41cb72", func := "colonnade/colonnadelaw03.LanesTests", spec := "lanesTests", inPlace := ["math/bits.Add64"], unfollowed := true, recurses := true, apart := false }
def LanesTestsSaid : Prop := lanesTestsRow.holds Try.pinned (OpenSpec.ofChange lanesTestsSpec)

/-- ITS FALSE NEIGHBOUR: 'it returns false'. Refute it at one input. -/
def lanesTestsWrong : ChangeSpec := { name := "lanesTests", fn := fun _ => fun
  | [d] => { results := [.lit (.bool false)], args := [d] }
  | _ => none }
def LanesTestsWrongFalsely : Prop := lanesTestsRow.holds Try.pinned (OpenSpec.ofChange lanesTestsWrong)

/-- 'colonnadelaw03.LanesIns': WHATEVER THE INPUT: true; the input reads as it did. -/
def lanesInsSpec : ChangeSpec := { name := "lanesIns", fn := fun _ => fun
  | [d] => { results := [.lit (.bool true)], args := [d] }
  | _ => none }
def lanesInsRow : OpenClaim := { program := "ytffakcgcemaokaa", sum := "23b91fd045ef2667bfb5dc05f4b8d48ee90a421f5210c7b060caa3161e41cb72", func := "colonnade/colonnadelaw03.LanesIns", spec := "lanesIns", inPlace := ["math/bits.Add64"], unfollowed := true, recurses := true, apart := false }
def LanesInsSaid : Prop := lanesInsRow.holds Try.pinned (OpenSpec.ofChange lanesInsSpec)

/-- ITS FALSE NEIGHBOUR: 'it returns false'. Refute it at one input. -/
def lanesInsWrong : ChangeSpec := { name := "lanesIns", fn := fun _ => fun
  | [d] => { results := [.lit (.bool false)], args := [d] }
  | _ => none }
def LanesInsWrongFalsely : Prop := lanesInsRow.holds Try.pinned (OpenSpec.ofChange lanesInsWrong)

/-- 'colonnadelaw03.LanesHolds': WHATEVER THE INPUT: true; the input reads as it did. -/
def lanesHoldsSpec : ChangeSpec := { name := "lanesHolds", fn := fun _ => fun
  | [d1, d2, d3] => { results := [.lit (.bool true)], args := [d1, d2, d3] }
  | _ => none }
def lanesHoldsRow : OpenClaim := { program := "ytffakcgcemaokaa", sum := "23b91fd045ef2667bfb5dc05f4b8d48ee90a421f5210c7b060caa3161e41cb72", func := "colonnade/colonnadelaw03.LanesHolds", spec := "lanesHolds", inPlace := ["math/bits.Add64"], unfollowed := true, recurses := true, apart := false }
def LanesHoldsSaid : Prop := lanesHoldsRow.holds Try.pinned (OpenSpec.ofChange lanesHoldsSpec)

/-- ITS FALSE NEIGHBOUR: 'it returns false'. Refute it at one input. -/
def lanesHoldsWrong : ChangeSpec := { name := "lanesHolds", fn := fun _ => fun
  | [d1, d2, d3] => { results := [.lit (.bool false)], args := [d1, d2, d3] }
  | _ => none }
def LanesHoldsWrongFalsely : Prop := lanesHoldsRow.holds Try.pinned (OpenSpec.ofChange lanesHoldsWrong)

/-- 'colonnadelaw03.LanesWords': WHATEVER THE INPUT: true; the input reads as it did. -/
def lanesWordsSpec : ChangeSpec := { name := "lanesWords", fn := fun _ => fun
  | [d] => { results := [.lit (.bool true)], args := [d] }
  | _ => none }
def lanesWordsRow : OpenClaim := { program := "ytffakcgcemaokaa", sum := "23b91fd045ef2667bfb5dc05f4b8d48ee90a421f5210c7b060caa3161e41cb72", func := "colonnade/colonnadelaw03.LanesWords", spec := "lanesWords", inPlace := ["math/bits.Add64"], unfollowed := true, recurses := true, apart := false }
def LanesWordsSaid : Prop := lanesWordsRow.holds Try.pinned (OpenSpec.ofChange lanesWordsSpec)

/-- ITS FALSE NEIGHBOUR: 'it returns false'. Refute it at one input. -/
def lanesWordsWrong : ChangeSpec := { name := "lanesWords", fn := fun _ => fun
  | [d] => { results := [.lit (.bool false)], args := [d] }
  | _ => none }
def LanesWordsWrongFalsely : Prop := lanesWordsRow.holds Try.pinned (OpenSpec.ofChange lanesWordsWrong)

/-- 'colonnadelaw03.LanesSums': WHATEVER THE INPUT: true; the input reads as it did. -/
def lanesSumsSpec : ChangeSpec := { name := "lanesSums", fn := fun _ => fun
  | [d] => { results := [.lit (.bool true)], args := [d] }
  | _ => none }
def lanesSumsRow : OpenClaim := { program := "ytffakcgcemaokaa", sum := "23b91fd045ef2667bfb5dc05f4b8d48ee90a421f5210c7b060caa3161e41cb72", func := "colonnade/colonnadelaw03.LanesSums", spec := "lanesSums", inPlace := ["math/bits.Add64"], unfollowed := true, recurses := true, apart := false }
def LanesSumsSaid : Prop := lanesSumsRow.holds Try.pinned (OpenSpec.ofChange lanesSumsSpec)

/-- ITS FALSE NEIGHBOUR: 'it returns false'. Refute it at one input. -/
def lanesSumsWrong : ChangeSpec := { name := "lanesSums", fn := fun _ => fun
  | [d] => { results := [.lit (.bool false)], args := [d] }
  | _ => none }
def LanesSumsWrongFalsely : Prop := lanesSumsRow.holds Try.pinned (OpenSpec.ofChange lanesSumsWrong)

/-- 'colonnadelaw03.LanesBetweens': WHATEVER THE INPUT: true; the input reads as it did. -/
def lanesBetweensSpec : ChangeSpec := { name := "lanesBetweens", fn := fun _ => fun
  | [d] => { results := [.lit (.bool true)], args := [d] }
  | _ => none }
def lanesBetweensRow : OpenClaim := { program := "ytffakcgcemaokaa", sum := "23b91fd045ef2667bfb5dc05f4b8d48ee90a421f5210c7b060caa3161e41cb72", func := "colonnade/colonnadelaw03.LanesBetweens", spec := "lanesBetweens", inPlace := ["math/bits.Add64"], unfollowed := true, recurses := true, apart := false }
def LanesBetweensSaid : Prop := lanesBetweensRow.holds Try.pinned (OpenSpec.ofChange lanesBetweensSpec)

/-- ITS FALSE NEIGHBOUR: 'it returns false'. Refute it at one input. -/
def lanesBetweensWrong : ChangeSpec := { name := "lanesBetweens", fn := fun _ => fun
  | [d] => { results := [.lit (.bool false)], args := [d] }
  | _ => none }
def LanesBetweensWrongFalsely : Prop := lanesBetweensRow.holds Try.pinned (OpenSpec.ofChange lanesBetweensWrong)

/-- 'colonnadelaw03.LanesEmpty': WHATEVER THE INPUT: true; the input reads as it did. -/
def lanesEmptySpec : ChangeSpec := { name := "lanesEmpty", fn := fun _ => fun
  | [d1, d2] => { results := [.lit (.bool true)], args := [d1, d2] }
  | _ => none }
def lanesEmptyRow : OpenClaim := { program := "ytffakcgcemaokaa", sum := "23b91fd045ef2667bfb5dc05f4b8d48ee90a421f5210c7b060caa3161e41cb72", func := "colonnade/colonnadelaw03.LanesEmpty", spec := "lanesEmpty", inPlace := ["math/bits.Add64"], unfollowed := true, recurses := true, apart := false }
def LanesEmptySaid : Prop := lanesEmptyRow.holds Try.pinned (OpenSpec.ofChange lanesEmptySpec)

/-- ITS FALSE NEIGHBOUR: 'it returns false'. Refute it at one input. -/
def lanesEmptyWrong : ChangeSpec := { name := "lanesEmpty", fn := fun _ => fun
  | [d1, d2] => { results := [.lit (.bool false)], args := [d1, d2] }
  | _ => none }
def LanesEmptyWrongFalsely : Prop := lanesEmptyRow.holds Try.pinned (OpenSpec.ofChange lanesEmptyWrong)

/-- 'colonnadelaw03.LanesWidths': WHATEVER THE INPUT: true; the input reads as it did. -/
def lanesWidthsSpec : ChangeSpec := { name := "lanesWidths", fn := fun _ => fun
  | [d1, d2] => { results := [.lit (.bool true)], args := [d1, d2] }
  | _ => none }
def lanesWidthsRow : OpenClaim := { program := "ytffakcgcemaokaa", sum := "23b91fd045ef2667bfb5dc05f4b8d48ee90a421f5210c7b060caa3161e41cb72", func := "colonnade/colonnadelaw03.LanesWidths", spec := "lanesWidths", inPlace := ["math/bits.Add64"], unfollowed := true, recurses := true, apart := false }
def LanesWidthsSaid : Prop := lanesWidthsRow.holds Try.pinned (OpenSpec.ofChange lanesWidthsSpec)

/-- ITS FALSE NEIGHBOUR: 'it returns false'. Refute it at one input. -/
def lanesWidthsWrong : ChangeSpec := { name := "lanesWidths", fn := fun _ => fun
  | [d1, d2] => { results := [.lit (.bool false)], args := [d1, d2] }
  | _ => none }
def LanesWidthsWrongFalsely : Prop := lanesWidthsRow.holds Try.pinned (OpenSpec.ofChange lanesWidthsWrong)

/-- 'colonnadelaw03.LanesAlgebra': WHATEVER THE INPUT: true; the input reads as it did. -/
def lanesAlgebraSpec : ChangeSpec := { name := "lanesAlgebra", fn := fun _ => fun
  | [d] => { results := [.lit (.bool true)], args := [d] }
  | _ => none }
def lanesAlgebraRow : OpenClaim := { program := "ytffakcgcemaokaa", sum := "23b91fd045ef2667bfb5dc05f4b8d48ee90a421f5210c7b060caa3161e41cb72", func := "colonnade/colonnadelaw03.LanesAlgebra", spec := "lanesAlgebra", inPlace := ["math/bits.Add64"], unfollowed := true, recurses := true, apart := false }
def LanesAlgebraSaid : Prop := lanesAlgebraRow.holds Try.pinned (OpenSpec.ofChange lanesAlgebraSpec)

/-- ITS FALSE NEIGHBOUR: 'it returns false'. Refute it at one input. -/
def lanesAlgebraWrong : ChangeSpec := { name := "lanesAlgebra", fn := fun _ => fun
  | [d] => { results := [.lit (.bool false)], args := [d] }
  | _ => none }
def LanesAlgebraWrongFalsely : Prop := lanesAlgebraRow.holds Try.pinned (OpenSpec.ofChange lanesAlgebraWrong)

/-- 'colonnadelaw03.LanesPacked': WHATEVER THE INPUT: true; the input reads as it did. -/
def lanesPackedSpec : ChangeSpec := { name := "lanesPacked", fn := fun _ => fun
  | [d] => { results := [.lit (.bool true)], args := [d] }
  | _ => none }
def lanesPackedRow : OpenClaim := { program := "ytffakcgcemaokaa", sum := "23b91fd045ef2667bfb5dc05f4b8d48ee90a421f5210c7b060caa3161e41cb72", func := "colonnade/colonnadelaw03.LanesPacked", spec := "lanesPacked", inPlace := ["math/bits.Add64"], unfollowed := true, recurses := true, apart := false }
def LanesPackedSaid : Prop := lanesPackedRow.holds Try.pinned (OpenSpec.ofChange lanesPackedSpec)

/-- ITS FALSE NEIGHBOUR: 'it returns false'. Refute it at one input. -/
def lanesPackedWrong : ChangeSpec := { name := "lanesPacked", fn := fun _ => fun
  | [d] => { results := [.lit (.bool false)], args := [d] }
  | _ => none }
def LanesPackedWrongFalsely : Prop := lanesPackedRow.holds Try.pinned (OpenSpec.ofChange lanesPackedWrong)

/-- 'colonnadelaw03.LanesOwn': WHATEVER THE INPUT: true; the input reads as it did. -/
def lanesOwnSpec : ChangeSpec := { name := "lanesOwn", fn := fun _ => fun
  | [d] => { results := [.lit (.bool true)], args := [d] }
  | _ => none }
def lanesOwnRow : OpenClaim := { program := "ytffakcgcemaokaa", sum := "23b91fd045ef2667bfb5dc05f4b8d48ee90a421f5210c7b060caa3161e41cb72", func := "colonnade/colonnadelaw03.LanesOwn", spec := "lanesOwn", inPlace := ["math/bits.Add64"], unfollowed := true, recurses := true, apart := false }
def LanesOwnSaid : Prop := lanesOwnRow.holds Try.pinned (OpenSpec.ofChange lanesOwnSpec)

/-- ITS FALSE NEIGHBOUR: 'it returns false'. Refute it at one input. -/
def lanesOwnWrong : ChangeSpec := { name := "lanesOwn", fn := fun _ => fun
  | [d] => { results := [.lit (.bool false)], args := [d] }
  | _ => none }
def LanesOwnWrongFalsely : Prop := lanesOwnRow.holds Try.pinned (OpenSpec.ofChange lanesOwnWrong)

/- THE SECOND FORM. 'bulk': how many values and letters a reading holds, each counted each time it is reached (what is shared counts as often as it is met; a slice's spare places count too). A statement '..UptoSaid' is the law's where the arguments, and the package variables that the reading takes, are together of bulk at most 1048576: NARROWER than '..Said'. Prove '..Said' where nothing that the law and all that it calls make is longer than what came in: it says more and counts as full. Else prove '..UptoSaid'. A law counts once. -/
mutual
def uptoBulk {H : Type} : DataW H → Nat
  | .lit (.string bytes) => bytes.length + 1
  | .lit _ => 1
  | .nil => 1
  | .ptr d => uptoBulk d + 1
  | .slice elems spare => uptoBulkAll elems + uptoBulkAll spare + 1
  | .agg parts => uptoBulkAll parts + 1
  | .iface _ d => uptoBulk d + 1
  | .map entries => uptoBulkEntries entries + 1
  | .held _ => 1
def uptoBulkAll {H : Type} : List (DataW H) → Nat
  | [] => 0
  | d :: r => uptoBulk d + uptoBulkAll r
def uptoBulkEntries {H : Type} : List (Lit × DataW H) → Nat
  | [] => 0
  | x :: r => uptoBulkEntry x + uptoBulkEntries r
def uptoBulkEntry {H : Type} : Lit × DataW H → Nat
  | (.string bytes, d) => bytes.length + uptoBulk d + 1
  | (_, d) => uptoBulk d + 1
 end
def uptoSmall : (H : Type) → List (DataW H) → Bool := fun _ ds => decide (uptoBulkAll ds ≤ 1048576)
def OpenSpec.upto (s : _root_.Go.ChangeSpec) : _root_.Go.OpenSpec := { _root_.Go.OpenSpec.ofChange s with cond := some uptoSmall }

/-- 'colonnadelaw03.LanesSpreads', WHERE WHAT IT READS IS OF BULK AT MOST 1048576: true; the input reads as it did. -/
def lanesSpreadsUptoRow : OpenClaim := { program := "ytffakcgcemaokaa", sum := "23b91fd045ef2667bfb5dc05f4b8d48ee90a421f5210c7b060caa3161e41cb72", func := "colonnade/colonnadelaw03.LanesSpreads", spec := "lanesSpreads", inPlace := ["math/bits.Add64"], unfollowed := true, recurses := true, apart := false, narrowed := true }
def LanesSpreadsUptoSaid : Prop := lanesSpreadsUptoRow.holds Try.pinned (OpenSpec.upto lanesSpreadsSpec)

/-- 'colonnadelaw03.LanesMarks', WHERE WHAT IT READS IS OF BULK AT MOST 1048576: true; the input reads as it did. -/
def lanesMarksUptoRow : OpenClaim := { program := "ytffakcgcemaokaa", sum := "23b91fd045ef2667bfb5dc05f4b8d48ee90a421f5210c7b060caa3161e41cb72", func := "colonnade/colonnadelaw03.LanesMarks", spec := "lanesMarks", inPlace := ["math/bits.Add64"], unfollowed := true, recurses := true, apart := false, narrowed := true }
def LanesMarksUptoSaid : Prop := lanesMarksUptoRow.holds Try.pinned (OpenSpec.upto lanesMarksSpec)

/-- 'colonnadelaw03.LanesTests', WHERE WHAT IT READS IS OF BULK AT MOST 1048576: true; the input reads as it did. -/
def lanesTestsUptoRow : OpenClaim := { program := "ytffakcgcemaokaa", sum := "23b91fd045ef2667bfb5dc05f4b8d48ee90a421f5210c7b060caa3161e41cb72", func := "colonnade/colonnadelaw03.LanesTests", spec := "lanesTests", inPlace := ["math/bits.Add64"], unfollowed := true, recurses := true, apart := false, narrowed := true }
def LanesTestsUptoSaid : Prop := lanesTestsUptoRow.holds Try.pinned (OpenSpec.upto lanesTestsSpec)

/-- 'colonnadelaw03.LanesIns', WHERE WHAT IT READS IS OF BULK AT MOST 1048576: true; the input reads as it did. -/
def lanesInsUptoRow : OpenClaim := { program := "ytffakcgcemaokaa", sum := "23b91fd045ef2667bfb5dc05f4b8d48ee90a421f5210c7b060caa3161e41cb72", func := "colonnade/colonnadelaw03.LanesIns", spec := "lanesIns", inPlace := ["math/bits.Add64"], unfollowed := true, recurses := true, apart := false, narrowed := true }
def LanesInsUptoSaid : Prop := lanesInsUptoRow.holds Try.pinned (OpenSpec.upto lanesInsSpec)

/-- 'colonnadelaw03.LanesHolds', WHERE WHAT IT READS IS OF BULK AT MOST 1048576: true; the input reads as it did. -/
def lanesHoldsUptoRow : OpenClaim := { program := "ytffakcgcemaokaa", sum := "23b91fd045ef2667bfb5dc05f4b8d48ee90a421f5210c7b060caa3161e41cb72", func := "colonnade/colonnadelaw03.LanesHolds", spec := "lanesHolds", inPlace := ["math/bits.Add64"], unfollowed := true, recurses := true, apart := false, narrowed := true }
def LanesHoldsUptoSaid : Prop := lanesHoldsUptoRow.holds Try.pinned (OpenSpec.upto lanesHoldsSpec)

/-- 'colonnadelaw03.LanesWords', WHERE WHAT IT READS IS OF BULK AT MOST 1048576: true; the input reads as it did. -/
def lanesWordsUptoRow : OpenClaim := { program := "ytffakcgcemaokaa", sum := "23b91fd045ef2667bfb5dc05f4b8d48ee90a421f5210c7b060caa3161e41cb72", func := "colonnade/colonnadelaw03.LanesWords", spec := "lanesWords", inPlace := ["math/bits.Add64"], unfollowed := true, recurses := true, apart := false, narrowed := true }
def LanesWordsUptoSaid : Prop := lanesWordsUptoRow.holds Try.pinned (OpenSpec.upto lanesWordsSpec)

/-- 'colonnadelaw03.LanesSums', WHERE WHAT IT READS IS OF BULK AT MOST 1048576: true; the input reads as it did. -/
def lanesSumsUptoRow : OpenClaim := { program := "ytffakcgcemaokaa", sum := "23b91fd045ef2667bfb5dc05f4b8d48ee90a421f5210c7b060caa3161e41cb72", func := "colonnade/colonnadelaw03.LanesSums", spec := "lanesSums", inPlace := ["math/bits.Add64"], unfollowed := true, recurses := true, apart := false, narrowed := true }
def LanesSumsUptoSaid : Prop := lanesSumsUptoRow.holds Try.pinned (OpenSpec.upto lanesSumsSpec)

/-- 'colonnadelaw03.LanesBetweens', WHERE WHAT IT READS IS OF BULK AT MOST 1048576: true; the input reads as it did. -/
def lanesBetweensUptoRow : OpenClaim := { program := "ytffakcgcemaokaa", sum := "23b91fd045ef2667bfb5dc05f4b8d48ee90a421f5210c7b060caa3161e41cb72", func := "colonnade/colonnadelaw03.LanesBetweens", spec := "lanesBetweens", inPlace := ["math/bits.Add64"], unfollowed := true, recurses := true, apart := false, narrowed := true }
def LanesBetweensUptoSaid : Prop := lanesBetweensUptoRow.holds Try.pinned (OpenSpec.upto lanesBetweensSpec)

/-- 'colonnadelaw03.LanesEmpty', WHERE WHAT IT READS IS OF BULK AT MOST 1048576: true; the input reads as it did. -/
def lanesEmptyUptoRow : OpenClaim := { program := "ytffakcgcemaokaa", sum := "23b91fd045ef2667bfb5dc05f4b8d48ee90a421f5210c7b060caa3161e41cb72", func := "colonnade/colonnadelaw03.LanesEmpty", spec := "lanesEmpty", inPlace := ["math/bits.Add64"], unfollowed := true, recurses := true, apart := false, narrowed := true }
def LanesEmptyUptoSaid : Prop := lanesEmptyUptoRow.holds Try.pinned (OpenSpec.upto lanesEmptySpec)

/-- 'colonnadelaw03.LanesWidths', WHERE WHAT IT READS IS OF BULK AT MOST 1048576: true; the input reads as it did. -/
def lanesWidthsUptoRow : OpenClaim := { program := "ytffakcgcemaokaa", sum := "23b91fd045ef2667bfb5dc05f4b8d48ee90a421f5210c7b060caa3161e41cb72", func := "colonnade/colonnadelaw03.LanesWidths", spec := "lanesWidths", inPlace := ["math/bits.Add64"], unfollowed := true, recurses := true, apart := false, narrowed := true }
def LanesWidthsUptoSaid : Prop := lanesWidthsUptoRow.holds Try.pinned (OpenSpec.upto lanesWidthsSpec)

/-- 'colonnadelaw03.LanesAlgebra', WHERE WHAT IT READS IS OF BULK AT MOST 1048576: true; the input reads as it did. -/
def lanesAlgebraUptoRow : OpenClaim := { program := "ytffakcgcemaokaa", sum := "23b91fd045ef2667bfb5dc05f4b8d48ee90a421f5210c7b060caa3161e41cb72", func := "colonnade/colonnadelaw03.LanesAlgebra", spec := "lanesAlgebra", inPlace := ["math/bits.Add64"], unfollowed := true, recurses := true, apart := false, narrowed := true }
def LanesAlgebraUptoSaid : Prop := lanesAlgebraUptoRow.holds Try.pinned (OpenSpec.upto lanesAlgebraSpec)

/-- 'colonnadelaw03.LanesPacked', WHERE WHAT IT READS IS OF BULK AT MOST 1048576: true; the input reads as it did. -/
def lanesPackedUptoRow : OpenClaim := { program := "ytffakcgcemaokaa", sum := "23b91fd045ef2667bfb5dc05f4b8d48ee90a421f5210c7b060caa3161e41cb72", func := "colonnade/colonnadelaw03.LanesPacked", spec := "lanesPacked", inPlace := ["math/bits.Add64"], unfollowed := true, recurses := true, apart := false, narrowed := true }
def LanesPackedUptoSaid : Prop := lanesPackedUptoRow.holds Try.pinned (OpenSpec.upto lanesPackedSpec)

/-- 'colonnadelaw03.LanesOwn', WHERE WHAT IT READS IS OF BULK AT MOST 1048576: true; the input reads as it did. -/
def lanesOwnUptoRow : OpenClaim := { program := "ytffakcgcemaokaa", sum := "23b91fd045ef2667bfb5dc05f4b8d48ee90a421f5210c7b060caa3161e41cb72", func := "colonnade/colonnadelaw03.LanesOwn", spec := "lanesOwn", inPlace := ["math/bits.Add64"], unfollowed := true, recurses := true, apart := false, narrowed := true }
def LanesOwnUptoSaid : Prop := lanesOwnUptoRow.holds Try.pinned (OpenSpec.upto lanesOwnSpec)

end Rows
end Go.Proofs.Ytffakcgcemaokaa
