/-
  NARROWER THAN 'FOR EVERY INPUT', by the rows' own cells (each row's printed sentence says how): BitsCounts: laid · BitsWalks: laid · BitsPieces: laid · BitsNames: laid · BitsAlgebra: laid · BitsScripts: laid · BitsMemory: laid.
  DERIVED. THE GIVEN ROWS OF THIS SEAT. 7 by the template 'for every input the law returns true; each argument reads behind the call as it read before'; 0 by the template 'total and deterministic' (their statements: YtpemffaclmpnnaaDoorTotals.lean).
  GIVEN WITH THE SEED: the statements are not yours to turn. If you find one false, say at which input.
  Laid BY PROGRAM, IN A SANDBOX (cutbox-rows.mjs): the forced cells as the released guide's own fill.sh prints them over the translation 505e25cb6b830820… (all of the seat's roots in one cut). By AI agents, Wed Nov 11 2026. No macro, syntax, notation, axiom, sorry.
-/
import Derived.Test.YtpemffaclmpnnaaDoorChecked
import GoSem.Claim
import GoSem.ClaimJoined
import GoSem.ClaimMapViews
import Derived.JoinedTies
import Derived.KernelRfl
namespace Go.Proofs.YtpemffaclmpnnaaDoor
/- THE CELL 'sum', in the pinned program and in every row, IS THE sha256 OF THE DUMP (.gsa) THAT YtpemffaclmpnnaaDoorProg.lean LOADS. Nothing in Lean hashes anything: it is a label: what it is worth is what the hold of that sum in a sandbox is worth. -/
noncomputable def Tryd.pinned : Pinned := { name := "ytpemffaclmpnnaadoor", sum := "505e25cb6b830820e45df2ec8b3ee12d5cc3510412ea37e2a2e7bb716520ccca", checked := Tryd.checked }
namespace Rows
def none {H : Type} : Left H := { results := [], args := [] }

/- WHAT THE LISTED PACKAGE-LEVEL VARIABLES READ AS WHEN THE CALL BEGINS. Each datum BY PROGRAM (the guide's laid-datum.mjs) off the statement by which the dump's own 'gosem.cut.vars' lays the variable. In a bare row this is a premise. The card (YtpemffaclmpnnaaDoorCards.lean) ties it to the program's text. -/
def laid_math_bits_deBruijn64tab {H : Type} : DataW H := .agg [.lit (.int .u8 0), .lit (.int .u8 1), .lit (.int .u8 56), .lit (.int .u8 2), .lit (.int .u8 57), .lit (.int .u8 49), .lit (.int .u8 28), .lit (.int .u8 3), .lit (.int .u8 61), .lit (.int .u8 58), .lit (.int .u8 42), .lit (.int .u8 50), .lit (.int .u8 38), .lit (.int .u8 29), .lit (.int .u8 17), .lit (.int .u8 4), .lit (.int .u8 62), .lit (.int .u8 47), .lit (.int .u8 59), .lit (.int .u8 36), .lit (.int .u8 45), .lit (.int .u8 43), .lit (.int .u8 51), .lit (.int .u8 22), .lit (.int .u8 53), .lit (.int .u8 39), .lit (.int .u8 33), .lit (.int .u8 30), .lit (.int .u8 24), .lit (.int .u8 18), .lit (.int .u8 12), .lit (.int .u8 5), .lit (.int .u8 63), .lit (.int .u8 55), .lit (.int .u8 48), .lit (.int .u8 27), .lit (.int .u8 60), .lit (.int .u8 41), .lit (.int .u8 37), .lit (.int .u8 16), .lit (.int .u8 46), .lit (.int .u8 35), .lit (.int .u8 44), .lit (.int .u8 21), .lit (.int .u8 52), .lit (.int .u8 32), .lit (.int .u8 23), .lit (.int .u8 11), .lit (.int .u8 54), .lit (.int .u8 26), .lit (.int .u8 40), .lit (.int .u8 15), .lit (.int .u8 34), .lit (.int .u8 20), .lit (.int .u8 31), .lit (.int .u8 10), .lit (.int .u8 25), .lit (.int .u8 14), .lit (.int .u8 19), .lit (.int .u8 9), .lit (.int .u8 13), .lit (.int .u8 8), .lit (.int .u8 7), .lit (.int .u8 6)]

/-- 'colonnadelaw01.BitsCounts': WHATEVER THE INPUT: true; the input reads as it did. -/
def bitsCountsSpec : ChangeSpec := { name := "bitsCounts", fn := fun _ => fun
  | [d1, d2] => { results := [.lit (.bool true)], args := [d1, d2] }
  | _ => none }
def bitsCountsRow : OpenClaim := { program := "ytpemffaclmpnnaadoor", sum := "505e25cb6b830820e45df2ec8b3ee12d5cc3510412ea37e2a2e7bb716520ccca", func := "colonnade/colonnadelaw01.BitsCounts", spec := "bitsCounts", unfollowed := true, recurses := true, named := ["math/bits.deBruijn64tab"], apart := false, laid := [("math/bits.deBruijn64tab", laid_math_bits_deBruijn64tab)] }
def BitsCountsSaid : Prop := bitsCountsRow.holds Tryd.pinned (OpenSpec.ofChange bitsCountsSpec)

/-- ITS FALSE NEIGHBOUR: 'it returns false'. Refute it at one input. -/
def bitsCountsWrong : ChangeSpec := { name := "bitsCounts", fn := fun _ => fun
  | [d1, d2] => { results := [.lit (.bool false)], args := [d1, d2] }
  | _ => none }
def BitsCountsWrongFalsely : Prop := bitsCountsRow.holds Tryd.pinned (OpenSpec.ofChange bitsCountsWrong)

/-- 'colonnadelaw01.BitsWalks': WHATEVER THE INPUT: true; the input reads as it did. -/
def bitsWalksSpec : ChangeSpec := { name := "bitsWalks", fn := fun _ => fun
  | [d1, d2] => { results := [.lit (.bool true)], args := [d1, d2] }
  | _ => none }
def bitsWalksRow : OpenClaim := { program := "ytpemffaclmpnnaadoor", sum := "505e25cb6b830820e45df2ec8b3ee12d5cc3510412ea37e2a2e7bb716520ccca", func := "colonnade/colonnadelaw01.BitsWalks", spec := "bitsWalks", unfollowed := true, recurses := true, named := ["math/bits.deBruijn64tab"], apart := false, laid := [("math/bits.deBruijn64tab", laid_math_bits_deBruijn64tab)] }
def BitsWalksSaid : Prop := bitsWalksRow.holds Tryd.pinned (OpenSpec.ofChange bitsWalksSpec)

/-- ITS FALSE NEIGHBOUR: 'it returns false'. Refute it at one input. -/
def bitsWalksWrong : ChangeSpec := { name := "bitsWalks", fn := fun _ => fun
  | [d1, d2] => { results := [.lit (.bool false)], args := [d1, d2] }
  | _ => none }
def BitsWalksWrongFalsely : Prop := bitsWalksRow.holds Tryd.pinned (OpenSpec.ofChange bitsWalksWrong)

/-- 'colonnadelaw01.BitsPieces': WHATEVER THE INPUT: true; the input reads as it did. -/
def bitsPiecesSpec : ChangeSpec := { name := "bitsPieces", fn := fun _ => fun
  | [d1, d2] => { results := [.lit (.bool true)], args := [d1, d2] }
  | _ => none }
def bitsPiecesRow : OpenClaim := { program := "ytpemffaclmpnnaadoor", sum := "505e25cb6b830820e45df2ec8b3ee12d5cc3510412ea37e2a2e7bb716520ccca", func := "colonnade/colonnadelaw01.BitsPieces", spec := "bitsPieces", unfollowed := true, recurses := true, named := ["math/bits.deBruijn64tab"], apart := false, laid := [("math/bits.deBruijn64tab", laid_math_bits_deBruijn64tab)] }
def BitsPiecesSaid : Prop := bitsPiecesRow.holds Tryd.pinned (OpenSpec.ofChange bitsPiecesSpec)

/-- ITS FALSE NEIGHBOUR: 'it returns false'. Refute it at one input. -/
def bitsPiecesWrong : ChangeSpec := { name := "bitsPieces", fn := fun _ => fun
  | [d1, d2] => { results := [.lit (.bool false)], args := [d1, d2] }
  | _ => none }
def BitsPiecesWrongFalsely : Prop := bitsPiecesRow.holds Tryd.pinned (OpenSpec.ofChange bitsPiecesWrong)

/-- 'colonnadelaw01.BitsNames': WHATEVER THE INPUT: true; the input reads as it did. -/
def bitsNamesSpec : ChangeSpec := { name := "bitsNames", fn := fun _ => fun
  | [] => { results := [.lit (.bool true)], args := [] }
  | _ => none }
def bitsNamesRow : OpenClaim := { program := "ytpemffaclmpnnaadoor", sum := "505e25cb6b830820e45df2ec8b3ee12d5cc3510412ea37e2a2e7bb716520ccca", func := "colonnade/colonnadelaw01.BitsNames", spec := "bitsNames", unfollowed := true, recurses := true, named := ["math/bits.deBruijn64tab"], apart := false, laid := [("math/bits.deBruijn64tab", laid_math_bits_deBruijn64tab)] }
def BitsNamesSaid : Prop := bitsNamesRow.holds Tryd.pinned (OpenSpec.ofChange bitsNamesSpec)

/-- ITS FALSE NEIGHBOUR: 'it returns false'. Refute it at one input. -/
def bitsNamesWrong : ChangeSpec := { name := "bitsNames", fn := fun _ => fun
  | [] => { results := [.lit (.bool false)], args := [] }
  | _ => none }
def BitsNamesWrongFalsely : Prop := bitsNamesRow.holds Tryd.pinned (OpenSpec.ofChange bitsNamesWrong)

/-- 'colonnadelaw01.BitsAlgebra': WHATEVER THE INPUT: true; the input reads as it did. -/
def bitsAlgebraSpec : ChangeSpec := { name := "bitsAlgebra", fn := fun _ => fun
  | [d1, d2, d3] => { results := [.lit (.bool true)], args := [d1, d2, d3] }
  | _ => none }
def bitsAlgebraRow : OpenClaim := { program := "ytpemffaclmpnnaadoor", sum := "505e25cb6b830820e45df2ec8b3ee12d5cc3510412ea37e2a2e7bb716520ccca", func := "colonnade/colonnadelaw01.BitsAlgebra", spec := "bitsAlgebra", unfollowed := true, recurses := true, named := ["math/bits.deBruijn64tab"], apart := false, laid := [("math/bits.deBruijn64tab", laid_math_bits_deBruijn64tab)] }
def BitsAlgebraSaid : Prop := bitsAlgebraRow.holds Tryd.pinned (OpenSpec.ofChange bitsAlgebraSpec)

/-- ITS FALSE NEIGHBOUR: 'it returns false'. Refute it at one input. -/
def bitsAlgebraWrong : ChangeSpec := { name := "bitsAlgebra", fn := fun _ => fun
  | [d1, d2, d3] => { results := [.lit (.bool false)], args := [d1, d2, d3] }
  | _ => none }
def BitsAlgebraWrongFalsely : Prop := bitsAlgebraRow.holds Tryd.pinned (OpenSpec.ofChange bitsAlgebraWrong)

/-- 'colonnadelaw01.BitsScripts': WHATEVER THE INPUT: true; the input reads as it did. -/
def bitsScriptsSpec : ChangeSpec := { name := "bitsScripts", fn := fun _ => fun
  | [d] => { results := [.lit (.bool true)], args := [d] }
  | _ => none }
def bitsScriptsRow : OpenClaim := { program := "ytpemffaclmpnnaadoor", sum := "505e25cb6b830820e45df2ec8b3ee12d5cc3510412ea37e2a2e7bb716520ccca", func := "colonnade/colonnadelaw01.BitsScripts", spec := "bitsScripts", unfollowed := true, recurses := true, named := ["math/bits.deBruijn64tab"], apart := false, laid := [("math/bits.deBruijn64tab", laid_math_bits_deBruijn64tab)] }
def BitsScriptsSaid : Prop := bitsScriptsRow.holds Tryd.pinned (OpenSpec.ofChange bitsScriptsSpec)

/-- ITS FALSE NEIGHBOUR: 'it returns false'. Refute it at one input. -/
def bitsScriptsWrong : ChangeSpec := { name := "bitsScripts", fn := fun _ => fun
  | [d] => { results := [.lit (.bool false)], args := [d] }
  | _ => none }
def BitsScriptsWrongFalsely : Prop := bitsScriptsRow.holds Tryd.pinned (OpenSpec.ofChange bitsScriptsWrong)

/-- 'colonnadelaw01.BitsMemory': WHATEVER THE INPUT: true; the input reads as it did. -/
def bitsMemorySpec : ChangeSpec := { name := "bitsMemory", fn := fun _ => fun
  | [d1, d2, d3] => { results := [.lit (.bool true)], args := [d1, d2, d3] }
  | _ => none }
def bitsMemoryRow : OpenClaim := { program := "ytpemffaclmpnnaadoor", sum := "505e25cb6b830820e45df2ec8b3ee12d5cc3510412ea37e2a2e7bb716520ccca", func := "colonnade/colonnadelaw01.BitsMemory", spec := "bitsMemory", unfollowed := true, recurses := true, named := ["math/bits.deBruijn64tab"], apart := false, laid := [("math/bits.deBruijn64tab", laid_math_bits_deBruijn64tab)] }
def BitsMemorySaid : Prop := bitsMemoryRow.holds Tryd.pinned (OpenSpec.ofChange bitsMemorySpec)

/-- ITS FALSE NEIGHBOUR: 'it returns false'. Refute it at one input. -/
def bitsMemoryWrong : ChangeSpec := { name := "bitsMemory", fn := fun _ => fun
  | [d1, d2, d3] => { results := [.lit (.bool false)], args := [d1, d2, d3] }
  | _ => none }
def BitsMemoryWrongFalsely : Prop := bitsMemoryRow.holds Tryd.pinned (OpenSpec.ofChange bitsMemoryWrong)

/- THE SECOND FORM. 'bulk': how many values and letters a reading holds, each counted each time it is reached (what is shared counts as often as it is met; a slice's spare places count too). A statement '..UptoSaid' is the law's where the arguments, and the package variables that the reading takes, are together of bulk at most 1048576: NARROWER than '..Said'. Prove '..Said' where nothing that the law and all that it calls make is longer than what came in: it says more and counts as full. Else prove '..UptoSaid'. A law counts once. -/
mutual
def uptoBulk {H : Type} : DataW H → Nat
  | .lit (.string bytes) => bytes.length + 1
  | .lit _ => 1
  | .nil => 1
  | .ptr d => uptoBulk d + 1
  | .slice elems spare => uptoBulkAll elems + uptoBulkAll spare + 1
  | .agg parts => uptoBulkAll parts + 1
  | .iface _ d => uptoBulk d + 1
  | .map entries => uptoBulkEntries entries + 1
  | .held _ => 1
def uptoBulkAll {H : Type} : List (DataW H) → Nat
  | [] => 0
  | d :: r => uptoBulk d + uptoBulkAll r
def uptoBulkEntries {H : Type} : List (Lit × DataW H) → Nat
  | [] => 0
  | x :: r => uptoBulkEntry x + uptoBulkEntries r
def uptoBulkEntry {H : Type} : Lit × DataW H → Nat
  | (.string bytes, d) => bytes.length + uptoBulk d + 1
  | (_, d) => uptoBulk d + 1
 end
def uptoSmall : (H : Type) → List (DataW H) → Bool := fun _ ds => decide (uptoBulkAll ds ≤ 1048576)
def OpenSpec.upto (s : _root_.Go.ChangeSpec) : _root_.Go.OpenSpec := { _root_.Go.OpenSpec.ofChange s with cond := some uptoSmall }

/-- 'colonnadelaw01.BitsCounts', WHERE WHAT IT READS IS OF BULK AT MOST 1048576: true; the input reads as it did. -/
def bitsCountsUptoRow : OpenClaim := { program := "ytpemffaclmpnnaadoor", sum := "505e25cb6b830820e45df2ec8b3ee12d5cc3510412ea37e2a2e7bb716520ccca", func := "colonnade/colonnadelaw01.BitsCounts", spec := "bitsCounts", unfollowed := true, recurses := true, named := ["math/bits.deBruijn64tab"], apart := false, laid := [("math/bits.deBruijn64tab", laid_math_bits_deBruijn64tab)], narrowed := true }
def BitsCountsUptoSaid : Prop := bitsCountsUptoRow.holds Tryd.pinned (OpenSpec.upto bitsCountsSpec)

/-- 'colonnadelaw01.BitsWalks', WHERE WHAT IT READS IS OF BULK AT MOST 1048576: true; the input reads as it did. -/
def bitsWalksUptoRow : OpenClaim := { program := "ytpemffaclmpnnaadoor", sum := "505e25cb6b830820e45df2ec8b3ee12d5cc3510412ea37e2a2e7bb716520ccca", func := "colonnade/colonnadelaw01.BitsWalks", spec := "bitsWalks", unfollowed := true, recurses := true, named := ["math/bits.deBruijn64tab"], apart := false, laid := [("math/bits.deBruijn64tab", laid_math_bits_deBruijn64tab)], narrowed := true }
def BitsWalksUptoSaid : Prop := bitsWalksUptoRow.holds Tryd.pinned (OpenSpec.upto bitsWalksSpec)

/-- 'colonnadelaw01.BitsPieces', WHERE WHAT IT READS IS OF BULK AT MOST 1048576: true; the input reads as it did. -/
def bitsPiecesUptoRow : OpenClaim := { program := "ytpemffaclmpnnaadoor", sum := "505e25cb6b830820e45df2ec8b3ee12d5cc3510412ea37e2a2e7bb716520ccca", func := "colonnade/colonnadelaw01.BitsPieces", spec := "bitsPieces", unfollowed := true, recurses := true, named := ["math/bits.deBruijn64tab"], apart := false, laid := [("math/bits.deBruijn64tab", laid_math_bits_deBruijn64tab)], narrowed := true }
def BitsPiecesUptoSaid : Prop := bitsPiecesUptoRow.holds Tryd.pinned (OpenSpec.upto bitsPiecesSpec)

/-- 'colonnadelaw01.BitsNames', WHERE WHAT IT READS IS OF BULK AT MOST 1048576: true; the input reads as it did. -/
def bitsNamesUptoRow : OpenClaim := { program := "ytpemffaclmpnnaadoor", sum := "505e25cb6b830820e45df2ec8b3ee12d5cc3510412ea37e2a2e7bb716520ccca", func := "colonnade/colonnadelaw01.BitsNames", spec := "bitsNames", unfollowed := true, recurses := true, named := ["math/bits.deBruijn64tab"], apart := false, laid := [("math/bits.deBruijn64tab", laid_math_bits_deBruijn64tab)], narrowed := true }
def BitsNamesUptoSaid : Prop := bitsNamesUptoRow.holds Tryd.pinned (OpenSpec.upto bitsNamesSpec)

/-- 'colonnadelaw01.BitsAlgebra', WHERE WHAT IT READS IS OF BULK AT MOST 1048576: true; the input reads as it did. -/
def bitsAlgebraUptoRow : OpenClaim := { program := "ytpemffaclmpnnaadoor", sum := "505e25cb6b830820e45df2ec8b3ee12d5cc3510412ea37e2a2e7bb716520ccca", func := "colonnade/colonnadelaw01.BitsAlgebra", spec := "bitsAlgebra", unfollowed := true, recurses := true, named := ["math/bits.deBruijn64tab"], apart := false, laid := [("math/bits.deBruijn64tab", laid_math_bits_deBruijn64tab)], narrowed := true }
def BitsAlgebraUptoSaid : Prop := bitsAlgebraUptoRow.holds Tryd.pinned (OpenSpec.upto bitsAlgebraSpec)

/-- 'colonnadelaw01.BitsScripts', WHERE WHAT IT READS IS OF BULK AT MOST 1048576: true; the input reads as it did. -/
def bitsScriptsUptoRow : OpenClaim := { program := "ytpemffaclmpnnaadoor", sum := "505e25cb6b830820e45df2ec8b3ee12d5cc3510412ea37e2a2e7bb716520ccca", func := "colonnade/colonnadelaw01.BitsScripts", spec := "bitsScripts", unfollowed := true, recurses := true, named := ["math/bits.deBruijn64tab"], apart := false, laid := [("math/bits.deBruijn64tab", laid_math_bits_deBruijn64tab)], narrowed := true }
def BitsScriptsUptoSaid : Prop := bitsScriptsUptoRow.holds Tryd.pinned (OpenSpec.upto bitsScriptsSpec)

/-- 'colonnadelaw01.BitsMemory', WHERE WHAT IT READS IS OF BULK AT MOST 1048576: true; the input reads as it did. -/
def bitsMemoryUptoRow : OpenClaim := { program := "ytpemffaclmpnnaadoor", sum := "505e25cb6b830820e45df2ec8b3ee12d5cc3510412ea37e2a2e7bb716520ccca", func := "colonnade/colonnadelaw01.BitsMemory", spec := "bitsMemory", unfollowed := true, recurses := true, named := ["math/bits.deBruijn64tab"], apart := false, laid := [("math/bits.deBruijn64tab", laid_math_bits_deBruijn64tab)], narrowed := true }
def BitsMemoryUptoSaid : Prop := bitsMemoryUptoRow.holds Tryd.pinned (OpenSpec.upto bitsMemorySpec)

end Rows
end Go.Proofs.YtpemffaclmpnnaaDoor
