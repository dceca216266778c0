/-
  DERIVED. GIVEN WITH THE SEED: THE CARDS: each row of YtpemffaclmpnnaaDoorRows.lean that lists a variable, with what it lists TIED to the program's text (the seventh form; the later family's looks); each row that meets fmt, with fmt's text TOLD by the authors' own Lean function (tested against real Go, not proved from fmt's source: count such statements apart). THE CARD IS WHAT COUNTS. Prove the row's statement (the work); the ties are given (YtpemffaclmpnnaaDoorTie.lean); close each card by the builder's one call (the guide's Derived/Test/ToyasCard.lean, 'card_holds'). Laid BY PROGRAM, IN A SANDBOX (cutbox-door.mjs). By AI agents, Wed Nov 11 2026. No macro, syntax, notation, axiom, sorry.
-/
import Derived.Test.YtpemffaclmpnnaaDoorRows
import GoSem.ClaimSeven
namespace Go.Proofs.YtpemffaclmpnnaaDoor
namespace Rows

/-- THE TIED CARD OF 'colonnadelaw01.BitsCounts'. -/
def bitsCountsCard : Claim7 := { stood := { row := bitsCountsRow, standIns := [], harness := (true, "d6c794fc80adb808b5d5a7682138abd6c4d3757613436974613106213b9933fd"), looks := false }, kinds := [], alts := [], laidByText := true, laidKinds := [.data], laidTests := true, laidLooks := .later }
def BitsCountsCardSaid : Prop := Claim7.holds Tryd.pinned (.plain (OpenSpec.ofChange bitsCountsSpec)) bitsCountsCard

/-- THE TIED CARD OF 'colonnadelaw01.BitsWalks'. -/
def bitsWalksCard : Claim7 := { stood := { row := bitsWalksRow, standIns := [], harness := (true, "d6c794fc80adb808b5d5a7682138abd6c4d3757613436974613106213b9933fd"), looks := false }, kinds := [], alts := [], laidByText := true, laidKinds := [.data], laidTests := true, laidLooks := .later }
def BitsWalksCardSaid : Prop := Claim7.holds Tryd.pinned (.plain (OpenSpec.ofChange bitsWalksSpec)) bitsWalksCard

/-- THE TIED CARD OF 'colonnadelaw01.BitsPieces'. -/
def bitsPiecesCard : Claim7 := { stood := { row := bitsPiecesRow, standIns := [], harness := (true, "d6c794fc80adb808b5d5a7682138abd6c4d3757613436974613106213b9933fd"), looks := false }, kinds := [], alts := [], laidByText := true, laidKinds := [.data], laidTests := true, laidLooks := .later }
def BitsPiecesCardSaid : Prop := Claim7.holds Tryd.pinned (.plain (OpenSpec.ofChange bitsPiecesSpec)) bitsPiecesCard

/-- THE TIED CARD OF 'colonnadelaw01.BitsNames'. -/
def bitsNamesCard : Claim7 := { stood := { row := bitsNamesRow, standIns := [], harness := (true, "d6c794fc80adb808b5d5a7682138abd6c4d3757613436974613106213b9933fd"), looks := false }, kinds := [], alts := [], laidByText := true, laidKinds := [.data], laidTests := true, laidLooks := .later }
def BitsNamesCardSaid : Prop := Claim7.holds Tryd.pinned (.plain (OpenSpec.ofChange bitsNamesSpec)) bitsNamesCard

/-- THE TIED CARD OF 'colonnadelaw01.BitsAlgebra'. -/
def bitsAlgebraCard : Claim7 := { stood := { row := bitsAlgebraRow, standIns := [], harness := (true, "d6c794fc80adb808b5d5a7682138abd6c4d3757613436974613106213b9933fd"), looks := false }, kinds := [], alts := [], laidByText := true, laidKinds := [.data], laidTests := true, laidLooks := .later }
def BitsAlgebraCardSaid : Prop := Claim7.holds Tryd.pinned (.plain (OpenSpec.ofChange bitsAlgebraSpec)) bitsAlgebraCard

/-- THE TIED CARD OF 'colonnadelaw01.BitsScripts'. -/
def bitsScriptsCard : Claim7 := { stood := { row := bitsScriptsRow, standIns := [], harness := (true, "d6c794fc80adb808b5d5a7682138abd6c4d3757613436974613106213b9933fd"), looks := false }, kinds := [], alts := [], laidByText := true, laidKinds := [.data], laidTests := true, laidLooks := .later }
def BitsScriptsCardSaid : Prop := Claim7.holds Tryd.pinned (.plain (OpenSpec.ofChange bitsScriptsSpec)) bitsScriptsCard

/-- THE TIED CARD OF 'colonnadelaw01.BitsMemory'. -/
def bitsMemoryCard : Claim7 := { stood := { row := bitsMemoryRow, standIns := [], harness := (true, "d6c794fc80adb808b5d5a7682138abd6c4d3757613436974613106213b9933fd"), looks := false }, kinds := [], alts := [], laidByText := true, laidKinds := [.data], laidTests := true, laidLooks := .later }
def BitsMemoryCardSaid : Prop := Claim7.holds Tryd.pinned (.plain (OpenSpec.ofChange bitsMemorySpec)) bitsMemoryCard

/-- THE SECOND FORM's CARD OF 'colonnadelaw01.BitsCounts'. -/
def bitsCountsUptoCard : Claim7 := { stood := { row := bitsCountsUptoRow, standIns := [], harness := (true, "d6c794fc80adb808b5d5a7682138abd6c4d3757613436974613106213b9933fd"), looks := false }, kinds := [], alts := [], laidByText := true, laidKinds := [.data], laidTests := true, laidLooks := .later }
def BitsCountsUptoCardSaid : Prop := Claim7.holds Tryd.pinned (.plain (OpenSpec.upto bitsCountsSpec)) bitsCountsUptoCard

/-- THE SECOND FORM's CARD OF 'colonnadelaw01.BitsWalks'. -/
def bitsWalksUptoCard : Claim7 := { stood := { row := bitsWalksUptoRow, standIns := [], harness := (true, "d6c794fc80adb808b5d5a7682138abd6c4d3757613436974613106213b9933fd"), looks := false }, kinds := [], alts := [], laidByText := true, laidKinds := [.data], laidTests := true, laidLooks := .later }
def BitsWalksUptoCardSaid : Prop := Claim7.holds Tryd.pinned (.plain (OpenSpec.upto bitsWalksSpec)) bitsWalksUptoCard

/-- THE SECOND FORM's CARD OF 'colonnadelaw01.BitsPieces'. -/
def bitsPiecesUptoCard : Claim7 := { stood := { row := bitsPiecesUptoRow, standIns := [], harness := (true, "d6c794fc80adb808b5d5a7682138abd6c4d3757613436974613106213b9933fd"), looks := false }, kinds := [], alts := [], laidByText := true, laidKinds := [.data], laidTests := true, laidLooks := .later }
def BitsPiecesUptoCardSaid : Prop := Claim7.holds Tryd.pinned (.plain (OpenSpec.upto bitsPiecesSpec)) bitsPiecesUptoCard

/-- THE SECOND FORM's CARD OF 'colonnadelaw01.BitsNames'. -/
def bitsNamesUptoCard : Claim7 := { stood := { row := bitsNamesUptoRow, standIns := [], harness := (true, "d6c794fc80adb808b5d5a7682138abd6c4d3757613436974613106213b9933fd"), looks := false }, kinds := [], alts := [], laidByText := true, laidKinds := [.data], laidTests := true, laidLooks := .later }
def BitsNamesUptoCardSaid : Prop := Claim7.holds Tryd.pinned (.plain (OpenSpec.upto bitsNamesSpec)) bitsNamesUptoCard

/-- THE SECOND FORM's CARD OF 'colonnadelaw01.BitsAlgebra'. -/
def bitsAlgebraUptoCard : Claim7 := { stood := { row := bitsAlgebraUptoRow, standIns := [], harness := (true, "d6c794fc80adb808b5d5a7682138abd6c4d3757613436974613106213b9933fd"), looks := false }, kinds := [], alts := [], laidByText := true, laidKinds := [.data], laidTests := true, laidLooks := .later }
def BitsAlgebraUptoCardSaid : Prop := Claim7.holds Tryd.pinned (.plain (OpenSpec.upto bitsAlgebraSpec)) bitsAlgebraUptoCard

/-- THE SECOND FORM's CARD OF 'colonnadelaw01.BitsScripts'. -/
def bitsScriptsUptoCard : Claim7 := { stood := { row := bitsScriptsUptoRow, standIns := [], harness := (true, "d6c794fc80adb808b5d5a7682138abd6c4d3757613436974613106213b9933fd"), looks := false }, kinds := [], alts := [], laidByText := true, laidKinds := [.data], laidTests := true, laidLooks := .later }
def BitsScriptsUptoCardSaid : Prop := Claim7.holds Tryd.pinned (.plain (OpenSpec.upto bitsScriptsSpec)) bitsScriptsUptoCard

/-- THE SECOND FORM's CARD OF 'colonnadelaw01.BitsMemory'. -/
def bitsMemoryUptoCard : Claim7 := { stood := { row := bitsMemoryUptoRow, standIns := [], harness := (true, "d6c794fc80adb808b5d5a7682138abd6c4d3757613436974613106213b9933fd"), looks := false }, kinds := [], alts := [], laidByText := true, laidKinds := [.data], laidTests := true, laidLooks := .later }
def BitsMemoryUptoCardSaid : Prop := Claim7.holds Tryd.pinned (.plain (OpenSpec.upto bitsMemorySpec)) bitsMemoryUptoCard
end Rows
end Go.Proofs.YtpemffaclmpnnaaDoor
