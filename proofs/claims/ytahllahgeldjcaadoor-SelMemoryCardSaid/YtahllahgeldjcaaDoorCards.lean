/-
  DERIVED. GIVEN WITH THE SEED: THE CARDS: each row of YtahllahgeldjcaaDoorRows.lean that lists a variable, with what it lists TIED to the program's text (the seventh form; the later family's looks); each row that meets fmt, with fmt's text TOLD by the authors' own Lean function (tested against real Go, not proved from fmt's source: count such statements apart). THE CARD IS WHAT COUNTS. Prove the row's statement (the work); the ties are given (YtahllahgeldjcaaDoorTie.lean); close each card by the builder's one call (the guide's Derived/Test/ToyasCard.lean, 'card_holds'). Laid BY PROGRAM, IN A SANDBOX (cutbox-door.mjs). By AI agents, Wed Nov 11 2026. No macro, syntax, notation, axiom, sorry.
-/
import Derived.Test.YtahllahgeldjcaaDoorRows
import GoSem.ClaimSeven
namespace Go.Proofs.YtahllahgeldjcaaDoor
namespace Rows

/-- THE TIED CARD OF 'colonnadelaw04.SelAlgebra'. -/
def selAlgebraCard : Claim7 := { stood := { row := selAlgebraRow, standIns := [], harness := (true, "336d17bf63bb735509250be2e5f81c9b308594e8112454aa8323b18c492a1db9"), looks := true }, kinds := [], alts := [], laidByText := true, laidKinds := [.data], laidTests := true, laidLooks := .later }
def SelAlgebraCardSaid : Prop := Claim7.holds Tryd.pinned (.plain (OpenSpec.ofChange selAlgebraSpec)) selAlgebraCard

/-- THE TIED CARD OF 'colonnadelaw04.SelNames'. -/
def selNamesCard : Claim7 := { stood := { row := selNamesRow, standIns := [], harness := (true, "336d17bf63bb735509250be2e5f81c9b308594e8112454aa8323b18c492a1db9"), looks := true }, kinds := [], alts := [], laidByText := true, laidKinds := [.data], laidTests := true, laidLooks := .later }
def SelNamesCardSaid : Prop := Claim7.holds Tryd.pinned (.plain (OpenSpec.ofChange selNamesSpec)) selNamesCard

/-- THE TIED CARD OF 'colonnadelaw04.SelMemory'. -/
def selMemoryCard : Claim7 := { stood := { row := selMemoryRow, standIns := [], harness := (true, "336d17bf63bb735509250be2e5f81c9b308594e8112454aa8323b18c492a1db9"), looks := true }, kinds := [], alts := [], laidByText := true, laidKinds := [.data], laidTests := true, laidLooks := .later }
def SelMemoryCardSaid : Prop := Claim7.holds Tryd.pinned (.plain (OpenSpec.ofChange selMemorySpec)) selMemoryCard

/-- THE TIED CARD OF 'colonnadelaw04.SelScripts'. -/
def selScriptsCard : Claim7 := { stood := { row := selScriptsRow, standIns := [], harness := (true, "336d17bf63bb735509250be2e5f81c9b308594e8112454aa8323b18c492a1db9"), looks := true }, kinds := [], alts := [], laidByText := true, laidKinds := [.data], laidTests := true, laidLooks := .later }
def SelScriptsCardSaid : Prop := Claim7.holds Tryd.pinned (.plain (OpenSpec.ofChange selScriptsSpec)) selScriptsCard

/-- THE TIED CARD OF 'colonnadelaw04.SelForms'. -/
def selFormsCard : Claim7 := { stood := { row := selFormsRow, standIns := [], harness := (true, "336d17bf63bb735509250be2e5f81c9b308594e8112454aa8323b18c492a1db9"), looks := true }, kinds := [], alts := [], laidByText := true, laidKinds := [.data], laidTests := true, laidLooks := .later }
def SelFormsCardSaid : Prop := Claim7.holds Tryd.pinned (.plain (OpenSpec.ofChange selFormsSpec)) selFormsCard

/-- THE SECOND FORM's CARD OF 'colonnadelaw04.SelAlgebra'. -/
def selAlgebraUptoCard : Claim7 := { stood := { row := selAlgebraUptoRow, standIns := [], harness := (true, "336d17bf63bb735509250be2e5f81c9b308594e8112454aa8323b18c492a1db9"), looks := true }, kinds := [], alts := [], laidByText := true, laidKinds := [.data], laidTests := true, laidLooks := .later }
def SelAlgebraUptoCardSaid : Prop := Claim7.holds Tryd.pinned (.plain (OpenSpec.upto selAlgebraSpec)) selAlgebraUptoCard

/-- THE SECOND FORM's CARD OF 'colonnadelaw04.SelNames'. -/
def selNamesUptoCard : Claim7 := { stood := { row := selNamesUptoRow, standIns := [], harness := (true, "336d17bf63bb735509250be2e5f81c9b308594e8112454aa8323b18c492a1db9"), looks := true }, kinds := [], alts := [], laidByText := true, laidKinds := [.data], laidTests := true, laidLooks := .later }
def SelNamesUptoCardSaid : Prop := Claim7.holds Tryd.pinned (.plain (OpenSpec.upto selNamesSpec)) selNamesUptoCard

/-- THE SECOND FORM's CARD OF 'colonnadelaw04.SelMemory'. -/
def selMemoryUptoCard : Claim7 := { stood := { row := selMemoryUptoRow, standIns := [], harness := (true, "336d17bf63bb735509250be2e5f81c9b308594e8112454aa8323b18c492a1db9"), looks := true }, kinds := [], alts := [], laidByText := true, laidKinds := [.data], laidTests := true, laidLooks := .later }
def SelMemoryUptoCardSaid : Prop := Claim7.holds Tryd.pinned (.plain (OpenSpec.upto selMemorySpec)) selMemoryUptoCard

/-- THE SECOND FORM's CARD OF 'colonnadelaw04.SelScripts'. -/
def selScriptsUptoCard : Claim7 := { stood := { row := selScriptsUptoRow, standIns := [], harness := (true, "336d17bf63bb735509250be2e5f81c9b308594e8112454aa8323b18c492a1db9"), looks := true }, kinds := [], alts := [], laidByText := true, laidKinds := [.data], laidTests := true, laidLooks := .later }
def SelScriptsUptoCardSaid : Prop := Claim7.holds Tryd.pinned (.plain (OpenSpec.upto selScriptsSpec)) selScriptsUptoCard

/-- THE SECOND FORM's CARD OF 'colonnadelaw04.SelForms'. -/
def selFormsUptoCard : Claim7 := { stood := { row := selFormsUptoRow, standIns := [], harness := (true, "336d17bf63bb735509250be2e5f81c9b308594e8112454aa8323b18c492a1db9"), looks := true }, kinds := [], alts := [], laidByText := true, laidKinds := [.data], laidTests := true, laidLooks := .later }
def SelFormsUptoCardSaid : Prop := Claim7.holds Tryd.pinned (.plain (OpenSpec.upto selFormsSpec)) selFormsUptoCard
end Rows
end Go.Proofs.YtahllahgeldjcaaDoor
