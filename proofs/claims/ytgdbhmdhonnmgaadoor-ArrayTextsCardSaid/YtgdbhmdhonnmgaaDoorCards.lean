/-
  DERIVED. GIVEN WITH THE SEED: THE CARDS: each row of YtgdbhmdhonnmgaaDoorRows.lean that lists a variable, with what it lists TIED to the program's text (the seventh form; the later family's looks); each row that meets fmt, with fmt's text TOLD by the authors' own Lean function (tested against real Go, not proved from fmt's source: count such statements apart). THE CARD IS WHAT COUNTS. Prove the row's statement (the work); the ties are given (YtgdbhmdhonnmgaaDoorTie.lean); close each card by the builder's one call (the guide's Derived/Test/ToyasCard.lean, 'card_holds'). Laid BY PROGRAM, IN A SANDBOX (cutbox-door.mjs). By AI agents, Wed Nov 11 2026. No macro, syntax, notation, axiom, sorry.
-/
import Derived.Test.YtgdbhmdhonnmgaaDoorRows
import GoSem.ClaimSeven
namespace Go.Proofs.YtgdbhmdhonnmgaaDoor
namespace Rows

/-- THE TIED CARD OF 'ringworklaw10.ArrayTexts'. -/
def arrayTextsCard : Claim7 := { stood := { row := arrayTextsRow, standIns := [], harness := (true, "fa228b73e45113d818090ec7ad67370c9ce4539a3edf2e8dded93b1061f3558d"), looks := true }, kinds := [], alts := [], laidByText := true, laidKinds := [.data, .data, .data, .data, .sentinel, .sentinel, .pinned], laidTests := true, laidLooks := .later }
def ArrayTextsCardSaid : Prop := Claim7.holds Tryd.pinned (.plain (OpenSpec.ofChange arrayTextsSpec)) arrayTextsCard

/-- THE SECOND FORM's CARD OF 'ringworklaw10.ArrayTexts'. -/
def arrayTextsUptoCard : Claim7 := { stood := { row := arrayTextsUptoRow, standIns := [], harness := (true, "fa228b73e45113d818090ec7ad67370c9ce4539a3edf2e8dded93b1061f3558d"), looks := true }, kinds := [], alts := [], laidByText := true, laidKinds := [.data, .data, .data, .data, .sentinel, .sentinel, .pinned], laidTests := true, laidLooks := .later }
def ArrayTextsUptoCardSaid : Prop := Claim7.holds Tryd.pinned (.plain (OpenSpec.upto arrayTextsSpec)) arrayTextsUptoCard
end Rows
end Go.Proofs.YtgdbhmdhonnmgaaDoor
