/-
  DERIVED. GIVEN WITH THE SEED: THE CARDS: each row of YtcbinafokhekmaaDoorRows.lean that lists a variable, with what it lists TIED to the program's text (the seventh form; the later family's looks); each row that meets fmt, with fmt's text TOLD by the authors' own Lean function (tested against real Go, not proved from fmt's source: count such statements apart). THE CARD IS WHAT COUNTS. Prove the row's statement (the work); the ties are given (YtcbinafokhekmaaDoorTie.lean); close each card by the builder's one call (the guide's Derived/Test/ToyasCard.lean, 'card_holds'). Laid BY PROGRAM, IN A SANDBOX (cutbox-door.mjs). By AI agents, Wed Nov 11 2026. No macro, syntax, notation, axiom, sorry.
-/
import Derived.Test.YtcbinafokhekmaaDoorRows
import GoSem.ClaimSeven
namespace Go.Proofs.YtcbinafokhekmaaDoor
namespace Rows

/-- THE TIED CARD OF 'ringworklaw12.CalcHomes'. -/
def calcHomesCard : Claim7 := { stood := { row := calcHomesRow, standIns := [], harness := (true, "d6995f5a51d3bed35dce2e53e4a589e06f85951d9dc4e767120d417c973f66e4"), looks := false }, kinds := [], alts := [], laidByText := true, laidKinds := [.data, .data, .data], laidTests := true, laidLooks := .later }
def CalcHomesCardSaid : Prop := Claim7.holds Tryd.pinned (.plain (OpenSpec.ofChange calcHomesSpec)) calcHomesCard

/-- THE TIED CARD OF 'ringworklaw12.CalcWrong'. -/
def calcWrongCard : Claim7 := { stood := { row := calcWrongRow, standIns := [], harness := (true, "d6995f5a51d3bed35dce2e53e4a589e06f85951d9dc4e767120d417c973f66e4"), looks := false }, kinds := [], alts := [], laidByText := true, laidKinds := [.data, .data, .data], laidTests := true, laidLooks := .later }
def CalcWrongCardSaid : Prop := Claim7.holds Tryd.pinned (.plain (OpenSpec.ofChange calcWrongSpec)) calcWrongCard

/-- THE SECOND FORM's CARD OF 'ringworklaw12.CalcHomes'. -/
def calcHomesUptoCard : Claim7 := { stood := { row := calcHomesUptoRow, standIns := [], harness := (true, "d6995f5a51d3bed35dce2e53e4a589e06f85951d9dc4e767120d417c973f66e4"), looks := false }, kinds := [], alts := [], laidByText := true, laidKinds := [.data, .data, .data], laidTests := true, laidLooks := .later }
def CalcHomesUptoCardSaid : Prop := Claim7.holds Tryd.pinned (.plain (OpenSpec.upto calcHomesSpec)) calcHomesUptoCard

/-- THE SECOND FORM's CARD OF 'ringworklaw12.CalcWrong'. -/
def calcWrongUptoCard : Claim7 := { stood := { row := calcWrongUptoRow, standIns := [], harness := (true, "d6995f5a51d3bed35dce2e53e4a589e06f85951d9dc4e767120d417c973f66e4"), looks := false }, kinds := [], alts := [], laidByText := true, laidKinds := [.data, .data, .data], laidTests := true, laidLooks := .later }
def CalcWrongUptoCardSaid : Prop := Claim7.holds Tryd.pinned (.plain (OpenSpec.upto calcWrongSpec)) calcWrongUptoCard
end Rows
end Go.Proofs.YtcbinafokhekmaaDoor
