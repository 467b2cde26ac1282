/-
  DERIVED. GIVEN WITH THE SEED: THE CARDS: each row of YtpobjheodlkkiaaGreatDoorRows.lean that lists a variable, with what it lists TIED to the program's text (the seventh form; the later family's looks); each row that meets fmt, with fmt's text TOLD by the authors' own Lean function (tested against real Go, not proved from fmt's source: count such statements apart). THE CARD IS WHAT COUNTS. Prove the row's statement (the work); the ties are given (YtpobjheodlkkiaaGreatDoorTie.lean); close each card by the builder's one call (the guide's Derived/Test/ToyasCard.lean, 'card_holds'). Laid BY PROGRAM, IN A SANDBOX (cutbox-door.mjs). By AI agents, Wed Nov 11 2026. No macro, syntax, notation, axiom, sorry.
-/
import Derived.Test.YtpobjheodlkkiaaGreatDoorRows
import GoSem.ClaimSeven
namespace Go.Proofs.YtpobjheodlkkiaaGreatDoor
namespace Rows

/-- THE TIED CARD OF 'ringworklaw09.ChainTexts'. -/
def chainTextsCard : Claim7 := { stood := { row := chainTextsRow, standIns := [], harness := (true, "8ae89ddbef19ff72a07046feb15814938a0cd80e621e33c13ef821c01821c927"), looks := true }, kinds := [], alts := [], laidByText := true, laidKinds := [.data, .data, .data, .data, .sentinel, .sentinel, .pinned], laidTests := true, laidLooks := .later }
def ChainTextsCardSaid : Prop := Claim7.holds Tryz.pinned (.plain (OpenSpec.ofChange chainTextsSpec)) chainTextsCard

/-- THE SECOND FORM's CARD OF 'ringworklaw09.ChainTexts'. -/
def chainTextsUptoCard : Claim7 := { stood := { row := chainTextsUptoRow, standIns := [], harness := (true, "8ae89ddbef19ff72a07046feb15814938a0cd80e621e33c13ef821c01821c927"), looks := true }, kinds := [], alts := [], laidByText := true, laidKinds := [.data, .data, .data, .data, .sentinel, .sentinel, .pinned], laidTests := true, laidLooks := .later }
def ChainTextsUptoCardSaid : Prop := Claim7.holds Tryz.pinned (.plain (OpenSpec.upto chainTextsSpec)) chainTextsUptoCard
end Rows
end Go.Proofs.YtpobjheodlkkiaaGreatDoor
