/-
  DERIVED. GIVEN WITH THE SEED: THE CARDS: each row of YtaciedooeeklpaaGreatDoorRows.lean that lists a variable, with what it lists TIED to the program's text (the seventh form; the later family's looks); each row that meets fmt, with fmt's text TOLD by the authors' own Lean function (tested against real Go, not proved from fmt's source: count such statements apart). THE CARD IS WHAT COUNTS. Prove the row's statement (the work); the ties are given (YtaciedooeeklpaaGreatDoorTie.lean); close each card by the builder's one call (the guide's Derived/Test/ToyasCard.lean, 'card_holds'). Laid BY PROGRAM, IN A SANDBOX (cutbox-door.mjs). By AI agents, Wed Nov 11 2026. No macro, syntax, notation, axiom, sorry.
-/
import Derived.Test.YtaciedooeeklpaaGreatDoorRows
import GoSem.ClaimSeven
namespace Go.Proofs.YtaciedooeeklpaaGreatDoor
namespace Rows

/-- THE TIED CARD OF 'ringworklaw23.LockNever'. -/
def lockNeverCard : Claim7 := { stood := { row := lockNeverRow, standIns := [], harness := (true, "94b67219831fb10c86ebb7e951ec2b1653831e4f87ceeb0e1f829feff6768466"), looks := false }, kinds := [], alts := [], laidByText := true, laidKinds := [.data, .pinned], laidTests := true, laidLooks := .later }
def LockNeverCardSaid : Prop := Claim7.holds Tryz.pinned (.plain (OpenSpec.ofChange lockNeverSpec)) lockNeverCard

/-- THE TIED CARD OF 'ringworklaw23.LockEnded'. -/
def lockEndedCard : Claim7 := { stood := { row := lockEndedRow, standIns := [], harness := (true, "94b67219831fb10c86ebb7e951ec2b1653831e4f87ceeb0e1f829feff6768466"), looks := false }, kinds := [], alts := [], laidByText := true, laidKinds := [.data, .pinned], laidTests := true, laidLooks := .later }
def LockEndedCardSaid : Prop := Claim7.holds Tryz.pinned (.plain (OpenSpec.ofChange lockEndedSpec)) lockEndedCard

/-- THE TIED CARD OF 'ringworklaw23.LockPlays'. -/
def lockPlaysCard : Claim7 := { stood := { row := lockPlaysRow, standIns := [], harness := (true, "94b67219831fb10c86ebb7e951ec2b1653831e4f87ceeb0e1f829feff6768466"), looks := false }, kinds := [], alts := [], laidByText := true, laidKinds := [.data, .pinned], laidTests := true, laidLooks := .later }
def LockPlaysCardSaid : Prop := Claim7.holds Tryz.pinned (.plain (OpenSpec.ofChange lockPlaysSpec)) lockPlaysCard

/-- THE TIED CARD OF 'ringworklaw23.LockNil'. -/
def lockNilCard : Claim7 := { stood := { row := lockNilRow, standIns := [], harness := (true, "94b67219831fb10c86ebb7e951ec2b1653831e4f87ceeb0e1f829feff6768466"), looks := false }, kinds := [], alts := [], laidByText := true, laidKinds := [.data, .pinned], laidTests := true, laidLooks := .later }
def LockNilCardSaid : Prop := Claim7.holds Tryz.pinned (.plain (OpenSpec.ofChange lockNilSpec)) lockNilCard

/-- THE SECOND FORM's CARD OF 'ringworklaw23.LockNever'. -/
def lockNeverUptoCard : Claim7 := { stood := { row := lockNeverUptoRow, standIns := [], harness := (true, "94b67219831fb10c86ebb7e951ec2b1653831e4f87ceeb0e1f829feff6768466"), looks := false }, kinds := [], alts := [], laidByText := true, laidKinds := [.data, .pinned], laidTests := true, laidLooks := .later }
def LockNeverUptoCardSaid : Prop := Claim7.holds Tryz.pinned (.plain (OpenSpec.upto lockNeverSpec)) lockNeverUptoCard

/-- THE SECOND FORM's CARD OF 'ringworklaw23.LockEnded'. -/
def lockEndedUptoCard : Claim7 := { stood := { row := lockEndedUptoRow, standIns := [], harness := (true, "94b67219831fb10c86ebb7e951ec2b1653831e4f87ceeb0e1f829feff6768466"), looks := false }, kinds := [], alts := [], laidByText := true, laidKinds := [.data, .pinned], laidTests := true, laidLooks := .later }
def LockEndedUptoCardSaid : Prop := Claim7.holds Tryz.pinned (.plain (OpenSpec.upto lockEndedSpec)) lockEndedUptoCard

/-- THE SECOND FORM's CARD OF 'ringworklaw23.LockPlays'. -/
def lockPlaysUptoCard : Claim7 := { stood := { row := lockPlaysUptoRow, standIns := [], harness := (true, "94b67219831fb10c86ebb7e951ec2b1653831e4f87ceeb0e1f829feff6768466"), looks := false }, kinds := [], alts := [], laidByText := true, laidKinds := [.data, .pinned], laidTests := true, laidLooks := .later }
def LockPlaysUptoCardSaid : Prop := Claim7.holds Tryz.pinned (.plain (OpenSpec.upto lockPlaysSpec)) lockPlaysUptoCard

/-- THE SECOND FORM's CARD OF 'ringworklaw23.LockNil'. -/
def lockNilUptoCard : Claim7 := { stood := { row := lockNilUptoRow, standIns := [], harness := (true, "94b67219831fb10c86ebb7e951ec2b1653831e4f87ceeb0e1f829feff6768466"), looks := false }, kinds := [], alts := [], laidByText := true, laidKinds := [.data, .pinned], laidTests := true, laidLooks := .later }
def LockNilUptoCardSaid : Prop := Claim7.holds Tryz.pinned (.plain (OpenSpec.upto lockNilSpec)) lockNilUptoCard
end Rows
end Go.Proofs.YtaciedooeeklpaaGreatDoor
