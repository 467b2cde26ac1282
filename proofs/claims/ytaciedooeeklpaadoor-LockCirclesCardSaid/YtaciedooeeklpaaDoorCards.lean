/-
  DERIVED. GIVEN WITH THE SEED: THE CARDS: each row of YtaciedooeeklpaaDoorRows.lean that lists a variable, with what it lists TIED to the program's text (the seventh form; the later family's looks); each row that meets fmt, with fmt's text TOLD by the authors' own Lean function (tested against real Go, not proved from fmt's source: count such statements apart). THE CARD IS WHAT COUNTS. Prove the row's statement (the work); the ties are given (YtaciedooeeklpaaDoorTie.lean); close each card by the builder's one call (the guide's Derived/Test/ToyasCard.lean, 'card_holds'). Laid BY PROGRAM, IN A SANDBOX (cutbox-door.mjs). By AI agents, Wed Nov 11 2026. No macro, syntax, notation, axiom, sorry.
-/
import Derived.Test.YtaciedooeeklpaaDoorRows
import GoSem.ClaimSeven
namespace Go.Proofs.YtaciedooeeklpaaDoor
namespace Rows

/-- THE TIED CARD OF 'ringworklaw23.LockNames'. -/
def lockNamesCard : Claim7 := { stood := { row := lockNamesRow, standIns := [], harness := (true, "f26f134351605145ef4e4e32d90f4ebc0fbe364783a92eae90db83a403af23ee"), looks := false }, kinds := [], alts := [], laidByText := true, laidKinds := [.data, .pinned], laidTests := true, laidLooks := .later }
def LockNamesCardSaid : Prop := Claim7.holds Tryd.pinned (.plain (OpenSpec.ofChange lockNamesSpec)) lockNamesCard

/-- THE TIED CARD OF 'ringworklaw23.LockCircles'. -/
def lockCirclesCard : Claim7 := { stood := { row := lockCirclesRow, standIns := [], harness := (true, "f26f134351605145ef4e4e32d90f4ebc0fbe364783a92eae90db83a403af23ee"), looks := false }, kinds := [], alts := [], laidByText := true, laidKinds := [.data, .pinned], laidTests := true, laidLooks := .later }
def LockCirclesCardSaid : Prop := Claim7.holds Tryd.pinned (.plain (OpenSpec.ofChange lockCirclesSpec)) lockCirclesCard

/-- THE SECOND FORM's CARD OF 'ringworklaw23.LockNames'. -/
def lockNamesUptoCard : Claim7 := { stood := { row := lockNamesUptoRow, standIns := [], harness := (true, "f26f134351605145ef4e4e32d90f4ebc0fbe364783a92eae90db83a403af23ee"), looks := false }, kinds := [], alts := [], laidByText := true, laidKinds := [.data, .pinned], laidTests := true, laidLooks := .later }
def LockNamesUptoCardSaid : Prop := Claim7.holds Tryd.pinned (.plain (OpenSpec.upto lockNamesSpec)) lockNamesUptoCard

/-- THE SECOND FORM's CARD OF 'ringworklaw23.LockCircles'. -/
def lockCirclesUptoCard : Claim7 := { stood := { row := lockCirclesUptoRow, standIns := [], harness := (true, "f26f134351605145ef4e4e32d90f4ebc0fbe364783a92eae90db83a403af23ee"), looks := false }, kinds := [], alts := [], laidByText := true, laidKinds := [.data, .pinned], laidTests := true, laidLooks := .later }
def LockCirclesUptoCardSaid : Prop := Claim7.holds Tryd.pinned (.plain (OpenSpec.upto lockCirclesSpec)) lockCirclesUptoCard
end Rows
end Go.Proofs.YtaciedooeeklpaaDoor
