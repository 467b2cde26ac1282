/-
  DERIVED. GIVEN WITH THE SEED: THE CARDS: each row of YtcbinafokhekmaaGreatDoorRows.lean that lists a variable, with what it lists TIED to the program's text (the seventh form; the later family's looks); each row that meets fmt, with fmt's text TOLD by the authors' own Lean function (tested against real Go, not proved from fmt's source: count such statements apart). THE CARD IS WHAT COUNTS. Prove the row's statement (the work); the ties are given (YtcbinafokhekmaaGreatDoorTie.lean); close each card by the builder's one call (the guide's Derived/Test/ToyasCard.lean, 'card_holds'). Laid BY PROGRAM, IN A SANDBOX (cutbox-door.mjs). By AI agents, Wed Nov 11 2026. No macro, syntax, notation, axiom, sorry.
-/
import Derived.Test.YtcbinafokhekmaaGreatDoorRows
import GoSem.ClaimSeven
namespace Go.Proofs.YtcbinafokhekmaaGreatDoor
namespace Rows

/-- THE TIED CARD OF 'ringworklaw12.CalcPlays'. -/
def calcPlaysCard : Claim7 := { stood := { row := calcPlaysRow, standIns := [], harness := (true, "1892f22fdbf78875ed22edcf01b7aabd6805b645ff20915068853f53dc11937a"), looks := true }, kinds := [], alts := [], laidByText := true, laidKinds := [.data, .data, .data], laidTests := true, laidLooks := .later }
def CalcPlaysCardSaid : Prop := Claim7.holds Tryz.pinned (.plain (OpenSpec.ofChange calcPlaysSpec)) calcPlaysCard

/-- THE TIED CARD OF 'ringworklaw12.CalcTells'. -/
def calcTellsCard : Claim7 := { stood := { row := calcTellsRow, standIns := [], harness := (true, "1892f22fdbf78875ed22edcf01b7aabd6805b645ff20915068853f53dc11937a"), looks := true }, kinds := [], alts := [], laidByText := true, laidKinds := [.data, .data, .data], laidTests := true, laidLooks := .later }
def CalcTellsCardSaid : Prop := Claim7.holds Tryz.pinned (.plain (OpenSpec.ofChange calcTellsSpec)) calcTellsCard

/-- THE TIED CARD OF 'ringworklaw12.CalcDamage'. -/
def calcDamageCard : Claim7 := { stood := { row := calcDamageRow, standIns := [], harness := (true, "1892f22fdbf78875ed22edcf01b7aabd6805b645ff20915068853f53dc11937a"), looks := true }, kinds := [], alts := [], laidByText := true, laidKinds := [.data, .data, .data], laidTests := true, laidLooks := .later }
def CalcDamageCardSaid : Prop := Claim7.holds Tryz.pinned (.plain (OpenSpec.ofChange calcDamageSpec)) calcDamageCard

/-- THE TIED CARD OF 'ringworklaw12.CalcTexts'. -/
def calcTextsCard : Claim7 := { stood := { row := calcTextsRow, standIns := [], harness := (true, "1892f22fdbf78875ed22edcf01b7aabd6805b645ff20915068853f53dc11937a"), looks := true }, kinds := [], alts := [], laidByText := true, laidKinds := [.data, .data, .data, .data, .sentinel, .sentinel, .pinned], laidTests := true, laidLooks := .later }
def CalcTextsCardSaid : Prop := Claim7.holds Tryz.pinned (.plain (OpenSpec.ofChange calcTextsSpec)) calcTextsCard

/-- THE SECOND FORM's CARD OF 'ringworklaw12.CalcPlays'. -/
def calcPlaysUptoCard : Claim7 := { stood := { row := calcPlaysUptoRow, standIns := [], harness := (true, "1892f22fdbf78875ed22edcf01b7aabd6805b645ff20915068853f53dc11937a"), looks := true }, kinds := [], alts := [], laidByText := true, laidKinds := [.data, .data, .data], laidTests := true, laidLooks := .later }
def CalcPlaysUptoCardSaid : Prop := Claim7.holds Tryz.pinned (.plain (OpenSpec.upto calcPlaysSpec)) calcPlaysUptoCard

/-- THE SECOND FORM's CARD OF 'ringworklaw12.CalcTells'. -/
def calcTellsUptoCard : Claim7 := { stood := { row := calcTellsUptoRow, standIns := [], harness := (true, "1892f22fdbf78875ed22edcf01b7aabd6805b645ff20915068853f53dc11937a"), looks := true }, kinds := [], alts := [], laidByText := true, laidKinds := [.data, .data, .data], laidTests := true, laidLooks := .later }
def CalcTellsUptoCardSaid : Prop := Claim7.holds Tryz.pinned (.plain (OpenSpec.upto calcTellsSpec)) calcTellsUptoCard

/-- THE SECOND FORM's CARD OF 'ringworklaw12.CalcDamage'. -/
def calcDamageUptoCard : Claim7 := { stood := { row := calcDamageUptoRow, standIns := [], harness := (true, "1892f22fdbf78875ed22edcf01b7aabd6805b645ff20915068853f53dc11937a"), looks := true }, kinds := [], alts := [], laidByText := true, laidKinds := [.data, .data, .data], laidTests := true, laidLooks := .later }
def CalcDamageUptoCardSaid : Prop := Claim7.holds Tryz.pinned (.plain (OpenSpec.upto calcDamageSpec)) calcDamageUptoCard

/-- THE SECOND FORM's CARD OF 'ringworklaw12.CalcTexts'. -/
def calcTextsUptoCard : Claim7 := { stood := { row := calcTextsUptoRow, standIns := [], harness := (true, "1892f22fdbf78875ed22edcf01b7aabd6805b645ff20915068853f53dc11937a"), looks := true }, kinds := [], alts := [], laidByText := true, laidKinds := [.data, .data, .data, .data, .sentinel, .sentinel, .pinned], laidTests := true, laidLooks := .later }
def CalcTextsUptoCardSaid : Prop := Claim7.holds Tryz.pinned (.plain (OpenSpec.upto calcTextsSpec)) calcTextsUptoCard
end Rows
end Go.Proofs.YtcbinafokhekmaaGreatDoor
