/-
  DERIVED. GIVEN WITH THE SEED: THE CARDS: each row of YtldieadbkaphkaaGreatDoorRows.lean that lists a variable, with what it lists TIED to the program's text (the seventh form; the later family's looks); each row that meets fmt, with fmt's text TOLD by the authors' own Lean function (tested against real Go, not proved from fmt's source: count such statements apart). THE CARD IS WHAT COUNTS. Prove the row's statement (the work); the ties are given (YtldieadbkaphkaaGreatDoorTie.lean); close each card by the builder's one call (the guide's Derived/Test/ToyasCard.lean, 'card_holds'). Laid BY PROGRAM, IN A SANDBOX (cutbox-door.mjs). By AI agents, Wed Nov 11 2026. No macro, syntax, notation, axiom, sorry.
-/
import Derived.Test.YtldieadbkaphkaaGreatDoorRows
import GoSem.ClaimSeven
namespace Go.Proofs.YtldieadbkaphkaaGreatDoor
namespace Rows

/-- THE TIED CARD OF 'complinelaw16.CrontabDue'. -/
def crontabDueCard : Claim7 := { stood := { row := crontabDueRow, standIns := [], harness := (true, "e28ac934c77ba6db2aa9caa82e5a19352f0ca48d4db3b5d56f9eb4cd86f06863"), looks := true }, kinds := [], alts := [], laidByText := true, laidKinds := [.data, .data, .data, .data, .sentinel, .sentinel, .pinned], laidTests := true, laidLooks := .later }
def CrontabDueCardSaid : Prop := Claim7.holds Tryz.pinned (.plain (OpenSpec.ofChange crontabDueSpec)) crontabDueCard

/-- THE TIED CARD OF 'complinelaw16.CrontabParts'. -/
def crontabPartsCard : Claim7 := { stood := { row := crontabPartsRow, standIns := [], harness := (true, "e28ac934c77ba6db2aa9caa82e5a19352f0ca48d4db3b5d56f9eb4cd86f06863"), looks := true }, kinds := [], alts := [], laidByText := true, laidKinds := [.data, .data, .data, .data, .sentinel, .sentinel, .pinned], laidTests := true, laidLooks := .later }
def CrontabPartsCardSaid : Prop := Claim7.holds Tryz.pinned (.plain (OpenSpec.ofChange crontabPartsSpec)) crontabPartsCard

/-- THE TIED CARD OF 'complinelaw16.CrontabNames'. -/
def crontabNamesCard : Claim7 := { stood := { row := crontabNamesRow, standIns := [], harness := (true, "e28ac934c77ba6db2aa9caa82e5a19352f0ca48d4db3b5d56f9eb4cd86f06863"), looks := true }, kinds := [], alts := [], laidByText := true, laidKinds := [.data, .data, .data, .data, .sentinel, .sentinel, .pinned], laidTests := true, laidLooks := .later }
def CrontabNamesCardSaid : Prop := Claim7.holds Tryz.pinned (.plain (OpenSpec.ofChange crontabNamesSpec)) crontabNamesCard

/-- THE SECOND FORM's CARD OF 'complinelaw16.CrontabDue'. -/
def crontabDueUptoCard : Claim7 := { stood := { row := crontabDueUptoRow, standIns := [], harness := (true, "e28ac934c77ba6db2aa9caa82e5a19352f0ca48d4db3b5d56f9eb4cd86f06863"), looks := true }, kinds := [], alts := [], laidByText := true, laidKinds := [.data, .data, .data, .data, .sentinel, .sentinel, .pinned], laidTests := true, laidLooks := .later }
def CrontabDueUptoCardSaid : Prop := Claim7.holds Tryz.pinned (.plain (OpenSpec.upto crontabDueSpec)) crontabDueUptoCard

/-- THE SECOND FORM's CARD OF 'complinelaw16.CrontabParts'. -/
def crontabPartsUptoCard : Claim7 := { stood := { row := crontabPartsUptoRow, standIns := [], harness := (true, "e28ac934c77ba6db2aa9caa82e5a19352f0ca48d4db3b5d56f9eb4cd86f06863"), looks := true }, kinds := [], alts := [], laidByText := true, laidKinds := [.data, .data, .data, .data, .sentinel, .sentinel, .pinned], laidTests := true, laidLooks := .later }
def CrontabPartsUptoCardSaid : Prop := Claim7.holds Tryz.pinned (.plain (OpenSpec.upto crontabPartsSpec)) crontabPartsUptoCard

/-- THE SECOND FORM's CARD OF 'complinelaw16.CrontabNames'. -/
def crontabNamesUptoCard : Claim7 := { stood := { row := crontabNamesUptoRow, standIns := [], harness := (true, "e28ac934c77ba6db2aa9caa82e5a19352f0ca48d4db3b5d56f9eb4cd86f06863"), looks := true }, kinds := [], alts := [], laidByText := true, laidKinds := [.data, .data, .data, .data, .sentinel, .sentinel, .pinned], laidTests := true, laidLooks := .later }
def CrontabNamesUptoCardSaid : Prop := Claim7.holds Tryz.pinned (.plain (OpenSpec.upto crontabNamesSpec)) crontabNamesUptoCard
end Rows
end Go.Proofs.YtldieadbkaphkaaGreatDoor
