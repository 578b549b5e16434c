/-
  DERIVED. GIVEN WITH THE SEED: THE CARDS: each row of YtfdnhpmdbcfepaaDoorRows.lean that lists a variable, with what it lists TIED to the program's text (the seventh form; the later family's looks); each row that meets fmt, with fmt's text TOLD by the authors' own Lean function (tested against real Go, not proved from fmt's source: count such statements apart). THE CARD IS WHAT COUNTS. Prove the row's statement (the work); the ties are given (YtfdnhpmdbcfepaaDoorTie.lean); close each card by the builder's one call (the guide's Derived/Test/ToyasCard.lean, 'card_holds'). Laid BY PROGRAM, IN A SANDBOX (cutbox-door.mjs). By AI agents, Wed Nov 11 2026. No macro, syntax, notation, axiom, sorry.
-/
import Derived.Test.YtfdnhpmdbcfepaaDoorRows
import GoSem.ClaimSeven
namespace Go.Proofs.YtfdnhpmdbcfepaaDoor
namespace Rows

/-- THE TIED CARD OF 'complinelaw07.CronNames'. -/
def cronNamesCard : Claim7 := { stood := { row := cronNamesRow, standIns := [], harness := (true, "822058296c482534f3817fc24e73ae6c9156f0bc236da290c9e08c2afccc687e"), looks := true }, kinds := [], alts := [], laidByText := true, laidKinds := [.data, .data, .data, .data, .sentinel, .sentinel, .pinned], laidTests := true, laidLooks := .later }
def CronNamesCardSaid : Prop := Claim7.holds Tryd.pinned (.plain (OpenSpec.ofChange cronNamesSpec)) cronNamesCard

/-- THE TIED CARD OF 'complinelaw07.CronLists'. -/
def cronListsCard : Claim7 := { stood := { row := cronListsRow, standIns := [], harness := (true, "822058296c482534f3817fc24e73ae6c9156f0bc236da290c9e08c2afccc687e"), looks := true }, kinds := [], alts := [], laidByText := true, laidKinds := [.data, .data, .data, .data, .sentinel, .sentinel, .pinned], laidTests := true, laidLooks := .later }
def CronListsCardSaid : Prop := Claim7.holds Tryd.pinned (.plain (OpenSpec.ofChange cronListsSpec)) cronListsCard

/-- THE TIED CARD OF 'complinelaw08.FiresNext'. -/
def firesNextCard : Claim7 := { stood := { row := firesNextRow, standIns := [], harness := (true, "822058296c482534f3817fc24e73ae6c9156f0bc236da290c9e08c2afccc687e"), looks := true }, kinds := [], alts := [], laidByText := true, laidKinds := [.data, .data, .data, .data, .sentinel, .sentinel, .pinned], laidTests := true, laidLooks := .later }
def FiresNextCardSaid : Prop := Claim7.holds Tryd.pinned (.plain (OpenSpec.ofChange firesNextSpec)) firesNextCard

/-- THE TIED CARD OF 'complinelaw08.FiresEras'. -/
def firesErasCard : Claim7 := { stood := { row := firesErasRow, standIns := [], harness := (true, "822058296c482534f3817fc24e73ae6c9156f0bc236da290c9e08c2afccc687e"), looks := true }, kinds := [], alts := [], laidByText := true, laidKinds := [.data, .data, .data, .data, .sentinel, .sentinel, .pinned], laidTests := true, laidLooks := .later }
def FiresErasCardSaid : Prop := Claim7.holds Tryd.pinned (.plain (OpenSpec.ofChange firesErasSpec)) firesErasCard

/-- THE TIED CARD OF 'complinelaw08.FiresParts'. -/
def firesPartsCard : Claim7 := { stood := { row := firesPartsRow, standIns := [], harness := (true, "822058296c482534f3817fc24e73ae6c9156f0bc236da290c9e08c2afccc687e"), looks := true }, kinds := [], alts := [], laidByText := true, laidKinds := [.data, .data, .data, .data, .sentinel, .sentinel, .pinned], laidTests := true, laidLooks := .later }
def FiresPartsCardSaid : Prop := Claim7.holds Tryd.pinned (.plain (OpenSpec.ofChange firesPartsSpec)) firesPartsCard

/-- THE TIED CARD OF 'complinelaw08.FiresBetween'. -/
def firesBetweenCard : Claim7 := { stood := { row := firesBetweenRow, standIns := [], harness := (true, "822058296c482534f3817fc24e73ae6c9156f0bc236da290c9e08c2afccc687e"), looks := true }, kinds := [], alts := [], laidByText := true, laidKinds := [.data, .data, .data, .data, .sentinel, .sentinel, .pinned], laidTests := true, laidLooks := .later }
def FiresBetweenCardSaid : Prop := Claim7.holds Tryd.pinned (.plain (OpenSpec.ofChange firesBetweenSpec)) firesBetweenCard

/-- THE TIED CARD OF 'complinelaw07.CronTexts'. -/
def cronTextsCard : Claim7 := { stood := { row := cronTextsRow, standIns := [], harness := (true, "822058296c482534f3817fc24e73ae6c9156f0bc236da290c9e08c2afccc687e"), looks := true }, kinds := [], alts := [], laidByText := true, laidKinds := [.data, .data, .data, .data, .sentinel, .sentinel, .pinned], laidTests := true, laidLooks := .later }
def CronTextsCardSaid : Prop := Claim7.holds Tryd.pinned (.plain (OpenSpec.ofChange cronTextsSpec)) cronTextsCard

/-- THE TIED CARD OF 'complinelaw07.CronValues'. -/
def cronValuesCard : Claim7 := { stood := { row := cronValuesRow, standIns := [], harness := (true, "822058296c482534f3817fc24e73ae6c9156f0bc236da290c9e08c2afccc687e"), looks := true }, kinds := [], alts := [], laidByText := true, laidKinds := [.data, .data, .data, .data, .sentinel, .sentinel, .pinned], laidTests := true, laidLooks := .later }
def CronValuesCardSaid : Prop := Claim7.holds Tryd.pinned (.plain (OpenSpec.ofChange cronValuesSpec)) cronValuesCard

/-- THE SECOND FORM's CARD OF 'complinelaw07.CronNames'. -/
def cronNamesUptoCard : Claim7 := { stood := { row := cronNamesUptoRow, standIns := [], harness := (true, "822058296c482534f3817fc24e73ae6c9156f0bc236da290c9e08c2afccc687e"), looks := true }, kinds := [], alts := [], laidByText := true, laidKinds := [.data, .data, .data, .data, .sentinel, .sentinel, .pinned], laidTests := true, laidLooks := .later }
def CronNamesUptoCardSaid : Prop := Claim7.holds Tryd.pinned (.plain (OpenSpec.upto cronNamesSpec)) cronNamesUptoCard

/-- THE SECOND FORM's CARD OF 'complinelaw07.CronLists'. -/
def cronListsUptoCard : Claim7 := { stood := { row := cronListsUptoRow, standIns := [], harness := (true, "822058296c482534f3817fc24e73ae6c9156f0bc236da290c9e08c2afccc687e"), looks := true }, kinds := [], alts := [], laidByText := true, laidKinds := [.data, .data, .data, .data, .sentinel, .sentinel, .pinned], laidTests := true, laidLooks := .later }
def CronListsUptoCardSaid : Prop := Claim7.holds Tryd.pinned (.plain (OpenSpec.upto cronListsSpec)) cronListsUptoCard

/-- THE SECOND FORM's CARD OF 'complinelaw08.FiresNext'. -/
def firesNextUptoCard : Claim7 := { stood := { row := firesNextUptoRow, standIns := [], harness := (true, "822058296c482534f3817fc24e73ae6c9156f0bc236da290c9e08c2afccc687e"), looks := true }, kinds := [], alts := [], laidByText := true, laidKinds := [.data, .data, .data, .data, .sentinel, .sentinel, .pinned], laidTests := true, laidLooks := .later }
def FiresNextUptoCardSaid : Prop := Claim7.holds Tryd.pinned (.plain (OpenSpec.upto firesNextSpec)) firesNextUptoCard

/-- THE SECOND FORM's CARD OF 'complinelaw08.FiresEras'. -/
def firesErasUptoCard : Claim7 := { stood := { row := firesErasUptoRow, standIns := [], harness := (true, "822058296c482534f3817fc24e73ae6c9156f0bc236da290c9e08c2afccc687e"), looks := true }, kinds := [], alts := [], laidByText := true, laidKinds := [.data, .data, .data, .data, .sentinel, .sentinel, .pinned], laidTests := true, laidLooks := .later }
def FiresErasUptoCardSaid : Prop := Claim7.holds Tryd.pinned (.plain (OpenSpec.upto firesErasSpec)) firesErasUptoCard

/-- THE SECOND FORM's CARD OF 'complinelaw08.FiresParts'. -/
def firesPartsUptoCard : Claim7 := { stood := { row := firesPartsUptoRow, standIns := [], harness := (true, "822058296c482534f3817fc24e73ae6c9156f0bc236da290c9e08c2afccc687e"), looks := true }, kinds := [], alts := [], laidByText := true, laidKinds := [.data, .data, .data, .data, .sentinel, .sentinel, .pinned], laidTests := true, laidLooks := .later }
def FiresPartsUptoCardSaid : Prop := Claim7.holds Tryd.pinned (.plain (OpenSpec.upto firesPartsSpec)) firesPartsUptoCard

/-- THE SECOND FORM's CARD OF 'complinelaw08.FiresBetween'. -/
def firesBetweenUptoCard : Claim7 := { stood := { row := firesBetweenUptoRow, standIns := [], harness := (true, "822058296c482534f3817fc24e73ae6c9156f0bc236da290c9e08c2afccc687e"), looks := true }, kinds := [], alts := [], laidByText := true, laidKinds := [.data, .data, .data, .data, .sentinel, .sentinel, .pinned], laidTests := true, laidLooks := .later }
def FiresBetweenUptoCardSaid : Prop := Claim7.holds Tryd.pinned (.plain (OpenSpec.upto firesBetweenSpec)) firesBetweenUptoCard

/-- THE SECOND FORM's CARD OF 'complinelaw07.CronTexts'. -/
def cronTextsUptoCard : Claim7 := { stood := { row := cronTextsUptoRow, standIns := [], harness := (true, "822058296c482534f3817fc24e73ae6c9156f0bc236da290c9e08c2afccc687e"), looks := true }, kinds := [], alts := [], laidByText := true, laidKinds := [.data, .data, .data, .data, .sentinel, .sentinel, .pinned], laidTests := true, laidLooks := .later }
def CronTextsUptoCardSaid : Prop := Claim7.holds Tryd.pinned (.plain (OpenSpec.upto cronTextsSpec)) cronTextsUptoCard

/-- THE SECOND FORM's CARD OF 'complinelaw07.CronValues'. -/
def cronValuesUptoCard : Claim7 := { stood := { row := cronValuesUptoRow, standIns := [], harness := (true, "822058296c482534f3817fc24e73ae6c9156f0bc236da290c9e08c2afccc687e"), looks := true }, kinds := [], alts := [], laidByText := true, laidKinds := [.data, .data, .data, .data, .sentinel, .sentinel, .pinned], laidTests := true, laidLooks := .later }
def CronValuesUptoCardSaid : Prop := Claim7.holds Tryd.pinned (.plain (OpenSpec.upto cronValuesSpec)) cronValuesUptoCard
end Rows
end Go.Proofs.YtfdnhpmdbcfepaaDoor
