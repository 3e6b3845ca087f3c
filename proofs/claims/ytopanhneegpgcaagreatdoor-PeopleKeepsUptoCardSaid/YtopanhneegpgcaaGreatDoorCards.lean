/-
  DERIVED. GIVEN WITH THE SEED: THE CARDS: each row of YtopanhneegpgcaaGreatDoorRows.lean that lists a variable, with what it lists TIED to the program's text (the seventh form; the later family's looks); each row that meets fmt, with fmt's text TOLD by the authors' own Lean function (tested against real Go, not proved from fmt's source: count such statements apart). THE CARD IS WHAT COUNTS. Prove the row's statement (the work); the ties are given (YtopanhneegpgcaaGreatDoorTie.lean); close each card by the builder's one call (the guide's Derived/Test/ToyasCard.lean, 'card_holds'). Laid BY PROGRAM, IN A SANDBOX (cutbox-door.mjs). By AI agents, Wed Nov 11 2026. No macro, syntax, notation, axiom, sorry.
-/
import Derived.Test.YtopanhneegpgcaaGreatDoorRows
import GoSem.ClaimSeven
namespace Go.Proofs.YtopanhneegpgcaaGreatDoor
namespace Rows

/-- THE TIED CARD OF 'seneschallaw12.PeopleTexts'. -/
def peopleTextsCard : Claim7 := { stood := { row := peopleTextsRow, standIns := [], harness := (true, "c64ba48eed445a5ca2837706362080766f6e3d8c91eae5522d3928c4b340dbbf"), looks := true }, kinds := [], alts := [], laidByText := true, laidKinds := [.data, .data, .data, .data, .sentinel, .sentinel, .pinned], laidTests := true, laidLooks := .later }
def PeopleTextsCardSaid : Prop := Claim7.holds Tryz.pinned (.plain (OpenSpec.ofChange peopleTextsSpec)) peopleTextsCard

/-- THE TIED CARD OF 'seneschallaw12.PeopleRow'. -/
def peopleRowCard : Claim7 := { stood := { row := peopleRowRow, standIns := [], harness := (true, "c64ba48eed445a5ca2837706362080766f6e3d8c91eae5522d3928c4b340dbbf"), looks := true }, kinds := [], alts := [], laidByText := true, laidKinds := [.data, .data, .data, .data, .sentinel, .sentinel, .pinned], laidTests := true, laidLooks := .later }
def PeopleRowCardSaid : Prop := Claim7.holds Tryz.pinned (.plain (OpenSpec.ofChange peopleRowSpec)) peopleRowCard

/-- THE TIED CARD OF 'seneschallaw12.PeopleLoads'. -/
def peopleLoadsCard : Claim7 := { stood := { row := peopleLoadsRow, standIns := [], harness := (true, "c64ba48eed445a5ca2837706362080766f6e3d8c91eae5522d3928c4b340dbbf"), looks := true }, kinds := [], alts := [], laidByText := true, laidKinds := [.data, .data, .data, .data, .sentinel, .sentinel, .pinned], laidTests := true, laidLooks := .later }
def PeopleLoadsCardSaid : Prop := Claim7.holds Tryz.pinned (.plain (OpenSpec.ofChange peopleLoadsSpec)) peopleLoadsCard

/-- THE TIED CARD OF 'seneschallaw12.PeopleBack'. -/
def peopleBackCard : Claim7 := { stood := { row := peopleBackRow, standIns := [], harness := (true, "c64ba48eed445a5ca2837706362080766f6e3d8c91eae5522d3928c4b340dbbf"), looks := true }, kinds := [], alts := [], laidByText := true, laidKinds := [.data, .data, .data, .data, .sentinel, .sentinel, .pinned], laidTests := true, laidLooks := .later }
def PeopleBackCardSaid : Prop := Claim7.holds Tryz.pinned (.plain (OpenSpec.ofChange peopleBackSpec)) peopleBackCard

/-- THE TIED CARD OF 'seneschallaw12.PeopleGrows'. -/
def peopleGrowsCard : Claim7 := { stood := { row := peopleGrowsRow, standIns := [], harness := (true, "c64ba48eed445a5ca2837706362080766f6e3d8c91eae5522d3928c4b340dbbf"), looks := true }, kinds := [], alts := [], laidByText := true, laidKinds := [.data, .data, .data, .data, .sentinel, .sentinel, .pinned], laidTests := true, laidLooks := .later }
def PeopleGrowsCardSaid : Prop := Claim7.holds Tryz.pinned (.plain (OpenSpec.ofChange peopleGrowsSpec)) peopleGrowsCard

/-- THE TIED CARD OF 'seneschallaw12.PeopleKeeps'. -/
def peopleKeepsCard : Claim7 := { stood := { row := peopleKeepsRow, standIns := [], harness := (true, "c64ba48eed445a5ca2837706362080766f6e3d8c91eae5522d3928c4b340dbbf"), looks := true }, kinds := [], alts := [], laidByText := true, laidKinds := [.data, .data, .data, .data, .sentinel, .sentinel, .pinned], laidTests := true, laidLooks := .later }
def PeopleKeepsCardSaid : Prop := Claim7.holds Tryz.pinned (.plain (OpenSpec.ofChange peopleKeepsSpec)) peopleKeepsCard

/-- THE TIED CARD OF 'seneschallaw12.PeopleDrops'. -/
def peopleDropsCard : Claim7 := { stood := { row := peopleDropsRow, standIns := [], harness := (true, "c64ba48eed445a5ca2837706362080766f6e3d8c91eae5522d3928c4b340dbbf"), looks := true }, kinds := [], alts := [], laidByText := true, laidKinds := [.data, .data, .data, .data, .sentinel, .sentinel, .pinned], laidTests := true, laidLooks := .later }
def PeopleDropsCardSaid : Prop := Claim7.holds Tryz.pinned (.plain (OpenSpec.ofChange peopleDropsSpec)) peopleDropsCard

/-- THE TIED CARD OF 'seneschallaw12.PeopleDoes'. -/
def peopleDoesCard : Claim7 := { stood := { row := peopleDoesRow, standIns := [], harness := (true, "c64ba48eed445a5ca2837706362080766f6e3d8c91eae5522d3928c4b340dbbf"), looks := true }, kinds := [], alts := [], laidByText := true, laidKinds := [.data, .data, .data, .data, .sentinel, .sentinel, .pinned], laidTests := true, laidLooks := .later }
def PeopleDoesCardSaid : Prop := Claim7.holds Tryz.pinned (.plain (OpenSpec.ofChange peopleDoesSpec)) peopleDoesCard

/-- THE SECOND FORM's CARD OF 'seneschallaw12.PeopleTexts'. -/
def peopleTextsUptoCard : Claim7 := { stood := { row := peopleTextsUptoRow, standIns := [], harness := (true, "c64ba48eed445a5ca2837706362080766f6e3d8c91eae5522d3928c4b340dbbf"), looks := true }, kinds := [], alts := [], laidByText := true, laidKinds := [.data, .data, .data, .data, .sentinel, .sentinel, .pinned], laidTests := true, laidLooks := .later }
def PeopleTextsUptoCardSaid : Prop := Claim7.holds Tryz.pinned (.plain (OpenSpec.upto peopleTextsSpec)) peopleTextsUptoCard

/-- THE SECOND FORM's CARD OF 'seneschallaw12.PeopleRow'. -/
def peopleRowUptoCard : Claim7 := { stood := { row := peopleRowUptoRow, standIns := [], harness := (true, "c64ba48eed445a5ca2837706362080766f6e3d8c91eae5522d3928c4b340dbbf"), looks := true }, kinds := [], alts := [], laidByText := true, laidKinds := [.data, .data, .data, .data, .sentinel, .sentinel, .pinned], laidTests := true, laidLooks := .later }
def PeopleRowUptoCardSaid : Prop := Claim7.holds Tryz.pinned (.plain (OpenSpec.upto peopleRowSpec)) peopleRowUptoCard

/-- THE SECOND FORM's CARD OF 'seneschallaw12.PeopleLoads'. -/
def peopleLoadsUptoCard : Claim7 := { stood := { row := peopleLoadsUptoRow, standIns := [], harness := (true, "c64ba48eed445a5ca2837706362080766f6e3d8c91eae5522d3928c4b340dbbf"), looks := true }, kinds := [], alts := [], laidByText := true, laidKinds := [.data, .data, .data, .data, .sentinel, .sentinel, .pinned], laidTests := true, laidLooks := .later }
def PeopleLoadsUptoCardSaid : Prop := Claim7.holds Tryz.pinned (.plain (OpenSpec.upto peopleLoadsSpec)) peopleLoadsUptoCard

/-- THE SECOND FORM's CARD OF 'seneschallaw12.PeopleBack'. -/
def peopleBackUptoCard : Claim7 := { stood := { row := peopleBackUptoRow, standIns := [], harness := (true, "c64ba48eed445a5ca2837706362080766f6e3d8c91eae5522d3928c4b340dbbf"), looks := true }, kinds := [], alts := [], laidByText := true, laidKinds := [.data, .data, .data, .data, .sentinel, .sentinel, .pinned], laidTests := true, laidLooks := .later }
def PeopleBackUptoCardSaid : Prop := Claim7.holds Tryz.pinned (.plain (OpenSpec.upto peopleBackSpec)) peopleBackUptoCard

/-- THE SECOND FORM's CARD OF 'seneschallaw12.PeopleGrows'. -/
def peopleGrowsUptoCard : Claim7 := { stood := { row := peopleGrowsUptoRow, standIns := [], harness := (true, "c64ba48eed445a5ca2837706362080766f6e3d8c91eae5522d3928c4b340dbbf"), looks := true }, kinds := [], alts := [], laidByText := true, laidKinds := [.data, .data, .data, .data, .sentinel, .sentinel, .pinned], laidTests := true, laidLooks := .later }
def PeopleGrowsUptoCardSaid : Prop := Claim7.holds Tryz.pinned (.plain (OpenSpec.upto peopleGrowsSpec)) peopleGrowsUptoCard

/-- THE SECOND FORM's CARD OF 'seneschallaw12.PeopleKeeps'. -/
def peopleKeepsUptoCard : Claim7 := { stood := { row := peopleKeepsUptoRow, standIns := [], harness := (true, "c64ba48eed445a5ca2837706362080766f6e3d8c91eae5522d3928c4b340dbbf"), looks := true }, kinds := [], alts := [], laidByText := true, laidKinds := [.data, .data, .data, .data, .sentinel, .sentinel, .pinned], laidTests := true, laidLooks := .later }
def PeopleKeepsUptoCardSaid : Prop := Claim7.holds Tryz.pinned (.plain (OpenSpec.upto peopleKeepsSpec)) peopleKeepsUptoCard

/-- THE SECOND FORM's CARD OF 'seneschallaw12.PeopleDrops'. -/
def peopleDropsUptoCard : Claim7 := { stood := { row := peopleDropsUptoRow, standIns := [], harness := (true, "c64ba48eed445a5ca2837706362080766f6e3d8c91eae5522d3928c4b340dbbf"), looks := true }, kinds := [], alts := [], laidByText := true, laidKinds := [.data, .data, .data, .data, .sentinel, .sentinel, .pinned], laidTests := true, laidLooks := .later }
def PeopleDropsUptoCardSaid : Prop := Claim7.holds Tryz.pinned (.plain (OpenSpec.upto peopleDropsSpec)) peopleDropsUptoCard

/-- THE SECOND FORM's CARD OF 'seneschallaw12.PeopleDoes'. -/
def peopleDoesUptoCard : Claim7 := { stood := { row := peopleDoesUptoRow, standIns := [], harness := (true, "c64ba48eed445a5ca2837706362080766f6e3d8c91eae5522d3928c4b340dbbf"), looks := true }, kinds := [], alts := [], laidByText := true, laidKinds := [.data, .data, .data, .data, .sentinel, .sentinel, .pinned], laidTests := true, laidLooks := .later }
def PeopleDoesUptoCardSaid : Prop := Claim7.holds Tryz.pinned (.plain (OpenSpec.upto peopleDoesSpec)) peopleDoesUptoCard
end Rows
end Go.Proofs.YtopanhneegpgcaaGreatDoor
