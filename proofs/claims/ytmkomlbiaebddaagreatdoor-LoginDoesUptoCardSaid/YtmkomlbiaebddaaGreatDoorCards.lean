/-
  DERIVED. GIVEN WITH THE SEED: THE CARDS: each row of YtmkomlbiaebddaaGreatDoorRows.lean that lists a variable, with what it lists TIED to the program's text (the seventh form; the later family's looks); each row that meets fmt, with fmt's text TOLD by the authors' own Lean function (tested against real Go, not proved from fmt's source: count such statements apart). THE CARD IS WHAT COUNTS. Prove the row's statement (the work); the ties are given (YtmkomlbiaebddaaGreatDoorTie.lean); close each card by the builder's one call (the guide's Derived/Test/ToyasCard.lean, 'card_holds'). Laid BY PROGRAM, IN A SANDBOX (cutbox-door.mjs). By AI agents, Wed Nov 11 2026. No macro, syntax, notation, axiom, sorry.
-/
import Derived.Test.YtmkomlbiaebddaaGreatDoorRows
import GoSem.ClaimSeven
namespace Go.Proofs.YtmkomlbiaebddaaGreatDoor
namespace Rows

/-- THE TIED CARD OF 'seneschallaw15.LoginLoads'. -/
def loginLoadsCard : Claim7 := { stood := { row := loginLoadsRow, standIns := [], harness := (true, "d944b655d78ae59e82881e56acab4559fecc8304bee13254de0ba4e7ac454def"), looks := true }, kinds := [], alts := [], laidByText := true, laidKinds := [.data, .data, .data, .data, .sentinel, .sentinel, .pinned], laidTests := true, laidLooks := .later }
def LoginLoadsCardSaid : Prop := Claim7.holds Tryz.pinned (.plain (OpenSpec.ofChange loginLoadsSpec)) loginLoadsCard

/-- THE TIED CARD OF 'seneschallaw15.LoginLocks'. -/
def loginLocksCard : Claim7 := { stood := { row := loginLocksRow, standIns := [], harness := (true, "d944b655d78ae59e82881e56acab4559fecc8304bee13254de0ba4e7ac454def"), looks := true }, kinds := [], alts := [], laidByText := true, laidKinds := [.data, .data, .data, .data, .sentinel, .sentinel, .pinned], laidTests := true, laidLooks := .later }
def LoginLocksCardSaid : Prop := Claim7.holds Tryz.pinned (.plain (OpenSpec.ofChange loginLocksSpec)) loginLocksCard

/-- THE TIED CARD OF 'seneschallaw15.LoginSteps'. -/
def loginStepsCard : Claim7 := { stood := { row := loginStepsRow, standIns := [], harness := (true, "d944b655d78ae59e82881e56acab4559fecc8304bee13254de0ba4e7ac454def"), looks := true }, kinds := [], alts := [], laidByText := true, laidKinds := [.data, .data, .data, .data, .sentinel, .sentinel, .pinned], laidTests := true, laidLooks := .later }
def LoginStepsCardSaid : Prop := Claim7.holds Tryz.pinned (.plain (OpenSpec.ofChange loginStepsSpec)) loginStepsCard

/-- THE TIED CARD OF 'seneschallaw15.LoginRises'. -/
def loginRisesCard : Claim7 := { stood := { row := loginRisesRow, standIns := [], harness := (true, "d944b655d78ae59e82881e56acab4559fecc8304bee13254de0ba4e7ac454def"), looks := true }, kinds := [], alts := [], laidByText := true, laidKinds := [.data, .data, .data, .data, .sentinel, .sentinel, .pinned], laidTests := true, laidLooks := .later }
def LoginRisesCardSaid : Prop := Claim7.holds Tryz.pinned (.plain (OpenSpec.ofChange loginRisesSpec)) loginRisesCard

/-- THE TIED CARD OF 'seneschallaw15.LoginBack'. -/
def loginBackCard : Claim7 := { stood := { row := loginBackRow, standIns := [], harness := (true, "d944b655d78ae59e82881e56acab4559fecc8304bee13254de0ba4e7ac454def"), looks := true }, kinds := [], alts := [], laidByText := true, laidKinds := [.data, .data, .data, .data, .sentinel, .sentinel, .pinned], laidTests := true, laidLooks := .later }
def LoginBackCardSaid : Prop := Claim7.holds Tryz.pinned (.plain (OpenSpec.ofChange loginBackSpec)) loginBackCard

/-- THE TIED CARD OF 'seneschallaw15.LoginDoes'. -/
def loginDoesCard : Claim7 := { stood := { row := loginDoesRow, standIns := [], harness := (true, "d944b655d78ae59e82881e56acab4559fecc8304bee13254de0ba4e7ac454def"), looks := true }, kinds := [], alts := [], laidByText := true, laidKinds := [.data, .data, .data, .data, .sentinel, .sentinel, .pinned], laidTests := true, laidLooks := .later }
def LoginDoesCardSaid : Prop := Claim7.holds Tryz.pinned (.plain (OpenSpec.ofChange loginDoesSpec)) loginDoesCard

/-- THE SECOND FORM's CARD OF 'seneschallaw15.LoginLoads'. -/
def loginLoadsUptoCard : Claim7 := { stood := { row := loginLoadsUptoRow, standIns := [], harness := (true, "d944b655d78ae59e82881e56acab4559fecc8304bee13254de0ba4e7ac454def"), looks := true }, kinds := [], alts := [], laidByText := true, laidKinds := [.data, .data, .data, .data, .sentinel, .sentinel, .pinned], laidTests := true, laidLooks := .later }
def LoginLoadsUptoCardSaid : Prop := Claim7.holds Tryz.pinned (.plain (OpenSpec.upto loginLoadsSpec)) loginLoadsUptoCard

/-- THE SECOND FORM's CARD OF 'seneschallaw15.LoginLocks'. -/
def loginLocksUptoCard : Claim7 := { stood := { row := loginLocksUptoRow, standIns := [], harness := (true, "d944b655d78ae59e82881e56acab4559fecc8304bee13254de0ba4e7ac454def"), looks := true }, kinds := [], alts := [], laidByText := true, laidKinds := [.data, .data, .data, .data, .sentinel, .sentinel, .pinned], laidTests := true, laidLooks := .later }
def LoginLocksUptoCardSaid : Prop := Claim7.holds Tryz.pinned (.plain (OpenSpec.upto loginLocksSpec)) loginLocksUptoCard

/-- THE SECOND FORM's CARD OF 'seneschallaw15.LoginSteps'. -/
def loginStepsUptoCard : Claim7 := { stood := { row := loginStepsUptoRow, standIns := [], harness := (true, "d944b655d78ae59e82881e56acab4559fecc8304bee13254de0ba4e7ac454def"), looks := true }, kinds := [], alts := [], laidByText := true, laidKinds := [.data, .data, .data, .data, .sentinel, .sentinel, .pinned], laidTests := true, laidLooks := .later }
def LoginStepsUptoCardSaid : Prop := Claim7.holds Tryz.pinned (.plain (OpenSpec.upto loginStepsSpec)) loginStepsUptoCard

/-- THE SECOND FORM's CARD OF 'seneschallaw15.LoginRises'. -/
def loginRisesUptoCard : Claim7 := { stood := { row := loginRisesUptoRow, standIns := [], harness := (true, "d944b655d78ae59e82881e56acab4559fecc8304bee13254de0ba4e7ac454def"), looks := true }, kinds := [], alts := [], laidByText := true, laidKinds := [.data, .data, .data, .data, .sentinel, .sentinel, .pinned], laidTests := true, laidLooks := .later }
def LoginRisesUptoCardSaid : Prop := Claim7.holds Tryz.pinned (.plain (OpenSpec.upto loginRisesSpec)) loginRisesUptoCard

/-- THE SECOND FORM's CARD OF 'seneschallaw15.LoginBack'. -/
def loginBackUptoCard : Claim7 := { stood := { row := loginBackUptoRow, standIns := [], harness := (true, "d944b655d78ae59e82881e56acab4559fecc8304bee13254de0ba4e7ac454def"), looks := true }, kinds := [], alts := [], laidByText := true, laidKinds := [.data, .data, .data, .data, .sentinel, .sentinel, .pinned], laidTests := true, laidLooks := .later }
def LoginBackUptoCardSaid : Prop := Claim7.holds Tryz.pinned (.plain (OpenSpec.upto loginBackSpec)) loginBackUptoCard

/-- THE SECOND FORM's CARD OF 'seneschallaw15.LoginDoes'. -/
def loginDoesUptoCard : Claim7 := { stood := { row := loginDoesUptoRow, standIns := [], harness := (true, "d944b655d78ae59e82881e56acab4559fecc8304bee13254de0ba4e7ac454def"), looks := true }, kinds := [], alts := [], laidByText := true, laidKinds := [.data, .data, .data, .data, .sentinel, .sentinel, .pinned], laidTests := true, laidLooks := .later }
def LoginDoesUptoCardSaid : Prop := Claim7.holds Tryz.pinned (.plain (OpenSpec.upto loginDoesSpec)) loginDoesUptoCard
end Rows
end Go.Proofs.YtmkomlbiaebddaaGreatDoor
