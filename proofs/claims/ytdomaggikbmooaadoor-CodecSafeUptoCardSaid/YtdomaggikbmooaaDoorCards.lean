/-
  DERIVED. GIVEN WITH THE SEED: THE CARDS: each row of YtdomaggikbmooaaDoorRows.lean that lists a variable, with what it lists TIED to the program's text (the seventh form; the later family's looks); each row that meets fmt, with fmt's text TOLD by the authors' own Lean function (tested against real Go, not proved from fmt's source: count such statements apart). THE CARD IS WHAT COUNTS. Prove the row's statement (the work); the ties are given (YtdomaggikbmooaaDoorTie.lean); close each card by the builder's one call (the guide's Derived/Test/ToyasCard.lean, 'card_holds'). Laid BY PROGRAM, IN A SANDBOX (cutbox-door.mjs). By AI agents, Wed Nov 11 2026. No macro, syntax, notation, axiom, sorry.
-/
import Derived.Test.YtdomaggikbmooaaDoorRows
import GoSem.ClaimSeven
namespace Go.Proofs.YtdomaggikbmooaaDoor
namespace Rows

/-- THE TIED CARD OF 'seneschallaw01.CodecHex'. -/
def codecHexCard : Claim7 := { stood := { row := codecHexRow, standIns := [], harness := (true, "40ee1d0ab9f6d701e3c6fdbef1fb792a7d3e82adabf73bd8478d25aa9571946a"), looks := false }, kinds := [], alts := [], laidByText := true, laidKinds := [.data, .pinned], laidTests := true, laidLooks := .later }
def CodecHexCardSaid : Prop := Claim7.holds Tryd.pinned (.plain (OpenSpec.ofChange codecHexSpec)) codecHexCard

/-- THE TIED CARD OF 'seneschallaw01.CodecBase'. -/
def codecBaseCard : Claim7 := { stood := { row := codecBaseRow, standIns := [], harness := (true, "40ee1d0ab9f6d701e3c6fdbef1fb792a7d3e82adabf73bd8478d25aa9571946a"), looks := false }, kinds := [], alts := [], laidByText := true, laidKinds := [.data, .pinned], laidTests := true, laidLooks := .later }
def CodecBaseCardSaid : Prop := Claim7.holds Tryd.pinned (.plain (OpenSpec.ofChange codecBaseSpec)) codecBaseCard

/-- THE TIED CARD OF 'seneschallaw01.CodecPercent'. -/
def codecPercentCard : Claim7 := { stood := { row := codecPercentRow, standIns := [], harness := (true, "40ee1d0ab9f6d701e3c6fdbef1fb792a7d3e82adabf73bd8478d25aa9571946a"), looks := false }, kinds := [], alts := [], laidByText := true, laidKinds := [.data, .pinned], laidTests := true, laidLooks := .later }
def CodecPercentCardSaid : Prop := Claim7.holds Tryd.pinned (.plain (OpenSpec.ofChange codecPercentSpec)) codecPercentCard

/-- THE TIED CARD OF 'seneschallaw01.CodecForm'. -/
def codecFormCard : Claim7 := { stood := { row := codecFormRow, standIns := [], harness := (true, "40ee1d0ab9f6d701e3c6fdbef1fb792a7d3e82adabf73bd8478d25aa9571946a"), looks := false }, kinds := [], alts := [], laidByText := true, laidKinds := [.data, .pinned], laidTests := true, laidLooks := .later }
def CodecFormCardSaid : Prop := Claim7.holds Tryd.pinned (.plain (OpenSpec.ofChange codecFormSpec)) codecFormCard

/-- THE TIED CARD OF 'seneschallaw01.CodecGet'. -/
def codecGetCard : Claim7 := { stood := { row := codecGetRow, standIns := [], harness := (true, "40ee1d0ab9f6d701e3c6fdbef1fb792a7d3e82adabf73bd8478d25aa9571946a"), looks := false }, kinds := [], alts := [], laidByText := true, laidKinds := [.data, .pinned], laidTests := true, laidLooks := .later }
def CodecGetCardSaid : Prop := Claim7.holds Tryd.pinned (.plain (OpenSpec.ofChange codecGetSpec)) codecGetCard

/-- THE TIED CARD OF 'seneschallaw01.CodecBack'. -/
def codecBackCard : Claim7 := { stood := { row := codecBackRow, standIns := [], harness := (true, "40ee1d0ab9f6d701e3c6fdbef1fb792a7d3e82adabf73bd8478d25aa9571946a"), looks := false }, kinds := [], alts := [], laidByText := true, laidKinds := [.data, .pinned], laidTests := true, laidLooks := .later }
def CodecBackCardSaid : Prop := Claim7.holds Tryd.pinned (.plain (OpenSpec.ofChange codecBackSpec)) codecBackCard

/-- THE TIED CARD OF 'seneschallaw01.CodecOnly'. -/
def codecOnlyCard : Claim7 := { stood := { row := codecOnlyRow, standIns := [], harness := (true, "40ee1d0ab9f6d701e3c6fdbef1fb792a7d3e82adabf73bd8478d25aa9571946a"), looks := false }, kinds := [], alts := [], laidByText := true, laidKinds := [.data, .pinned], laidTests := true, laidLooks := .later }
def CodecOnlyCardSaid : Prop := Claim7.holds Tryd.pinned (.plain (OpenSpec.ofChange codecOnlySpec)) codecOnlyCard

/-- THE TIED CARD OF 'seneschallaw01.CodecSafe'. -/
def codecSafeCard : Claim7 := { stood := { row := codecSafeRow, standIns := [], harness := (true, "40ee1d0ab9f6d701e3c6fdbef1fb792a7d3e82adabf73bd8478d25aa9571946a"), looks := false }, kinds := [], alts := [], laidByText := true, laidKinds := [.data, .pinned], laidTests := true, laidLooks := .later }
def CodecSafeCardSaid : Prop := Claim7.holds Tryd.pinned (.plain (OpenSpec.ofChange codecSafeSpec)) codecSafeCard

/-- THE SECOND FORM's CARD OF 'seneschallaw01.CodecHex'. -/
def codecHexUptoCard : Claim7 := { stood := { row := codecHexUptoRow, standIns := [], harness := (true, "40ee1d0ab9f6d701e3c6fdbef1fb792a7d3e82adabf73bd8478d25aa9571946a"), looks := false }, kinds := [], alts := [], laidByText := true, laidKinds := [.data, .pinned], laidTests := true, laidLooks := .later }
def CodecHexUptoCardSaid : Prop := Claim7.holds Tryd.pinned (.plain (OpenSpec.upto codecHexSpec)) codecHexUptoCard

/-- THE SECOND FORM's CARD OF 'seneschallaw01.CodecBase'. -/
def codecBaseUptoCard : Claim7 := { stood := { row := codecBaseUptoRow, standIns := [], harness := (true, "40ee1d0ab9f6d701e3c6fdbef1fb792a7d3e82adabf73bd8478d25aa9571946a"), looks := false }, kinds := [], alts := [], laidByText := true, laidKinds := [.data, .pinned], laidTests := true, laidLooks := .later }
def CodecBaseUptoCardSaid : Prop := Claim7.holds Tryd.pinned (.plain (OpenSpec.upto codecBaseSpec)) codecBaseUptoCard

/-- THE SECOND FORM's CARD OF 'seneschallaw01.CodecPercent'. -/
def codecPercentUptoCard : Claim7 := { stood := { row := codecPercentUptoRow, standIns := [], harness := (true, "40ee1d0ab9f6d701e3c6fdbef1fb792a7d3e82adabf73bd8478d25aa9571946a"), looks := false }, kinds := [], alts := [], laidByText := true, laidKinds := [.data, .pinned], laidTests := true, laidLooks := .later }
def CodecPercentUptoCardSaid : Prop := Claim7.holds Tryd.pinned (.plain (OpenSpec.upto codecPercentSpec)) codecPercentUptoCard

/-- THE SECOND FORM's CARD OF 'seneschallaw01.CodecForm'. -/
def codecFormUptoCard : Claim7 := { stood := { row := codecFormUptoRow, standIns := [], harness := (true, "40ee1d0ab9f6d701e3c6fdbef1fb792a7d3e82adabf73bd8478d25aa9571946a"), looks := false }, kinds := [], alts := [], laidByText := true, laidKinds := [.data, .pinned], laidTests := true, laidLooks := .later }
def CodecFormUptoCardSaid : Prop := Claim7.holds Tryd.pinned (.plain (OpenSpec.upto codecFormSpec)) codecFormUptoCard

/-- THE SECOND FORM's CARD OF 'seneschallaw01.CodecGet'. -/
def codecGetUptoCard : Claim7 := { stood := { row := codecGetUptoRow, standIns := [], harness := (true, "40ee1d0ab9f6d701e3c6fdbef1fb792a7d3e82adabf73bd8478d25aa9571946a"), looks := false }, kinds := [], alts := [], laidByText := true, laidKinds := [.data, .pinned], laidTests := true, laidLooks := .later }
def CodecGetUptoCardSaid : Prop := Claim7.holds Tryd.pinned (.plain (OpenSpec.upto codecGetSpec)) codecGetUptoCard

/-- THE SECOND FORM's CARD OF 'seneschallaw01.CodecBack'. -/
def codecBackUptoCard : Claim7 := { stood := { row := codecBackUptoRow, standIns := [], harness := (true, "40ee1d0ab9f6d701e3c6fdbef1fb792a7d3e82adabf73bd8478d25aa9571946a"), looks := false }, kinds := [], alts := [], laidByText := true, laidKinds := [.data, .pinned], laidTests := true, laidLooks := .later }
def CodecBackUptoCardSaid : Prop := Claim7.holds Tryd.pinned (.plain (OpenSpec.upto codecBackSpec)) codecBackUptoCard

/-- THE SECOND FORM's CARD OF 'seneschallaw01.CodecOnly'. -/
def codecOnlyUptoCard : Claim7 := { stood := { row := codecOnlyUptoRow, standIns := [], harness := (true, "40ee1d0ab9f6d701e3c6fdbef1fb792a7d3e82adabf73bd8478d25aa9571946a"), looks := false }, kinds := [], alts := [], laidByText := true, laidKinds := [.data, .pinned], laidTests := true, laidLooks := .later }
def CodecOnlyUptoCardSaid : Prop := Claim7.holds Tryd.pinned (.plain (OpenSpec.upto codecOnlySpec)) codecOnlyUptoCard

/-- THE SECOND FORM's CARD OF 'seneschallaw01.CodecSafe'. -/
def codecSafeUptoCard : Claim7 := { stood := { row := codecSafeUptoRow, standIns := [], harness := (true, "40ee1d0ab9f6d701e3c6fdbef1fb792a7d3e82adabf73bd8478d25aa9571946a"), looks := false }, kinds := [], alts := [], laidByText := true, laidKinds := [.data, .pinned], laidTests := true, laidLooks := .later }
def CodecSafeUptoCardSaid : Prop := Claim7.holds Tryd.pinned (.plain (OpenSpec.upto codecSafeSpec)) codecSafeUptoCard
end Rows
end Go.Proofs.YtdomaggikbmooaaDoor
