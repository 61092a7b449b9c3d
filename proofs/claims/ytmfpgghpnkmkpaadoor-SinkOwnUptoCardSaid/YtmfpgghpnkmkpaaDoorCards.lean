/-
  DERIVED. GIVEN WITH THE SEED: THE CARDS: each row of YtmfpgghpnkmkpaaDoorRows.lean that lists a variable, with what it lists TIED to the program's text (the seventh form; the later family's looks); each row that meets fmt, with fmt's text TOLD by the authors' own Lean function (tested against real Go, not proved from fmt's source: count such statements apart). THE CARD IS WHAT COUNTS. Prove the row's statement (the work); the ties are given (YtmfpgghpnkmkpaaDoorTie.lean); close each card by the builder's one call (the guide's Derived/Test/ToyasCard.lean, 'card_holds'). Laid BY PROGRAM, IN A SANDBOX (cutbox-door.mjs). By AI agents, Wed Nov 11 2026. No macro, syntax, notation, axiom, sorry.
-/
import Derived.Test.YtmfpgghpnkmkpaaDoorRows
import GoSem.ClaimSeven
namespace Go.Proofs.YtmfpgghpnkmkpaaDoor
namespace Rows

/-- THE TIED CARD OF 'tumblerlaw18.SinkPlays'. -/
def sinkPlaysCard : Claim7 := { stood := { row := sinkPlaysRow, standIns := [], harness := (true, "0e7432c2f7dc2f871313339061022ef5dee69a7d47e83665319126425cc5310d"), looks := true }, kinds := [], alts := [], laidByText := true, laidKinds := [.sentinel], laidTests := true, laidLooks := .later }
def SinkPlaysCardSaid : Prop := Claim7.holds Tryd.pinned (.plain (OpenSpec.ofChange sinkPlaysSpec)) sinkPlaysCard

/-- THE TIED CARD OF 'tumblerlaw18.SinkNils'. -/
def sinkNilsCard : Claim7 := { stood := { row := sinkNilsRow, standIns := [], harness := (true, "0e7432c2f7dc2f871313339061022ef5dee69a7d47e83665319126425cc5310d"), looks := true }, kinds := [], alts := [], laidByText := true, laidKinds := [.sentinel], laidTests := true, laidLooks := .later }
def SinkNilsCardSaid : Prop := Claim7.holds Tryd.pinned (.plain (OpenSpec.ofChange sinkNilsSpec)) sinkNilsCard

/-- THE TIED CARD OF 'tumblerlaw18.SinkFrames'. -/
def sinkFramesCard : Claim7 := { stood := { row := sinkFramesRow, standIns := [], harness := (true, "0e7432c2f7dc2f871313339061022ef5dee69a7d47e83665319126425cc5310d"), looks := true }, kinds := [], alts := [], laidByText := true, laidKinds := [.sentinel], laidTests := true, laidLooks := .later }
def SinkFramesCardSaid : Prop := Claim7.holds Tryd.pinned (.plain (OpenSpec.ofChange sinkFramesSpec)) sinkFramesCard

/-- THE TIED CARD OF 'tumblerlaw18.SinkNamed'. -/
def sinkNamedCard : Claim7 := { stood := { row := sinkNamedRow, standIns := [], harness := (true, "0e7432c2f7dc2f871313339061022ef5dee69a7d47e83665319126425cc5310d"), looks := true }, kinds := [], alts := [], laidByText := true, laidKinds := [.sentinel], laidTests := true, laidLooks := .later }
def SinkNamedCardSaid : Prop := Claim7.holds Tryd.pinned (.plain (OpenSpec.ofChange sinkNamedSpec)) sinkNamedCard

/-- THE TIED CARD OF 'tumblerlaw18.SinkPieces'. -/
def sinkPiecesCard : Claim7 := { stood := { row := sinkPiecesRow, standIns := [], harness := (true, "0e7432c2f7dc2f871313339061022ef5dee69a7d47e83665319126425cc5310d"), looks := true }, kinds := [], alts := [], laidByText := true, laidKinds := [.sentinel], laidTests := true, laidLooks := .later }
def SinkPiecesCardSaid : Prop := Claim7.holds Tryd.pinned (.plain (OpenSpec.ofChange sinkPiecesSpec)) sinkPiecesCard

/-- THE TIED CARD OF 'tumblerlaw18.SinkOrders'. -/
def sinkOrdersCard : Claim7 := { stood := { row := sinkOrdersRow, standIns := [], harness := (true, "0e7432c2f7dc2f871313339061022ef5dee69a7d47e83665319126425cc5310d"), looks := true }, kinds := [], alts := [], laidByText := true, laidKinds := [.sentinel], laidTests := true, laidLooks := .later }
def SinkOrdersCardSaid : Prop := Claim7.holds Tryd.pinned (.plain (OpenSpec.ofChange sinkOrdersSpec)) sinkOrdersCard

/-- THE TIED CARD OF 'tumblerlaw18.SinkOwn'. -/
def sinkOwnCard : Claim7 := { stood := { row := sinkOwnRow, standIns := [], harness := (true, "0e7432c2f7dc2f871313339061022ef5dee69a7d47e83665319126425cc5310d"), looks := true }, kinds := [], alts := [], laidByText := true, laidKinds := [.sentinel], laidTests := true, laidLooks := .later }
def SinkOwnCardSaid : Prop := Claim7.holds Tryd.pinned (.plain (OpenSpec.ofChange sinkOwnSpec)) sinkOwnCard

/-- THE SECOND FORM's CARD OF 'tumblerlaw18.SinkPlays'. -/
def sinkPlaysUptoCard : Claim7 := { stood := { row := sinkPlaysUptoRow, standIns := [], harness := (true, "0e7432c2f7dc2f871313339061022ef5dee69a7d47e83665319126425cc5310d"), looks := true }, kinds := [], alts := [], laidByText := true, laidKinds := [.sentinel], laidTests := true, laidLooks := .later }
def SinkPlaysUptoCardSaid : Prop := Claim7.holds Tryd.pinned (.plain (OpenSpec.upto sinkPlaysSpec)) sinkPlaysUptoCard

/-- THE SECOND FORM's CARD OF 'tumblerlaw18.SinkNils'. -/
def sinkNilsUptoCard : Claim7 := { stood := { row := sinkNilsUptoRow, standIns := [], harness := (true, "0e7432c2f7dc2f871313339061022ef5dee69a7d47e83665319126425cc5310d"), looks := true }, kinds := [], alts := [], laidByText := true, laidKinds := [.sentinel], laidTests := true, laidLooks := .later }
def SinkNilsUptoCardSaid : Prop := Claim7.holds Tryd.pinned (.plain (OpenSpec.upto sinkNilsSpec)) sinkNilsUptoCard

/-- THE SECOND FORM's CARD OF 'tumblerlaw18.SinkFrames'. -/
def sinkFramesUptoCard : Claim7 := { stood := { row := sinkFramesUptoRow, standIns := [], harness := (true, "0e7432c2f7dc2f871313339061022ef5dee69a7d47e83665319126425cc5310d"), looks := true }, kinds := [], alts := [], laidByText := true, laidKinds := [.sentinel], laidTests := true, laidLooks := .later }
def SinkFramesUptoCardSaid : Prop := Claim7.holds Tryd.pinned (.plain (OpenSpec.upto sinkFramesSpec)) sinkFramesUptoCard

/-- THE SECOND FORM's CARD OF 'tumblerlaw18.SinkNamed'. -/
def sinkNamedUptoCard : Claim7 := { stood := { row := sinkNamedUptoRow, standIns := [], harness := (true, "0e7432c2f7dc2f871313339061022ef5dee69a7d47e83665319126425cc5310d"), looks := true }, kinds := [], alts := [], laidByText := true, laidKinds := [.sentinel], laidTests := true, laidLooks := .later }
def SinkNamedUptoCardSaid : Prop := Claim7.holds Tryd.pinned (.plain (OpenSpec.upto sinkNamedSpec)) sinkNamedUptoCard

/-- THE SECOND FORM's CARD OF 'tumblerlaw18.SinkPieces'. -/
def sinkPiecesUptoCard : Claim7 := { stood := { row := sinkPiecesUptoRow, standIns := [], harness := (true, "0e7432c2f7dc2f871313339061022ef5dee69a7d47e83665319126425cc5310d"), looks := true }, kinds := [], alts := [], laidByText := true, laidKinds := [.sentinel], laidTests := true, laidLooks := .later }
def SinkPiecesUptoCardSaid : Prop := Claim7.holds Tryd.pinned (.plain (OpenSpec.upto sinkPiecesSpec)) sinkPiecesUptoCard

/-- THE SECOND FORM's CARD OF 'tumblerlaw18.SinkOrders'. -/
def sinkOrdersUptoCard : Claim7 := { stood := { row := sinkOrdersUptoRow, standIns := [], harness := (true, "0e7432c2f7dc2f871313339061022ef5dee69a7d47e83665319126425cc5310d"), looks := true }, kinds := [], alts := [], laidByText := true, laidKinds := [.sentinel], laidTests := true, laidLooks := .later }
def SinkOrdersUptoCardSaid : Prop := Claim7.holds Tryd.pinned (.plain (OpenSpec.upto sinkOrdersSpec)) sinkOrdersUptoCard

/-- THE SECOND FORM's CARD OF 'tumblerlaw18.SinkOwn'. -/
def sinkOwnUptoCard : Claim7 := { stood := { row := sinkOwnUptoRow, standIns := [], harness := (true, "0e7432c2f7dc2f871313339061022ef5dee69a7d47e83665319126425cc5310d"), looks := true }, kinds := [], alts := [], laidByText := true, laidKinds := [.sentinel], laidTests := true, laidLooks := .later }
def SinkOwnUptoCardSaid : Prop := Claim7.holds Tryd.pinned (.plain (OpenSpec.upto sinkOwnSpec)) sinkOwnUptoCard
end Rows
end Go.Proofs.YtmfpgghpnkmkpaaDoor
