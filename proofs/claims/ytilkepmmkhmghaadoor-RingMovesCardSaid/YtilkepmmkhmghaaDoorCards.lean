/-
  DERIVED. GIVEN WITH THE SEED: THE CARDS: each row of YtilkepmmkhmghaaDoorRows.lean that lists a variable, with what it lists TIED to the program's text (the seventh form; the later family's looks); each row that meets fmt, with fmt's text TOLD by the authors' own Lean function (tested against real Go, not proved from fmt's source: count such statements apart). THE CARD IS WHAT COUNTS. Prove the row's statement (the work); the ties are given (YtilkepmmkhmghaaDoorTie.lean); close each card by the builder's one call (the guide's Derived/Test/ToyasCard.lean, 'card_holds'). Laid BY PROGRAM, IN A SANDBOX (cutbox-door.mjs). By AI agents, Wed Nov 11 2026. No macro, syntax, notation, axiom, sorry.
-/
import Derived.Test.YtilkepmmkhmghaaDoorRows
import GoSem.ClaimSeven
namespace Go.Proofs.YtilkepmmkhmghaaDoor
namespace Rows

/-- THE TIED CARD OF 'tumblerlaw13.RingOwn'. -/
def ringOwnCard : Claim7 := { stood := { row := ringOwnRow, standIns := [], harness := (true, "c854137f547b1a2cd1fadbb6d3c10518da1810bc771f0d3fb4f4c7c5b82c33ad"), looks := false }, kinds := [], alts := [], laidByText := true, laidKinds := [.data, .data, .data], laidTests := true, laidLooks := .later }
def RingOwnCardSaid : Prop := Claim7.holds Tryd.pinned (.plain (OpenSpec.ofChange ringOwnSpec)) ringOwnCard

/-- THE TIED CARD OF 'tumblerlaw13.RingGoesOn'. -/
def ringGoesOnCard : Claim7 := { stood := { row := ringGoesOnRow, standIns := [], harness := (true, "c854137f547b1a2cd1fadbb6d3c10518da1810bc771f0d3fb4f4c7c5b82c33ad"), looks := false }, kinds := [], alts := [], laidByText := true, laidKinds := [.data, .data, .data], laidTests := true, laidLooks := .later }
def RingGoesOnCardSaid : Prop := Claim7.holds Tryd.pinned (.plain (OpenSpec.ofChange ringGoesOnSpec)) ringGoesOnCard

/-- THE TIED CARD OF 'tumblerlaw13.RingPicks'. -/
def ringPicksCard : Claim7 := { stood := { row := ringPicksRow, standIns := [], harness := (true, "c854137f547b1a2cd1fadbb6d3c10518da1810bc771f0d3fb4f4c7c5b82c33ad"), looks := false }, kinds := [], alts := [], laidByText := true, laidKinds := [.data, .data, .data], laidTests := true, laidLooks := .later }
def RingPicksCardSaid : Prop := Claim7.holds Tryd.pinned (.plain (OpenSpec.ofChange ringPicksSpec)) ringPicksCard

/-- THE TIED CARD OF 'tumblerlaw13.RingHashes'. -/
def ringHashesCard : Claim7 := { stood := { row := ringHashesRow, standIns := [], harness := (true, "c854137f547b1a2cd1fadbb6d3c10518da1810bc771f0d3fb4f4c7c5b82c33ad"), looks := false }, kinds := [], alts := [], laidByText := true, laidKinds := [.data, .data, .data], laidTests := true, laidLooks := .later }
def RingHashesCardSaid : Prop := Claim7.holds Tryd.pinned (.plain (OpenSpec.ofChange ringHashesSpec)) ringHashesCard

/-- THE TIED CARD OF 'tumblerlaw13.RingKeeps'. -/
def ringKeepsCard : Claim7 := { stood := { row := ringKeepsRow, standIns := [], harness := (true, "c854137f547b1a2cd1fadbb6d3c10518da1810bc771f0d3fb4f4c7c5b82c33ad"), looks := false }, kinds := [], alts := [], laidByText := true, laidKinds := [.data, .data, .data], laidTests := true, laidLooks := .later }
def RingKeepsCardSaid : Prop := Claim7.holds Tryd.pinned (.plain (OpenSpec.ofChange ringKeepsSpec)) ringKeepsCard

/-- THE TIED CARD OF 'tumblerlaw13.RingMoves'. -/
def ringMovesCard : Claim7 := { stood := { row := ringMovesRow, standIns := [], harness := (true, "c854137f547b1a2cd1fadbb6d3c10518da1810bc771f0d3fb4f4c7c5b82c33ad"), looks := false }, kinds := [], alts := [], laidByText := true, laidKinds := [.data, .data, .data], laidTests := true, laidLooks := .later }
def RingMovesCardSaid : Prop := Claim7.holds Tryd.pinned (.plain (OpenSpec.ofChange ringMovesSpec)) ringMovesCard

/-- THE TIED CARD OF 'tumblerlaw13.RingNobody'. -/
def ringNobodyCard : Claim7 := { stood := { row := ringNobodyRow, standIns := [], harness := (true, "c854137f547b1a2cd1fadbb6d3c10518da1810bc771f0d3fb4f4c7c5b82c33ad"), looks := false }, kinds := [], alts := [], laidByText := true, laidKinds := [.data, .data, .data], laidTests := true, laidLooks := .later }
def RingNobodyCardSaid : Prop := Claim7.holds Tryd.pinned (.plain (OpenSpec.ofChange ringNobodySpec)) ringNobodyCard

/-- THE SECOND FORM's CARD OF 'tumblerlaw13.RingOwn'. -/
def ringOwnUptoCard : Claim7 := { stood := { row := ringOwnUptoRow, standIns := [], harness := (true, "c854137f547b1a2cd1fadbb6d3c10518da1810bc771f0d3fb4f4c7c5b82c33ad"), looks := false }, kinds := [], alts := [], laidByText := true, laidKinds := [.data, .data, .data], laidTests := true, laidLooks := .later }
def RingOwnUptoCardSaid : Prop := Claim7.holds Tryd.pinned (.plain (OpenSpec.upto ringOwnSpec)) ringOwnUptoCard

/-- THE SECOND FORM's CARD OF 'tumblerlaw13.RingGoesOn'. -/
def ringGoesOnUptoCard : Claim7 := { stood := { row := ringGoesOnUptoRow, standIns := [], harness := (true, "c854137f547b1a2cd1fadbb6d3c10518da1810bc771f0d3fb4f4c7c5b82c33ad"), looks := false }, kinds := [], alts := [], laidByText := true, laidKinds := [.data, .data, .data], laidTests := true, laidLooks := .later }
def RingGoesOnUptoCardSaid : Prop := Claim7.holds Tryd.pinned (.plain (OpenSpec.upto ringGoesOnSpec)) ringGoesOnUptoCard

/-- THE SECOND FORM's CARD OF 'tumblerlaw13.RingPicks'. -/
def ringPicksUptoCard : Claim7 := { stood := { row := ringPicksUptoRow, standIns := [], harness := (true, "c854137f547b1a2cd1fadbb6d3c10518da1810bc771f0d3fb4f4c7c5b82c33ad"), looks := false }, kinds := [], alts := [], laidByText := true, laidKinds := [.data, .data, .data], laidTests := true, laidLooks := .later }
def RingPicksUptoCardSaid : Prop := Claim7.holds Tryd.pinned (.plain (OpenSpec.upto ringPicksSpec)) ringPicksUptoCard

/-- THE SECOND FORM's CARD OF 'tumblerlaw13.RingHashes'. -/
def ringHashesUptoCard : Claim7 := { stood := { row := ringHashesUptoRow, standIns := [], harness := (true, "c854137f547b1a2cd1fadbb6d3c10518da1810bc771f0d3fb4f4c7c5b82c33ad"), looks := false }, kinds := [], alts := [], laidByText := true, laidKinds := [.data, .data, .data], laidTests := true, laidLooks := .later }
def RingHashesUptoCardSaid : Prop := Claim7.holds Tryd.pinned (.plain (OpenSpec.upto ringHashesSpec)) ringHashesUptoCard

/-- THE SECOND FORM's CARD OF 'tumblerlaw13.RingKeeps'. -/
def ringKeepsUptoCard : Claim7 := { stood := { row := ringKeepsUptoRow, standIns := [], harness := (true, "c854137f547b1a2cd1fadbb6d3c10518da1810bc771f0d3fb4f4c7c5b82c33ad"), looks := false }, kinds := [], alts := [], laidByText := true, laidKinds := [.data, .data, .data], laidTests := true, laidLooks := .later }
def RingKeepsUptoCardSaid : Prop := Claim7.holds Tryd.pinned (.plain (OpenSpec.upto ringKeepsSpec)) ringKeepsUptoCard

/-- THE SECOND FORM's CARD OF 'tumblerlaw13.RingMoves'. -/
def ringMovesUptoCard : Claim7 := { stood := { row := ringMovesUptoRow, standIns := [], harness := (true, "c854137f547b1a2cd1fadbb6d3c10518da1810bc771f0d3fb4f4c7c5b82c33ad"), looks := false }, kinds := [], alts := [], laidByText := true, laidKinds := [.data, .data, .data], laidTests := true, laidLooks := .later }
def RingMovesUptoCardSaid : Prop := Claim7.holds Tryd.pinned (.plain (OpenSpec.upto ringMovesSpec)) ringMovesUptoCard

/-- THE SECOND FORM's CARD OF 'tumblerlaw13.RingNobody'. -/
def ringNobodyUptoCard : Claim7 := { stood := { row := ringNobodyUptoRow, standIns := [], harness := (true, "c854137f547b1a2cd1fadbb6d3c10518da1810bc771f0d3fb4f4c7c5b82c33ad"), looks := false }, kinds := [], alts := [], laidByText := true, laidKinds := [.data, .data, .data], laidTests := true, laidLooks := .later }
def RingNobodyUptoCardSaid : Prop := Claim7.holds Tryd.pinned (.plain (OpenSpec.upto ringNobodySpec)) ringNobodyUptoCard
end Rows
end Go.Proofs.YtilkepmmkhmghaaDoor
