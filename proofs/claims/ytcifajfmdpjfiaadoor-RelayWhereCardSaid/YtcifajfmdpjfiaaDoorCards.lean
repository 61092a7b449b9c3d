/-
  DERIVED. GIVEN WITH THE SEED: THE CARDS: each row of YtcifajfmdpjfiaaDoorRows.lean that lists a variable, with what it lists TIED to the program's text (the seventh form; the later family's looks); each row that meets fmt, with fmt's text TOLD by the authors' own Lean function (tested against real Go, not proved from fmt's source: count such statements apart). THE CARD IS WHAT COUNTS. Prove the row's statement (the work); the ties are given (YtcifajfmdpjfiaaDoorTie.lean); close each card by the builder's one call (the guide's Derived/Test/ToyasCard.lean, 'card_holds'). Laid BY PROGRAM, IN A SANDBOX (cutbox-door.mjs). By AI agents, Wed Nov 11 2026. No macro, syntax, notation, axiom, sorry.
-/
import Derived.Test.YtcifajfmdpjfiaaDoorRows
import GoSem.ClaimSeven
namespace Go.Proofs.YtcifajfmdpjfiaaDoor
namespace Rows

/-- THE TIED CARD OF 'tumblerlaw24.RelayOrder'. -/
def relayOrderCard : Claim7 := { stood := { row := relayOrderRow, standIns := [], harness := (true, "844507a27aa7d2d1fc230c0bd20db471c457e5b56676b710c181d16d54048c24"), looks := false }, kinds := [], alts := [], laidByText := true, laidKinds := [.data, .data, .data], laidTests := true, laidLooks := .later }
def RelayOrderCardSaid : Prop := Claim7.holds Tryd.pinned (.plain (OpenSpec.ofChange relayOrderSpec)) relayOrderCard

/-- THE TIED CARD OF 'tumblerlaw24.RelayDrops'. -/
def relayDropsCard : Claim7 := { stood := { row := relayDropsRow, standIns := [], harness := (true, "844507a27aa7d2d1fc230c0bd20db471c457e5b56676b710c181d16d54048c24"), looks := false }, kinds := [], alts := [], laidByText := true, laidKinds := [.data, .data, .data], laidTests := true, laidLooks := .later }
def RelayDropsCardSaid : Prop := Claim7.holds Tryd.pinned (.plain (OpenSpec.ofChange relayDropsSpec)) relayDropsCard

/-- THE TIED CARD OF 'tumblerlaw24.RelayOwn'. -/
def relayOwnCard : Claim7 := { stood := { row := relayOwnRow, standIns := [], harness := (true, "844507a27aa7d2d1fc230c0bd20db471c457e5b56676b710c181d16d54048c24"), looks := false }, kinds := [], alts := [], laidByText := true, laidKinds := [.data, .data, .data], laidTests := true, laidLooks := .later }
def RelayOwnCardSaid : Prop := Claim7.holds Tryd.pinned (.plain (OpenSpec.ofChange relayOwnSpec)) relayOwnCard

/-- THE TIED CARD OF 'tumblerlaw24.RelayWhere'. -/
def relayWhereCard : Claim7 := { stood := { row := relayWhereRow, standIns := [], harness := (true, "844507a27aa7d2d1fc230c0bd20db471c457e5b56676b710c181d16d54048c24"), looks := false }, kinds := [], alts := [], laidByText := true, laidKinds := [.data, .data, .data], laidTests := true, laidLooks := .later }
def RelayWhereCardSaid : Prop := Claim7.holds Tryd.pinned (.plain (OpenSpec.ofChange relayWhereSpec)) relayWhereCard

/-- THE TIED CARD OF 'tumblerlaw24.RelayRuns'. -/
def relayRunsCard : Claim7 := { stood := { row := relayRunsRow, standIns := [], harness := (true, "844507a27aa7d2d1fc230c0bd20db471c457e5b56676b710c181d16d54048c24"), looks := false }, kinds := [], alts := [], laidByText := true, laidKinds := [.data, .data, .data], laidTests := true, laidLooks := .later }
def RelayRunsCardSaid : Prop := Claim7.holds Tryd.pinned (.plain (OpenSpec.ofChange relayRunsSpec)) relayRunsCard

/-- THE TIED CARD OF 'tumblerlaw24.RelayKeeps'. -/
def relayKeepsCard : Claim7 := { stood := { row := relayKeepsRow, standIns := [], harness := (true, "844507a27aa7d2d1fc230c0bd20db471c457e5b56676b710c181d16d54048c24"), looks := false }, kinds := [], alts := [], laidByText := true, laidKinds := [.data, .data, .data], laidTests := true, laidLooks := .later }
def RelayKeepsCardSaid : Prop := Claim7.holds Tryd.pinned (.plain (OpenSpec.ofChange relayKeepsSpec)) relayKeepsCard

/-- THE TIED CARD OF 'tumblerlaw24.RelayNobody'. -/
def relayNobodyCard : Claim7 := { stood := { row := relayNobodyRow, standIns := [], harness := (true, "844507a27aa7d2d1fc230c0bd20db471c457e5b56676b710c181d16d54048c24"), looks := false }, kinds := [], alts := [], laidByText := true, laidKinds := [.data, .data, .data], laidTests := true, laidLooks := .later }
def RelayNobodyCardSaid : Prop := Claim7.holds Tryd.pinned (.plain (OpenSpec.ofChange relayNobodySpec)) relayNobodyCard

/-- THE SECOND FORM's CARD OF 'tumblerlaw24.RelayOrder'. -/
def relayOrderUptoCard : Claim7 := { stood := { row := relayOrderUptoRow, standIns := [], harness := (true, "844507a27aa7d2d1fc230c0bd20db471c457e5b56676b710c181d16d54048c24"), looks := false }, kinds := [], alts := [], laidByText := true, laidKinds := [.data, .data, .data], laidTests := true, laidLooks := .later }
def RelayOrderUptoCardSaid : Prop := Claim7.holds Tryd.pinned (.plain (OpenSpec.upto relayOrderSpec)) relayOrderUptoCard

/-- THE SECOND FORM's CARD OF 'tumblerlaw24.RelayDrops'. -/
def relayDropsUptoCard : Claim7 := { stood := { row := relayDropsUptoRow, standIns := [], harness := (true, "844507a27aa7d2d1fc230c0bd20db471c457e5b56676b710c181d16d54048c24"), looks := false }, kinds := [], alts := [], laidByText := true, laidKinds := [.data, .data, .data], laidTests := true, laidLooks := .later }
def RelayDropsUptoCardSaid : Prop := Claim7.holds Tryd.pinned (.plain (OpenSpec.upto relayDropsSpec)) relayDropsUptoCard

/-- THE SECOND FORM's CARD OF 'tumblerlaw24.RelayOwn'. -/
def relayOwnUptoCard : Claim7 := { stood := { row := relayOwnUptoRow, standIns := [], harness := (true, "844507a27aa7d2d1fc230c0bd20db471c457e5b56676b710c181d16d54048c24"), looks := false }, kinds := [], alts := [], laidByText := true, laidKinds := [.data, .data, .data], laidTests := true, laidLooks := .later }
def RelayOwnUptoCardSaid : Prop := Claim7.holds Tryd.pinned (.plain (OpenSpec.upto relayOwnSpec)) relayOwnUptoCard

/-- THE SECOND FORM's CARD OF 'tumblerlaw24.RelayWhere'. -/
def relayWhereUptoCard : Claim7 := { stood := { row := relayWhereUptoRow, standIns := [], harness := (true, "844507a27aa7d2d1fc230c0bd20db471c457e5b56676b710c181d16d54048c24"), looks := false }, kinds := [], alts := [], laidByText := true, laidKinds := [.data, .data, .data], laidTests := true, laidLooks := .later }
def RelayWhereUptoCardSaid : Prop := Claim7.holds Tryd.pinned (.plain (OpenSpec.upto relayWhereSpec)) relayWhereUptoCard

/-- THE SECOND FORM's CARD OF 'tumblerlaw24.RelayRuns'. -/
def relayRunsUptoCard : Claim7 := { stood := { row := relayRunsUptoRow, standIns := [], harness := (true, "844507a27aa7d2d1fc230c0bd20db471c457e5b56676b710c181d16d54048c24"), looks := false }, kinds := [], alts := [], laidByText := true, laidKinds := [.data, .data, .data], laidTests := true, laidLooks := .later }
def RelayRunsUptoCardSaid : Prop := Claim7.holds Tryd.pinned (.plain (OpenSpec.upto relayRunsSpec)) relayRunsUptoCard

/-- THE SECOND FORM's CARD OF 'tumblerlaw24.RelayKeeps'. -/
def relayKeepsUptoCard : Claim7 := { stood := { row := relayKeepsUptoRow, standIns := [], harness := (true, "844507a27aa7d2d1fc230c0bd20db471c457e5b56676b710c181d16d54048c24"), looks := false }, kinds := [], alts := [], laidByText := true, laidKinds := [.data, .data, .data], laidTests := true, laidLooks := .later }
def RelayKeepsUptoCardSaid : Prop := Claim7.holds Tryd.pinned (.plain (OpenSpec.upto relayKeepsSpec)) relayKeepsUptoCard

/-- THE SECOND FORM's CARD OF 'tumblerlaw24.RelayNobody'. -/
def relayNobodyUptoCard : Claim7 := { stood := { row := relayNobodyUptoRow, standIns := [], harness := (true, "844507a27aa7d2d1fc230c0bd20db471c457e5b56676b710c181d16d54048c24"), looks := false }, kinds := [], alts := [], laidByText := true, laidKinds := [.data, .data, .data], laidTests := true, laidLooks := .later }
def RelayNobodyUptoCardSaid : Prop := Claim7.holds Tryd.pinned (.plain (OpenSpec.upto relayNobodySpec)) relayNobodyUptoCard
end Rows
end Go.Proofs.YtcifajfmdpjfiaaDoor
