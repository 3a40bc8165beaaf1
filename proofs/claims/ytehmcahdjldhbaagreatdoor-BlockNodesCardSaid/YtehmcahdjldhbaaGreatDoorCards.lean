/-
  DERIVED. GIVEN WITH THE SEED: THE CARDS: each row of YtehmcahdjldhbaaGreatDoorRows.lean that lists a variable, with what it lists TIED to the program's text (the seventh form; the later family's looks); each row that meets fmt, with fmt's text TOLD by the authors' own Lean function (tested against real Go, not proved from fmt's source: count such statements apart). THE CARD IS WHAT COUNTS. Prove the row's statement (the work); the ties are given (YtehmcahdjldhbaaGreatDoorTie.lean); close each card by the builder's one call (the guide's Derived/Test/ToyasCard.lean, 'card_holds'). Laid BY PROGRAM, IN A SANDBOX (cutbox-door.mjs). By AI agents, Wed Nov 11 2026. No macro, syntax, notation, axiom, sorry.
-/
import Derived.Test.YtehmcahdjldhbaaGreatDoorRows
import GoSem.ClaimSeven
namespace Go.Proofs.YtehmcahdjldhbaaGreatDoor
namespace Rows

/-- THE TIED CARD OF 'incipitlaw11.BlockInside'. -/
def blockInsideCard : Claim7 := { stood := { row := blockInsideRow, standIns := [], harness := (true, "e02b6edfaf4538d93b605f03571d201bfb3ee1f9b910043c7024496ad06f53f0"), looks := true }, kinds := [], alts := [], laidByText := true, laidKinds := [.data, .data, .data, .data, .sentinel, .sentinel, .pinned], laidTests := true, laidLooks := .later }
def BlockInsideCardSaid : Prop := Claim7.holds Tryz.pinned (.plain (OpenSpec.ofChange blockInsideSpec)) blockInsideCard

/-- THE TIED CARD OF 'incipitlaw11.BlockQuotes'. -/
def blockQuotesCard : Claim7 := { stood := { row := blockQuotesRow, standIns := [], harness := (true, "e02b6edfaf4538d93b605f03571d201bfb3ee1f9b910043c7024496ad06f53f0"), looks := true }, kinds := [], alts := [], laidByText := true, laidKinds := [.data, .data, .data, .data, .sentinel, .sentinel, .pinned], laidTests := true, laidLooks := .later }
def BlockQuotesCardSaid : Prop := Claim7.holds Tryz.pinned (.plain (OpenSpec.ofChange blockQuotesSpec)) blockQuotesCard

/-- THE TIED CARD OF 'incipitlaw11.BlockItems'. -/
def blockItemsCard : Claim7 := { stood := { row := blockItemsRow, standIns := [], harness := (true, "e02b6edfaf4538d93b605f03571d201bfb3ee1f9b910043c7024496ad06f53f0"), looks := true }, kinds := [], alts := [], laidByText := true, laidKinds := [.data, .data, .data, .data, .sentinel, .sentinel, .pinned], laidTests := true, laidLooks := .later }
def BlockItemsCardSaid : Prop := Claim7.holds Tryz.pinned (.plain (OpenSpec.ofChange blockItemsSpec)) blockItemsCard

/-- THE TIED CARD OF 'incipitlaw11.BlockPlain'. -/
def blockPlainCard : Claim7 := { stood := { row := blockPlainRow, standIns := [], harness := (true, "e02b6edfaf4538d93b605f03571d201bfb3ee1f9b910043c7024496ad06f53f0"), looks := true }, kinds := [], alts := [], laidByText := true, laidKinds := [.data, .data, .data, .data, .sentinel, .sentinel, .pinned], laidTests := true, laidLooks := .later }
def BlockPlainCardSaid : Prop := Claim7.holds Tryz.pinned (.plain (OpenSpec.ofChange blockPlainSpec)) blockPlainCard

/-- THE TIED CARD OF 'incipitlaw11.BlockRules'. -/
def blockRulesCard : Claim7 := { stood := { row := blockRulesRow, standIns := [], harness := (true, "e02b6edfaf4538d93b605f03571d201bfb3ee1f9b910043c7024496ad06f53f0"), looks := true }, kinds := [], alts := [], laidByText := true, laidKinds := [.data, .data, .data, .data, .sentinel, .sentinel, .pinned], laidTests := true, laidLooks := .later }
def BlockRulesCardSaid : Prop := Claim7.holds Tryz.pinned (.plain (OpenSpec.ofChange blockRulesSpec)) blockRulesCard

/-- THE TIED CARD OF 'incipitlaw11.BlockFences'. -/
def blockFencesCard : Claim7 := { stood := { row := blockFencesRow, standIns := [], harness := (true, "e02b6edfaf4538d93b605f03571d201bfb3ee1f9b910043c7024496ad06f53f0"), looks := true }, kinds := [], alts := [], laidByText := true, laidKinds := [.data, .data, .data, .data, .sentinel, .sentinel, .pinned], laidTests := true, laidLooks := .later }
def BlockFencesCardSaid : Prop := Claim7.holds Tryz.pinned (.plain (OpenSpec.ofChange blockFencesSpec)) blockFencesCard

/-- THE TIED CARD OF 'incipitlaw11.BlockApart'. -/
def blockApartCard : Claim7 := { stood := { row := blockApartRow, standIns := [], harness := (true, "e02b6edfaf4538d93b605f03571d201bfb3ee1f9b910043c7024496ad06f53f0"), looks := true }, kinds := [], alts := [], laidByText := true, laidKinds := [.data, .data, .data, .data, .sentinel, .sentinel, .pinned], laidTests := true, laidLooks := .later }
def BlockApartCardSaid : Prop := Claim7.holds Tryz.pinned (.plain (OpenSpec.ofChange blockApartSpec)) blockApartCard

/-- THE TIED CARD OF 'incipitlaw11.BlockNodes'. -/
def blockNodesCard : Claim7 := { stood := { row := blockNodesRow, standIns := [], harness := (true, "e02b6edfaf4538d93b605f03571d201bfb3ee1f9b910043c7024496ad06f53f0"), looks := true }, kinds := [], alts := [], laidByText := true, laidKinds := [.data, .data, .data, .data, .sentinel, .sentinel, .pinned], laidTests := true, laidLooks := .later }
def BlockNodesCardSaid : Prop := Claim7.holds Tryz.pinned (.plain (OpenSpec.ofChange blockNodesSpec)) blockNodesCard

/-- THE SECOND FORM's CARD OF 'incipitlaw11.BlockInside'. -/
def blockInsideUptoCard : Claim7 := { stood := { row := blockInsideUptoRow, standIns := [], harness := (true, "e02b6edfaf4538d93b605f03571d201bfb3ee1f9b910043c7024496ad06f53f0"), looks := true }, kinds := [], alts := [], laidByText := true, laidKinds := [.data, .data, .data, .data, .sentinel, .sentinel, .pinned], laidTests := true, laidLooks := .later }
def BlockInsideUptoCardSaid : Prop := Claim7.holds Tryz.pinned (.plain (OpenSpec.upto blockInsideSpec)) blockInsideUptoCard

/-- THE SECOND FORM's CARD OF 'incipitlaw11.BlockQuotes'. -/
def blockQuotesUptoCard : Claim7 := { stood := { row := blockQuotesUptoRow, standIns := [], harness := (true, "e02b6edfaf4538d93b605f03571d201bfb3ee1f9b910043c7024496ad06f53f0"), looks := true }, kinds := [], alts := [], laidByText := true, laidKinds := [.data, .data, .data, .data, .sentinel, .sentinel, .pinned], laidTests := true, laidLooks := .later }
def BlockQuotesUptoCardSaid : Prop := Claim7.holds Tryz.pinned (.plain (OpenSpec.upto blockQuotesSpec)) blockQuotesUptoCard

/-- THE SECOND FORM's CARD OF 'incipitlaw11.BlockItems'. -/
def blockItemsUptoCard : Claim7 := { stood := { row := blockItemsUptoRow, standIns := [], harness := (true, "e02b6edfaf4538d93b605f03571d201bfb3ee1f9b910043c7024496ad06f53f0"), looks := true }, kinds := [], alts := [], laidByText := true, laidKinds := [.data, .data, .data, .data, .sentinel, .sentinel, .pinned], laidTests := true, laidLooks := .later }
def BlockItemsUptoCardSaid : Prop := Claim7.holds Tryz.pinned (.plain (OpenSpec.upto blockItemsSpec)) blockItemsUptoCard

/-- THE SECOND FORM's CARD OF 'incipitlaw11.BlockPlain'. -/
def blockPlainUptoCard : Claim7 := { stood := { row := blockPlainUptoRow, standIns := [], harness := (true, "e02b6edfaf4538d93b605f03571d201bfb3ee1f9b910043c7024496ad06f53f0"), looks := true }, kinds := [], alts := [], laidByText := true, laidKinds := [.data, .data, .data, .data, .sentinel, .sentinel, .pinned], laidTests := true, laidLooks := .later }
def BlockPlainUptoCardSaid : Prop := Claim7.holds Tryz.pinned (.plain (OpenSpec.upto blockPlainSpec)) blockPlainUptoCard

/-- THE SECOND FORM's CARD OF 'incipitlaw11.BlockRules'. -/
def blockRulesUptoCard : Claim7 := { stood := { row := blockRulesUptoRow, standIns := [], harness := (true, "e02b6edfaf4538d93b605f03571d201bfb3ee1f9b910043c7024496ad06f53f0"), looks := true }, kinds := [], alts := [], laidByText := true, laidKinds := [.data, .data, .data, .data, .sentinel, .sentinel, .pinned], laidTests := true, laidLooks := .later }
def BlockRulesUptoCardSaid : Prop := Claim7.holds Tryz.pinned (.plain (OpenSpec.upto blockRulesSpec)) blockRulesUptoCard

/-- THE SECOND FORM's CARD OF 'incipitlaw11.BlockFences'. -/
def blockFencesUptoCard : Claim7 := { stood := { row := blockFencesUptoRow, standIns := [], harness := (true, "e02b6edfaf4538d93b605f03571d201bfb3ee1f9b910043c7024496ad06f53f0"), looks := true }, kinds := [], alts := [], laidByText := true, laidKinds := [.data, .data, .data, .data, .sentinel, .sentinel, .pinned], laidTests := true, laidLooks := .later }
def BlockFencesUptoCardSaid : Prop := Claim7.holds Tryz.pinned (.plain (OpenSpec.upto blockFencesSpec)) blockFencesUptoCard

/-- THE SECOND FORM's CARD OF 'incipitlaw11.BlockApart'. -/
def blockApartUptoCard : Claim7 := { stood := { row := blockApartUptoRow, standIns := [], harness := (true, "e02b6edfaf4538d93b605f03571d201bfb3ee1f9b910043c7024496ad06f53f0"), looks := true }, kinds := [], alts := [], laidByText := true, laidKinds := [.data, .data, .data, .data, .sentinel, .sentinel, .pinned], laidTests := true, laidLooks := .later }
def BlockApartUptoCardSaid : Prop := Claim7.holds Tryz.pinned (.plain (OpenSpec.upto blockApartSpec)) blockApartUptoCard

/-- THE SECOND FORM's CARD OF 'incipitlaw11.BlockNodes'. -/
def blockNodesUptoCard : Claim7 := { stood := { row := blockNodesUptoRow, standIns := [], harness := (true, "e02b6edfaf4538d93b605f03571d201bfb3ee1f9b910043c7024496ad06f53f0"), looks := true }, kinds := [], alts := [], laidByText := true, laidKinds := [.data, .data, .data, .data, .sentinel, .sentinel, .pinned], laidTests := true, laidLooks := .later }
def BlockNodesUptoCardSaid : Prop := Claim7.holds Tryz.pinned (.plain (OpenSpec.upto blockNodesSpec)) blockNodesUptoCard
end Rows
end Go.Proofs.YtehmcahdjldhbaaGreatDoor
