/-
  DERIVED. GIVEN WITH THE SEED: THE CARDS: each row of YtokhibghnpcogaaGreatDoorRows.lean that lists a variable, with what it lists TIED to the program's text (the seventh form; the later family's looks); each row that meets fmt, with fmt's text TOLD by the authors' own Lean function (tested against real Go, not proved from fmt's source: count such statements apart). THE CARD IS WHAT COUNTS. Prove the row's statement (the work); the ties are given (YtokhibghnpcogaaGreatDoorTie.lean); close each card by the builder's one call (the guide's Derived/Test/ToyasCard.lean, 'card_holds'). Laid BY PROGRAM, IN A SANDBOX (cutbox-door.mjs). By AI agents, Wed Nov 11 2026. No macro, syntax, notation, axiom, sorry.
-/
import Derived.Test.YtokhibghnpcogaaGreatDoorRows
import GoSem.ClaimSeven
namespace Go.Proofs.YtokhibghnpcogaaGreatDoor
namespace Rows

/-- THE TIED CARD OF 'incipitlaw08.ScanTags'. -/
def scanTagsCard : Claim7 := { stood := { row := scanTagsRow, standIns := [], harness := (true, "f1ca3cbe77252c706213662e98e6ad0514b391866b80b7e63647a6139f07c27b"), looks := true }, kinds := [], alts := [], laidByText := true, laidKinds := [.data, .data, .data, .data, .sentinel, .sentinel, .pinned], laidTests := true, laidLooks := .later }
def ScanTagsCardSaid : Prop := Claim7.holds Tryz.pinned (.plain (OpenSpec.ofChange scanTagsSpec)) scanTagsCard

/-- THE TIED CARD OF 'incipitlaw08.ScanLines'. -/
def scanLinesCard : Claim7 := { stood := { row := scanLinesRow, standIns := [], harness := (true, "f1ca3cbe77252c706213662e98e6ad0514b391866b80b7e63647a6139f07c27b"), looks := true }, kinds := [], alts := [], laidByText := true, laidKinds := [.data, .data, .data, .data, .sentinel, .sentinel, .pinned], laidTests := true, laidLooks := .later }
def ScanLinesCardSaid : Prop := Claim7.holds Tryz.pinned (.plain (OpenSpec.ofChange scanLinesSpec)) scanLinesCard

/-- THE TIED CARD OF 'incipitlaw08.ScanHtml'. -/
def scanHtmlCard : Claim7 := { stood := { row := scanHtmlRow, standIns := [], harness := (true, "f1ca3cbe77252c706213662e98e6ad0514b391866b80b7e63647a6139f07c27b"), looks := true }, kinds := [], alts := [], laidByText := true, laidKinds := [.data, .data, .data, .data, .sentinel, .sentinel, .pinned], laidTests := true, laidLooks := .later }
def ScanHtmlCardSaid : Prop := Claim7.holds Tryz.pinned (.plain (OpenSpec.ofChange scanHtmlSpec)) scanHtmlCard

/-- THE SECOND FORM's CARD OF 'incipitlaw08.ScanTags'. -/
def scanTagsUptoCard : Claim7 := { stood := { row := scanTagsUptoRow, standIns := [], harness := (true, "f1ca3cbe77252c706213662e98e6ad0514b391866b80b7e63647a6139f07c27b"), looks := true }, kinds := [], alts := [], laidByText := true, laidKinds := [.data, .data, .data, .data, .sentinel, .sentinel, .pinned], laidTests := true, laidLooks := .later }
def ScanTagsUptoCardSaid : Prop := Claim7.holds Tryz.pinned (.plain (OpenSpec.upto scanTagsSpec)) scanTagsUptoCard

/-- THE SECOND FORM's CARD OF 'incipitlaw08.ScanLines'. -/
def scanLinesUptoCard : Claim7 := { stood := { row := scanLinesUptoRow, standIns := [], harness := (true, "f1ca3cbe77252c706213662e98e6ad0514b391866b80b7e63647a6139f07c27b"), looks := true }, kinds := [], alts := [], laidByText := true, laidKinds := [.data, .data, .data, .data, .sentinel, .sentinel, .pinned], laidTests := true, laidLooks := .later }
def ScanLinesUptoCardSaid : Prop := Claim7.holds Tryz.pinned (.plain (OpenSpec.upto scanLinesSpec)) scanLinesUptoCard

/-- THE SECOND FORM's CARD OF 'incipitlaw08.ScanHtml'. -/
def scanHtmlUptoCard : Claim7 := { stood := { row := scanHtmlUptoRow, standIns := [], harness := (true, "f1ca3cbe77252c706213662e98e6ad0514b391866b80b7e63647a6139f07c27b"), looks := true }, kinds := [], alts := [], laidByText := true, laidKinds := [.data, .data, .data, .data, .sentinel, .sentinel, .pinned], laidTests := true, laidLooks := .later }
def ScanHtmlUptoCardSaid : Prop := Claim7.holds Tryz.pinned (.plain (OpenSpec.upto scanHtmlSpec)) scanHtmlUptoCard
end Rows
end Go.Proofs.YtokhibghnpcogaaGreatDoor
