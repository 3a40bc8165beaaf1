/-
  DERIVED. GIVEN WITH THE SEED: THE CARDS: each row of YtokhibghnpcogaaDoorRows.lean that lists a variable, with what it lists TIED to the program's text (the seventh form; the later family's looks); each row that meets fmt, with fmt's text TOLD by the authors' own Lean function (tested against real Go, not proved from fmt's source: count such statements apart). THE CARD IS WHAT COUNTS. Prove the row's statement (the work); the ties are given (YtokhibghnpcogaaDoorTie.lean); close each card by the builder's one call (the guide's Derived/Test/ToyasCard.lean, 'card_holds'). Laid BY PROGRAM, IN A SANDBOX (cutbox-door.mjs). By AI agents, Wed Nov 11 2026. No macro, syntax, notation, axiom, sorry.
-/
import Derived.Test.YtokhibghnpcogaaDoorRows
import GoSem.ClaimSeven
namespace Go.Proofs.YtokhibghnpcogaaDoor
namespace Rows

/-- THE TIED CARD OF 'incipitlaw08.ScanEnds'. -/
def scanEndsCard : Claim7 := { stood := { row := scanEndsRow, standIns := [], harness := (true, "6bb85801695680fbddefc42d030dabee661c9284b52bb4417f4529345cdcc651"), looks := true }, kinds := [], alts := [], laidByText := true, laidKinds := [.data, .data, .data, .data, .sentinel, .sentinel, .pinned], laidTests := true, laidLooks := .later }
def ScanEndsCardSaid : Prop := Claim7.holds Tryd.pinned (.plain (OpenSpec.ofChange scanEndsSpec)) scanEndsCard

/-- THE TIED CARD OF 'incipitlaw08.ScanHeads'. -/
def scanHeadsCard : Claim7 := { stood := { row := scanHeadsRow, standIns := [], harness := (true, "6bb85801695680fbddefc42d030dabee661c9284b52bb4417f4529345cdcc651"), looks := true }, kinds := [], alts := [], laidByText := true, laidKinds := [.data, .data, .data, .data, .sentinel, .sentinel, .pinned], laidTests := true, laidLooks := .later }
def ScanHeadsCardSaid : Prop := Claim7.holds Tryd.pinned (.plain (OpenSpec.ofChange scanHeadsSpec)) scanHeadsCard

/-- THE TIED CARD OF 'incipitlaw08.ScanOne'. -/
def scanOneCard : Claim7 := { stood := { row := scanOneRow, standIns := [], harness := (true, "6bb85801695680fbddefc42d030dabee661c9284b52bb4417f4529345cdcc651"), looks := true }, kinds := [], alts := [], laidByText := true, laidKinds := [.data, .data, .data, .data, .sentinel, .sentinel, .pinned], laidTests := true, laidLooks := .later }
def ScanOneCardSaid : Prop := Claim7.holds Tryd.pinned (.plain (OpenSpec.ofChange scanOneSpec)) scanOneCard

/-- THE TIED CARD OF 'incipitlaw08.ScanIndents'. -/
def scanIndentsCard : Claim7 := { stood := { row := scanIndentsRow, standIns := [], harness := (true, "6bb85801695680fbddefc42d030dabee661c9284b52bb4417f4529345cdcc651"), looks := true }, kinds := [], alts := [], laidByText := true, laidKinds := [.data, .data, .data, .data, .sentinel, .sentinel, .pinned], laidTests := true, laidLooks := .later }
def ScanIndentsCardSaid : Prop := Claim7.holds Tryd.pinned (.plain (OpenSpec.ofChange scanIndentsSpec)) scanIndentsCard

/-- THE SECOND FORM's CARD OF 'incipitlaw08.ScanEnds'. -/
def scanEndsUptoCard : Claim7 := { stood := { row := scanEndsUptoRow, standIns := [], harness := (true, "6bb85801695680fbddefc42d030dabee661c9284b52bb4417f4529345cdcc651"), looks := true }, kinds := [], alts := [], laidByText := true, laidKinds := [.data, .data, .data, .data, .sentinel, .sentinel, .pinned], laidTests := true, laidLooks := .later }
def ScanEndsUptoCardSaid : Prop := Claim7.holds Tryd.pinned (.plain (OpenSpec.upto scanEndsSpec)) scanEndsUptoCard

/-- THE SECOND FORM's CARD OF 'incipitlaw08.ScanHeads'. -/
def scanHeadsUptoCard : Claim7 := { stood := { row := scanHeadsUptoRow, standIns := [], harness := (true, "6bb85801695680fbddefc42d030dabee661c9284b52bb4417f4529345cdcc651"), looks := true }, kinds := [], alts := [], laidByText := true, laidKinds := [.data, .data, .data, .data, .sentinel, .sentinel, .pinned], laidTests := true, laidLooks := .later }
def ScanHeadsUptoCardSaid : Prop := Claim7.holds Tryd.pinned (.plain (OpenSpec.upto scanHeadsSpec)) scanHeadsUptoCard

/-- THE SECOND FORM's CARD OF 'incipitlaw08.ScanOne'. -/
def scanOneUptoCard : Claim7 := { stood := { row := scanOneUptoRow, standIns := [], harness := (true, "6bb85801695680fbddefc42d030dabee661c9284b52bb4417f4529345cdcc651"), looks := true }, kinds := [], alts := [], laidByText := true, laidKinds := [.data, .data, .data, .data, .sentinel, .sentinel, .pinned], laidTests := true, laidLooks := .later }
def ScanOneUptoCardSaid : Prop := Claim7.holds Tryd.pinned (.plain (OpenSpec.upto scanOneSpec)) scanOneUptoCard

/-- THE SECOND FORM's CARD OF 'incipitlaw08.ScanIndents'. -/
def scanIndentsUptoCard : Claim7 := { stood := { row := scanIndentsUptoRow, standIns := [], harness := (true, "6bb85801695680fbddefc42d030dabee661c9284b52bb4417f4529345cdcc651"), looks := true }, kinds := [], alts := [], laidByText := true, laidKinds := [.data, .data, .data, .data, .sentinel, .sentinel, .pinned], laidTests := true, laidLooks := .later }
def ScanIndentsUptoCardSaid : Prop := Claim7.holds Tryd.pinned (.plain (OpenSpec.upto scanIndentsSpec)) scanIndentsUptoCard
end Rows
end Go.Proofs.YtokhibghnpcogaaDoor
