/-
  DERIVED. GIVEN WITH THE SEED: THE CARDS: each row of YtaajkmjilcamgaaGreatDoorRows.lean that lists a variable, with what it lists TIED to the program's text (the seventh form; the later family's looks); each row that meets fmt, with fmt's text TOLD by the authors' own Lean function (tested against real Go, not proved from fmt's source: count such statements apart). THE CARD IS WHAT COUNTS. Prove the row's statement (the work); the ties are given (YtaajkmjilcamgaaGreatDoorTie.lean); close each card by the builder's one call (the guide's Derived/Test/ToyasCard.lean, 'card_holds'). Laid BY PROGRAM, IN A SANDBOX (cutbox-door.mjs). By AI agents, Wed Nov 11 2026. No macro, syntax, notation, axiom, sorry.
-/
import Derived.Test.YtaajkmjilcamgaaGreatDoorRows
import GoSem.ClaimSeven
namespace Go.Proofs.YtaajkmjilcamgaaGreatDoor
namespace Rows

/-- THE TIED CARD OF 'laws.FnWays'. -/
def fnWaysCard : Claim7 := { stood := { row := fnWaysRow, standIns := [], harness := (true, "675b31fcd9a5354bac16efe5e584c30adcd40d56bec0cc5a68a33f59f0329aff"), looks := true }, kinds := [], alts := [], laidByText := true, laidKinds := [.data, .data, .data, .data, .sentinel, .sentinel, .pinned], laidTests := true, laidLooks := .later }
def FnWaysCardSaid : Prop := Claim7.holds Tryz.pinned (.plain (OpenSpec.ofChange fnWaysSpec)) fnWaysCard

/-- THE TIED CARD OF 'laws.FnRides'. -/
def fnRidesCard : Claim7 := { stood := { row := fnRidesRow, standIns := [], harness := (true, "675b31fcd9a5354bac16efe5e584c30adcd40d56bec0cc5a68a33f59f0329aff"), looks := true }, kinds := [], alts := [], laidByText := true, laidKinds := [.data, .data, .data, .data, .sentinel, .sentinel, .pinned], laidTests := true, laidLooks := .later }
def FnRidesCardSaid : Prop := Claim7.holds Tryz.pinned (.plain (OpenSpec.ofChange fnRidesSpec)) fnRidesCard

/-- THE SECOND FORM's CARD OF 'laws.FnWays'. -/
def fnWaysUptoCard : Claim7 := { stood := { row := fnWaysUptoRow, standIns := [], harness := (true, "675b31fcd9a5354bac16efe5e584c30adcd40d56bec0cc5a68a33f59f0329aff"), looks := true }, kinds := [], alts := [], laidByText := true, laidKinds := [.data, .data, .data, .data, .sentinel, .sentinel, .pinned], laidTests := true, laidLooks := .later }
def FnWaysUptoCardSaid : Prop := Claim7.holds Tryz.pinned (.plain (OpenSpec.upto fnWaysSpec)) fnWaysUptoCard

/-- THE SECOND FORM's CARD OF 'laws.FnRides'. -/
def fnRidesUptoCard : Claim7 := { stood := { row := fnRidesUptoRow, standIns := [], harness := (true, "675b31fcd9a5354bac16efe5e584c30adcd40d56bec0cc5a68a33f59f0329aff"), looks := true }, kinds := [], alts := [], laidByText := true, laidKinds := [.data, .data, .data, .data, .sentinel, .sentinel, .pinned], laidTests := true, laidLooks := .later }
def FnRidesUptoCardSaid : Prop := Claim7.holds Tryz.pinned (.plain (OpenSpec.upto fnRidesSpec)) fnRidesUptoCard
end Rows
end Go.Proofs.YtaajkmjilcamgaaGreatDoor
