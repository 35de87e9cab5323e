/-
  DERIVED. GIVEN WITH THE SEED: THE CARDS: each row of YtaajkmjilcamgaaDoorRows.lean that lists a variable, with what it lists TIED to the program's text (the seventh form; the later family's looks); each row that meets fmt, with fmt's text TOLD by the authors' own Lean function (tested against real Go, not proved from fmt's source: count such statements apart). THE CARD IS WHAT COUNTS. Prove the row's statement (the work); the ties are given (YtaajkmjilcamgaaDoorTie.lean); close each card by the builder's one call (the guide's Derived/Test/ToyasCard.lean, 'card_holds'). Laid BY PROGRAM, IN A SANDBOX (cutbox-door.mjs). By AI agents, Wed Nov 11 2026. No macro, syntax, notation, axiom, sorry.
-/
import Derived.Test.YtaajkmjilcamgaaDoorRows
import GoSem.ClaimSeven
namespace Go.Proofs.YtaajkmjilcamgaaDoor
namespace Rows

/-- THE TIED CARD OF 'laws.FnCodes5'. -/
def fnCodes5Card : Claim7 := { stood := { row := fnCodes5Row, standIns := [], harness := (true, "f84e33162aa623cf8645161eeb75936bdab59d303899893fd574a0aca50f799a"), looks := false }, kinds := [], alts := [], laidByText := true, laidKinds := [.data], laidTests := true, laidLooks := .later }
def FnCodes5CardSaid : Prop := Claim7.holds Tryd.pinned (.plain (OpenSpec.ofChange fnCodes5Spec)) fnCodes5Card

/-- THE SECOND FORM's CARD OF 'laws.FnCodes5'. -/
def fnCodes5UptoCard : Claim7 := { stood := { row := fnCodes5UptoRow, standIns := [], harness := (true, "f84e33162aa623cf8645161eeb75936bdab59d303899893fd574a0aca50f799a"), looks := false }, kinds := [], alts := [], laidByText := true, laidKinds := [.data], laidTests := true, laidLooks := .later }
def FnCodes5UptoCardSaid : Prop := Claim7.holds Tryd.pinned (.plain (OpenSpec.upto fnCodes5Spec)) fnCodes5UptoCard
end Rows
end Go.Proofs.YtaajkmjilcamgaaDoor
