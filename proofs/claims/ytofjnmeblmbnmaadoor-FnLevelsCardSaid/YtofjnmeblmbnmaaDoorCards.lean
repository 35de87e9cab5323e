/-
  DERIVED. GIVEN WITH THE SEED: THE CARDS: each row of YtofjnmeblmbnmaaDoorRows.lean that lists a variable, with what it lists TIED to the program's text (the seventh form; the later family's looks); each row that meets fmt, with fmt's text TOLD by the authors' own Lean function (tested against real Go, not proved from fmt's source: count such statements apart). THE CARD IS WHAT COUNTS. Prove the row's statement (the work); the ties are given (YtofjnmeblmbnmaaDoorTie.lean); close each card by the builder's one call (the guide's Derived/Test/ToyasCard.lean, 'card_holds'). Laid BY PROGRAM, IN A SANDBOX (cutbox-door.mjs). By AI agents, Wed Nov 11 2026. No macro, syntax, notation, axiom, sorry.
-/
import Derived.Test.YtofjnmeblmbnmaaDoorRows
import GoSem.ClaimSeven
namespace Go.Proofs.YtofjnmeblmbnmaaDoor
namespace Rows

/-- THE TIED CARD OF 'laws.FnCodes5'. -/
def fnCodes5Card : Claim7 := { stood := { row := fnCodes5Row, standIns := [], harness := (true, "9d65639693bca9098747937c9240417d35a636c8abb8e5f0eada227416d0ab3f"), looks := false }, kinds := [], alts := [], laidByText := true, laidKinds := [.data], laidTests := true, laidLooks := .later }
def FnCodes5CardSaid : Prop := Claim7.holds Tryd.pinned (.plain (OpenSpec.ofChange fnCodes5Spec)) fnCodes5Card

/-- THE TIED CARD OF 'laws.FnExactChangeText'. -/
def fnExactChangeTextCard : Claim7 := { stood := { row := fnExactChangeTextRow, standIns := [], harness := (true, "9d65639693bca9098747937c9240417d35a636c8abb8e5f0eada227416d0ab3f"), looks := false }, kinds := [], alts := [], laidByText := true, laidKinds := [.data, .data, .data], laidTests := true, laidLooks := .later }
def FnExactChangeTextCardSaid : Prop := Claim7.holds Tryd.pinned (.plain (OpenSpec.ofChange fnExactChangeTextSpec)) fnExactChangeTextCard

/-- THE TIED CARD OF 'laws.FnLevels'. -/
def fnLevelsCard : Claim7 := { stood := { row := fnLevelsRow, standIns := [], harness := (true, "9d65639693bca9098747937c9240417d35a636c8abb8e5f0eada227416d0ab3f"), looks := false }, kinds := [], alts := [], laidByText := true, laidKinds := [.data, .data, .data], laidTests := true, laidLooks := .later }
def FnLevelsCardSaid : Prop := Claim7.holds Tryd.pinned (.plain (OpenSpec.ofChange fnLevelsSpec)) fnLevelsCard

/-- THE SECOND FORM's CARD OF 'laws.FnCodes5'. -/
def fnCodes5UptoCard : Claim7 := { stood := { row := fnCodes5UptoRow, standIns := [], harness := (true, "9d65639693bca9098747937c9240417d35a636c8abb8e5f0eada227416d0ab3f"), looks := false }, kinds := [], alts := [], laidByText := true, laidKinds := [.data], laidTests := true, laidLooks := .later }
def FnCodes5UptoCardSaid : Prop := Claim7.holds Tryd.pinned (.plain (OpenSpec.upto fnCodes5Spec)) fnCodes5UptoCard

/-- THE SECOND FORM's CARD OF 'laws.FnExactChangeText'. -/
def fnExactChangeTextUptoCard : Claim7 := { stood := { row := fnExactChangeTextUptoRow, standIns := [], harness := (true, "9d65639693bca9098747937c9240417d35a636c8abb8e5f0eada227416d0ab3f"), looks := false }, kinds := [], alts := [], laidByText := true, laidKinds := [.data, .data, .data], laidTests := true, laidLooks := .later }
def FnExactChangeTextUptoCardSaid : Prop := Claim7.holds Tryd.pinned (.plain (OpenSpec.upto fnExactChangeTextSpec)) fnExactChangeTextUptoCard

/-- THE SECOND FORM's CARD OF 'laws.FnLevels'. -/
def fnLevelsUptoCard : Claim7 := { stood := { row := fnLevelsUptoRow, standIns := [], harness := (true, "9d65639693bca9098747937c9240417d35a636c8abb8e5f0eada227416d0ab3f"), looks := false }, kinds := [], alts := [], laidByText := true, laidKinds := [.data, .data, .data], laidTests := true, laidLooks := .later }
def FnLevelsUptoCardSaid : Prop := Claim7.holds Tryd.pinned (.plain (OpenSpec.upto fnLevelsSpec)) fnLevelsUptoCard
end Rows
end Go.Proofs.YtofjnmeblmbnmaaDoor
