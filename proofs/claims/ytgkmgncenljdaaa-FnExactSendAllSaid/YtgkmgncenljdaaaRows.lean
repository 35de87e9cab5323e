/-
  No cell of these rows narrows 'for every input' (looked for: loops, veiled, ifaces, maps, wideKeys, modest, calm, conditions, laid).
  DERIVED. THE GIVEN ROWS OF THIS SEAT. 12 by the template 'for every input the law returns true; each argument reads behind the call as it read before'; 0 by the template 'total and deterministic' (their statements: YtgkmgncenljdaaaTotals.lean).
  GIVEN WITH THE SEED: the statements are not yours to turn. If you find one false, say at which input.
  Laid BY PROGRAM, IN A SANDBOX (cutbox-rows.mjs): the forced cells as the released guide's own fill.sh prints them over the translation eaf2c6b21c980172… (all of the seat's roots in one cut). By AI agents, Wed Nov 11 2026. No macro, syntax, notation, axiom, sorry.
-/
import Derived.Test.YtgkmgncenljdaaaChecked
import GoSem.Claim
import GoSem.ClaimJoined
import GoSem.ClaimMapViews
import Derived.JoinedTies
import Derived.KernelRfl
namespace Go.Proofs.Ytgkmgncenljdaaa
/- THE CELL 'sum', in the pinned program and in every row, IS THE sha256 OF THE DUMP (.gsa) THAT YtgkmgncenljdaaaProg.lean LOADS. Nothing in Lean hashes anything: it is a label: what it is worth is what the hold of that sum in a sandbox is worth. -/
noncomputable def Try.pinned : Pinned := { name := "ytgkmgncenljdaaa", sum := "eaf2c6b21c980172cfab109eaa94910f5eda6fe6714fdad94d950197ad8603ae", checked := Try.checked }
namespace Rows
def none {H : Type} : Left H := { results := [], args := [] }

/-- 'laws.FnExactValidStock': WHATEVER THE INPUT: true; the input reads as it did. -/
def fnExactValidStockSpec : ChangeSpec := { name := "fnExactValidStock", fn := fun _ => fun
  | [d] => { results := [.lit (.bool true)], args := [d] }
  | _ => none }
def fnExactValidStockRow : OpenClaim := { program := "ytgkmgncenljdaaa", sum := "eaf2c6b21c980172cfab109eaa94910f5eda6fe6714fdad94d950197ad8603ae", func := "loop.example/g01046/laws.FnExactValidStock", spec := "fnExactValidStock", unfollowed := true, recurses := true, apart := false }
def FnExactValidStockSaid : Prop := fnExactValidStockRow.holds Try.pinned (OpenSpec.ofChange fnExactValidStockSpec)

/-- ITS FALSE NEIGHBOUR: 'it returns false'. Refute it at one input. -/
def fnExactValidStockWrong : ChangeSpec := { name := "fnExactValidStock", fn := fun _ => fun
  | [d] => { results := [.lit (.bool false)], args := [d] }
  | _ => none }
def FnExactValidStockWrongFalsely : Prop := fnExactValidStockRow.holds Try.pinned (OpenSpec.ofChange fnExactValidStockWrong)

/-- 'laws.FnExactValidSeals': WHATEVER THE INPUT: true; the input reads as it did. -/
def fnExactValidSealsSpec : ChangeSpec := { name := "fnExactValidSeals", fn := fun _ => fun
  | [d] => { results := [.lit (.bool true)], args := [d] }
  | _ => none }
def fnExactValidSealsRow : OpenClaim := { program := "ytgkmgncenljdaaa", sum := "eaf2c6b21c980172cfab109eaa94910f5eda6fe6714fdad94d950197ad8603ae", func := "loop.example/g01046/laws.FnExactValidSeals", spec := "fnExactValidSeals", unfollowed := true, recurses := true, apart := false }
def FnExactValidSealsSaid : Prop := fnExactValidSealsRow.holds Try.pinned (OpenSpec.ofChange fnExactValidSealsSpec)

/-- ITS FALSE NEIGHBOUR: 'it returns false'. Refute it at one input. -/
def fnExactValidSealsWrong : ChangeSpec := { name := "fnExactValidSeals", fn := fun _ => fun
  | [d] => { results := [.lit (.bool false)], args := [d] }
  | _ => none }
def FnExactValidSealsWrongFalsely : Prop := fnExactValidSealsRow.holds Try.pinned (OpenSpec.ofChange fnExactValidSealsWrong)

/-- 'laws.FnExactSameMoves': WHATEVER THE INPUT: true; the input reads as it did. -/
def fnExactSameMovesSpec : ChangeSpec := { name := "fnExactSameMoves", fn := fun _ => fun
  | [d1, d2] => { results := [.lit (.bool true)], args := [d1, d2] }
  | _ => none }
def fnExactSameMovesRow : OpenClaim := { program := "ytgkmgncenljdaaa", sum := "eaf2c6b21c980172cfab109eaa94910f5eda6fe6714fdad94d950197ad8603ae", func := "loop.example/g01046/laws.FnExactSameMoves", spec := "fnExactSameMoves", apart := false }
def FnExactSameMovesSaid : Prop := fnExactSameMovesRow.holds Try.pinned (OpenSpec.ofChange fnExactSameMovesSpec)

/-- ITS FALSE NEIGHBOUR: 'it returns false'. Refute it at one input. -/
def fnExactSameMovesWrong : ChangeSpec := { name := "fnExactSameMoves", fn := fun _ => fun
  | [d1, d2] => { results := [.lit (.bool false)], args := [d1, d2] }
  | _ => none }
def FnExactSameMovesWrongFalsely : Prop := fnExactSameMovesRow.holds Try.pinned (OpenSpec.ofChange fnExactSameMovesWrong)

/-- 'laws.FnExactRunsLeft': WHATEVER THE INPUT: true; the input reads as it did. -/
def fnExactRunsLeftSpec : ChangeSpec := { name := "fnExactRunsLeft", fn := fun _ => fun
  | [d] => { results := [.lit (.bool true)], args := [d] }
  | _ => none }
def fnExactRunsLeftRow : OpenClaim := { program := "ytgkmgncenljdaaa", sum := "eaf2c6b21c980172cfab109eaa94910f5eda6fe6714fdad94d950197ad8603ae", func := "loop.example/g01046/laws.FnExactRunsLeft", spec := "fnExactRunsLeft", unfollowed := true, recurses := true, apart := false }
def FnExactRunsLeftSaid : Prop := fnExactRunsLeftRow.holds Try.pinned (OpenSpec.ofChange fnExactRunsLeftSpec)

/-- ITS FALSE NEIGHBOUR: 'it returns false'. Refute it at one input. -/
def fnExactRunsLeftWrong : ChangeSpec := { name := "fnExactRunsLeft", fn := fun _ => fun
  | [d] => { results := [.lit (.bool false)], args := [d] }
  | _ => none }
def FnExactRunsLeftWrongFalsely : Prop := fnExactRunsLeftRow.holds Try.pinned (OpenSpec.ofChange fnExactRunsLeftWrong)

/-- 'laws.FnExactNextCarrier': WHATEVER THE INPUT: true; the input reads as it did. -/
def fnExactNextCarrierSpec : ChangeSpec := { name := "fnExactNextCarrier", fn := fun _ => fun
  | [d] => { results := [.lit (.bool true)], args := [d] }
  | _ => none }
def fnExactNextCarrierRow : OpenClaim := { program := "ytgkmgncenljdaaa", sum := "eaf2c6b21c980172cfab109eaa94910f5eda6fe6714fdad94d950197ad8603ae", func := "loop.example/g01046/laws.FnExactNextCarrier", spec := "fnExactNextCarrier", unfollowed := true, recurses := true, apart := false }
def FnExactNextCarrierSaid : Prop := fnExactNextCarrierRow.holds Try.pinned (OpenSpec.ofChange fnExactNextCarrierSpec)

/-- ITS FALSE NEIGHBOUR: 'it returns false'. Refute it at one input. -/
def fnExactNextCarrierWrong : ChangeSpec := { name := "fnExactNextCarrier", fn := fun _ => fun
  | [d] => { results := [.lit (.bool false)], args := [d] }
  | _ => none }
def FnExactNextCarrierWrongFalsely : Prop := fnExactNextCarrierRow.holds Try.pinned (OpenSpec.ofChange fnExactNextCarrierWrong)

/-- 'laws.FnExactRunCarrier': WHATEVER THE INPUT: true; the input reads as it did. -/
def fnExactRunCarrierSpec : ChangeSpec := { name := "fnExactRunCarrier", fn := fun _ => fun
  | [d1, d2] => { results := [.lit (.bool true)], args := [d1, d2] }
  | _ => none }
def fnExactRunCarrierRow : OpenClaim := { program := "ytgkmgncenljdaaa", sum := "eaf2c6b21c980172cfab109eaa94910f5eda6fe6714fdad94d950197ad8603ae", func := "loop.example/g01046/laws.FnExactRunCarrier", spec := "fnExactRunCarrier", unfollowed := true, recurses := true, apart := false }
def FnExactRunCarrierSaid : Prop := fnExactRunCarrierRow.holds Try.pinned (OpenSpec.ofChange fnExactRunCarrierSpec)

/-- ITS FALSE NEIGHBOUR: 'it returns false'. Refute it at one input. -/
def fnExactRunCarrierWrong : ChangeSpec := { name := "fnExactRunCarrier", fn := fun _ => fun
  | [d1, d2] => { results := [.lit (.bool false)], args := [d1, d2] }
  | _ => none }
def FnExactRunCarrierWrongFalsely : Prop := fnExactRunCarrierRow.holds Try.pinned (OpenSpec.ofChange fnExactRunCarrierWrong)

/-- 'laws.FnExactWornSeals': WHATEVER THE INPUT: true; the input reads as it did. -/
def fnExactWornSealsSpec : ChangeSpec := { name := "fnExactWornSeals", fn := fun _ => fun
  | [d] => { results := [.lit (.bool true)], args := [d] }
  | _ => none }
def fnExactWornSealsRow : OpenClaim := { program := "ytgkmgncenljdaaa", sum := "eaf2c6b21c980172cfab109eaa94910f5eda6fe6714fdad94d950197ad8603ae", func := "loop.example/g01046/laws.FnExactWornSeals", spec := "fnExactWornSeals", unfollowed := true, recurses := true, apart := false }
def FnExactWornSealsSaid : Prop := fnExactWornSealsRow.holds Try.pinned (OpenSpec.ofChange fnExactWornSealsSpec)

/-- ITS FALSE NEIGHBOUR: 'it returns false'. Refute it at one input. -/
def fnExactWornSealsWrong : ChangeSpec := { name := "fnExactWornSeals", fn := fun _ => fun
  | [d] => { results := [.lit (.bool false)], args := [d] }
  | _ => none }
def FnExactWornSealsWrongFalsely : Prop := fnExactWornSealsRow.holds Try.pinned (OpenSpec.ofChange fnExactWornSealsWrong)

/-- 'laws.FnExactShortStations': WHATEVER THE INPUT: true; the input reads as it did. -/
def fnExactShortStationsSpec : ChangeSpec := { name := "fnExactShortStations", fn := fun _ => fun
  | [d1, d2] => { results := [.lit (.bool true)], args := [d1, d2] }
  | _ => none }
def fnExactShortStationsRow : OpenClaim := { program := "ytgkmgncenljdaaa", sum := "eaf2c6b21c980172cfab109eaa94910f5eda6fe6714fdad94d950197ad8603ae", func := "loop.example/g01046/laws.FnExactShortStations", spec := "fnExactShortStations", unfollowed := true, recurses := true, apart := false }
def FnExactShortStationsSaid : Prop := fnExactShortStationsRow.holds Try.pinned (OpenSpec.ofChange fnExactShortStationsSpec)

/-- ITS FALSE NEIGHBOUR: 'it returns false'. Refute it at one input. -/
def fnExactShortStationsWrong : ChangeSpec := { name := "fnExactShortStations", fn := fun _ => fun
  | [d1, d2] => { results := [.lit (.bool false)], args := [d1, d2] }
  | _ => none }
def FnExactShortStationsWrongFalsely : Prop := fnExactShortStationsRow.holds Try.pinned (OpenSpec.ofChange fnExactShortStationsWrong)

/-- 'laws.FnExactSendCarriers': WHATEVER THE INPUT: true; the input reads as it did. -/
def fnExactSendCarriersSpec : ChangeSpec := { name := "fnExactSendCarriers", fn := fun _ => fun
  | [d1, d2] => { results := [.lit (.bool true)], args := [d1, d2] }
  | _ => none }
def fnExactSendCarriersRow : OpenClaim := { program := "ytgkmgncenljdaaa", sum := "eaf2c6b21c980172cfab109eaa94910f5eda6fe6714fdad94d950197ad8603ae", func := "loop.example/g01046/laws.FnExactSendCarriers", spec := "fnExactSendCarriers", unfollowed := true, recurses := true, apart := false }
def FnExactSendCarriersSaid : Prop := fnExactSendCarriersRow.holds Try.pinned (OpenSpec.ofChange fnExactSendCarriersSpec)

/-- ITS FALSE NEIGHBOUR: 'it returns false'. Refute it at one input. -/
def fnExactSendCarriersWrong : ChangeSpec := { name := "fnExactSendCarriers", fn := fun _ => fun
  | [d1, d2] => { results := [.lit (.bool false)], args := [d1, d2] }
  | _ => none }
def FnExactSendCarriersWrongFalsely : Prop := fnExactSendCarriersRow.holds Try.pinned (OpenSpec.ofChange fnExactSendCarriersWrong)

/-- 'laws.FnExactCostOfMoves': WHATEVER THE INPUT: true; the input reads as it did. -/
def fnExactCostOfMovesSpec : ChangeSpec := { name := "fnExactCostOfMoves", fn := fun _ => fun
  | [d1, d2] => { results := [.lit (.bool true)], args := [d1, d2] }
  | _ => none }
def fnExactCostOfMovesRow : OpenClaim := { program := "ytgkmgncenljdaaa", sum := "eaf2c6b21c980172cfab109eaa94910f5eda6fe6714fdad94d950197ad8603ae", func := "loop.example/g01046/laws.FnExactCostOfMoves", spec := "fnExactCostOfMoves", unfollowed := true, recurses := true, apart := false }
def FnExactCostOfMovesSaid : Prop := fnExactCostOfMovesRow.holds Try.pinned (OpenSpec.ofChange fnExactCostOfMovesSpec)

/-- ITS FALSE NEIGHBOUR: 'it returns false'. Refute it at one input. -/
def fnExactCostOfMovesWrong : ChangeSpec := { name := "fnExactCostOfMoves", fn := fun _ => fun
  | [d1, d2] => { results := [.lit (.bool false)], args := [d1, d2] }
  | _ => none }
def FnExactCostOfMovesWrongFalsely : Prop := fnExactCostOfMovesRow.holds Try.pinned (OpenSpec.ofChange fnExactCostOfMovesWrong)

/-- 'laws.FnExactSendAll': WHATEVER THE INPUT: true; the input reads as it did. -/
def fnExactSendAllSpec : ChangeSpec := { name := "fnExactSendAll", fn := fun _ => fun
  | [d1, d2] => { results := [.lit (.bool true)], args := [d1, d2] }
  | _ => none }
def fnExactSendAllRow : OpenClaim := { program := "ytgkmgncenljdaaa", sum := "eaf2c6b21c980172cfab109eaa94910f5eda6fe6714fdad94d950197ad8603ae", func := "loop.example/g01046/laws.FnExactSendAll", spec := "fnExactSendAll", unfollowed := true, recurses := true, apart := false }
def FnExactSendAllSaid : Prop := fnExactSendAllRow.holds Try.pinned (OpenSpec.ofChange fnExactSendAllSpec)

/-- ITS FALSE NEIGHBOUR: 'it returns false'. Refute it at one input. -/
def fnExactSendAllWrong : ChangeSpec := { name := "fnExactSendAll", fn := fun _ => fun
  | [d1, d2] => { results := [.lit (.bool false)], args := [d1, d2] }
  | _ => none }
def FnExactSendAllWrongFalsely : Prop := fnExactSendAllRow.holds Try.pinned (OpenSpec.ofChange fnExactSendAllWrong)

/-- 'laws.FnExactMovesBack': WHATEVER THE INPUT: true; the input reads as it did. -/
def fnExactMovesBackSpec : ChangeSpec := { name := "fnExactMovesBack", fn := fun _ => fun
  | [d1, d2] => { results := [.lit (.bool true)], args := [d1, d2] }
  | _ => none }
def fnExactMovesBackRow : OpenClaim := { program := "ytgkmgncenljdaaa", sum := "eaf2c6b21c980172cfab109eaa94910f5eda6fe6714fdad94d950197ad8603ae", func := "loop.example/g01046/laws.FnExactMovesBack", spec := "fnExactMovesBack", unfollowed := true, recurses := true, apart := false }
def FnExactMovesBackSaid : Prop := fnExactMovesBackRow.holds Try.pinned (OpenSpec.ofChange fnExactMovesBackSpec)

/-- ITS FALSE NEIGHBOUR: 'it returns false'. Refute it at one input. -/
def fnExactMovesBackWrong : ChangeSpec := { name := "fnExactMovesBack", fn := fun _ => fun
  | [d1, d2] => { results := [.lit (.bool false)], args := [d1, d2] }
  | _ => none }
def FnExactMovesBackWrongFalsely : Prop := fnExactMovesBackRow.holds Try.pinned (OpenSpec.ofChange fnExactMovesBackWrong)

/- THE SECOND FORM. 'bulk': how many values and letters a reading holds, each counted each time it is reached (what is shared counts as often as it is met; a slice's spare places count too). A statement '..UptoSaid' is the law's where the arguments, and the package variables that the reading takes, are together of bulk at most 1048576: NARROWER than '..Said'. Prove '..Said' where nothing that the law and all that it calls make is longer than what came in: it says more and counts as full. Else prove '..UptoSaid'. A law counts once. -/
mutual
def uptoBulk {H : Type} : DataW H → Nat
  | .lit (.string bytes) => bytes.length + 1
  | .lit _ => 1
  | .nil => 1
  | .ptr d => uptoBulk d + 1
  | .slice elems spare => uptoBulkAll elems + uptoBulkAll spare + 1
  | .agg parts => uptoBulkAll parts + 1
  | .iface _ d => uptoBulk d + 1
  | .map entries => uptoBulkEntries entries + 1
  | .held _ => 1
def uptoBulkAll {H : Type} : List (DataW H) → Nat
  | [] => 0
  | d :: r => uptoBulk d + uptoBulkAll r
def uptoBulkEntries {H : Type} : List (Lit × DataW H) → Nat
  | [] => 0
  | x :: r => uptoBulkEntry x + uptoBulkEntries r
def uptoBulkEntry {H : Type} : Lit × DataW H → Nat
  | (.string bytes, d) => bytes.length + uptoBulk d + 1
  | (_, d) => uptoBulk d + 1
 end
def uptoSmall : (H : Type) → List (DataW H) → Bool := fun _ ds => decide (uptoBulkAll ds ≤ 1048576)
def OpenSpec.upto (s : _root_.Go.ChangeSpec) : _root_.Go.OpenSpec := { _root_.Go.OpenSpec.ofChange s with cond := some uptoSmall }

/-- 'laws.FnExactValidStock', WHERE WHAT IT READS IS OF BULK AT MOST 1048576: true; the input reads as it did. -/
def fnExactValidStockUptoRow : OpenClaim := { program := "ytgkmgncenljdaaa", sum := "eaf2c6b21c980172cfab109eaa94910f5eda6fe6714fdad94d950197ad8603ae", func := "loop.example/g01046/laws.FnExactValidStock", spec := "fnExactValidStock", unfollowed := true, recurses := true, apart := false, narrowed := true }
def FnExactValidStockUptoSaid : Prop := fnExactValidStockUptoRow.holds Try.pinned (OpenSpec.upto fnExactValidStockSpec)

/-- 'laws.FnExactValidSeals', WHERE WHAT IT READS IS OF BULK AT MOST 1048576: true; the input reads as it did. -/
def fnExactValidSealsUptoRow : OpenClaim := { program := "ytgkmgncenljdaaa", sum := "eaf2c6b21c980172cfab109eaa94910f5eda6fe6714fdad94d950197ad8603ae", func := "loop.example/g01046/laws.FnExactValidSeals", spec := "fnExactValidSeals", unfollowed := true, recurses := true, apart := false, narrowed := true }
def FnExactValidSealsUptoSaid : Prop := fnExactValidSealsUptoRow.holds Try.pinned (OpenSpec.upto fnExactValidSealsSpec)

/-- 'laws.FnExactSameMoves', WHERE WHAT IT READS IS OF BULK AT MOST 1048576: true; the input reads as it did. -/
def fnExactSameMovesUptoRow : OpenClaim := { program := "ytgkmgncenljdaaa", sum := "eaf2c6b21c980172cfab109eaa94910f5eda6fe6714fdad94d950197ad8603ae", func := "loop.example/g01046/laws.FnExactSameMoves", spec := "fnExactSameMoves", apart := false, narrowed := true }
def FnExactSameMovesUptoSaid : Prop := fnExactSameMovesUptoRow.holds Try.pinned (OpenSpec.upto fnExactSameMovesSpec)

/-- 'laws.FnExactRunsLeft', WHERE WHAT IT READS IS OF BULK AT MOST 1048576: true; the input reads as it did. -/
def fnExactRunsLeftUptoRow : OpenClaim := { program := "ytgkmgncenljdaaa", sum := "eaf2c6b21c980172cfab109eaa94910f5eda6fe6714fdad94d950197ad8603ae", func := "loop.example/g01046/laws.FnExactRunsLeft", spec := "fnExactRunsLeft", unfollowed := true, recurses := true, apart := false, narrowed := true }
def FnExactRunsLeftUptoSaid : Prop := fnExactRunsLeftUptoRow.holds Try.pinned (OpenSpec.upto fnExactRunsLeftSpec)

/-- 'laws.FnExactNextCarrier', WHERE WHAT IT READS IS OF BULK AT MOST 1048576: true; the input reads as it did. -/
def fnExactNextCarrierUptoRow : OpenClaim := { program := "ytgkmgncenljdaaa", sum := "eaf2c6b21c980172cfab109eaa94910f5eda6fe6714fdad94d950197ad8603ae", func := "loop.example/g01046/laws.FnExactNextCarrier", spec := "fnExactNextCarrier", unfollowed := true, recurses := true, apart := false, narrowed := true }
def FnExactNextCarrierUptoSaid : Prop := fnExactNextCarrierUptoRow.holds Try.pinned (OpenSpec.upto fnExactNextCarrierSpec)

/-- 'laws.FnExactRunCarrier', WHERE WHAT IT READS IS OF BULK AT MOST 1048576: true; the input reads as it did. -/
def fnExactRunCarrierUptoRow : OpenClaim := { program := "ytgkmgncenljdaaa", sum := "eaf2c6b21c980172cfab109eaa94910f5eda6fe6714fdad94d950197ad8603ae", func := "loop.example/g01046/laws.FnExactRunCarrier", spec := "fnExactRunCarrier", unfollowed := true, recurses := true, apart := false, narrowed := true }
def FnExactRunCarrierUptoSaid : Prop := fnExactRunCarrierUptoRow.holds Try.pinned (OpenSpec.upto fnExactRunCarrierSpec)

/-- 'laws.FnExactWornSeals', WHERE WHAT IT READS IS OF BULK AT MOST 1048576: true; the input reads as it did. -/
def fnExactWornSealsUptoRow : OpenClaim := { program := "ytgkmgncenljdaaa", sum := "eaf2c6b21c980172cfab109eaa94910f5eda6fe6714fdad94d950197ad8603ae", func := "loop.example/g01046/laws.FnExactWornSeals", spec := "fnExactWornSeals", unfollowed := true, recurses := true, apart := false, narrowed := true }
def FnExactWornSealsUptoSaid : Prop := fnExactWornSealsUptoRow.holds Try.pinned (OpenSpec.upto fnExactWornSealsSpec)

/-- 'laws.FnExactShortStations', WHERE WHAT IT READS IS OF BULK AT MOST 1048576: true; the input reads as it did. -/
def fnExactShortStationsUptoRow : OpenClaim := { program := "ytgkmgncenljdaaa", sum := "eaf2c6b21c980172cfab109eaa94910f5eda6fe6714fdad94d950197ad8603ae", func := "loop.example/g01046/laws.FnExactShortStations", spec := "fnExactShortStations", unfollowed := true, recurses := true, apart := false, narrowed := true }
def FnExactShortStationsUptoSaid : Prop := fnExactShortStationsUptoRow.holds Try.pinned (OpenSpec.upto fnExactShortStationsSpec)

/-- 'laws.FnExactSendCarriers', WHERE WHAT IT READS IS OF BULK AT MOST 1048576: true; the input reads as it did. -/
def fnExactSendCarriersUptoRow : OpenClaim := { program := "ytgkmgncenljdaaa", sum := "eaf2c6b21c980172cfab109eaa94910f5eda6fe6714fdad94d950197ad8603ae", func := "loop.example/g01046/laws.FnExactSendCarriers", spec := "fnExactSendCarriers", unfollowed := true, recurses := true, apart := false, narrowed := true }
def FnExactSendCarriersUptoSaid : Prop := fnExactSendCarriersUptoRow.holds Try.pinned (OpenSpec.upto fnExactSendCarriersSpec)

/-- 'laws.FnExactCostOfMoves', WHERE WHAT IT READS IS OF BULK AT MOST 1048576: true; the input reads as it did. -/
def fnExactCostOfMovesUptoRow : OpenClaim := { program := "ytgkmgncenljdaaa", sum := "eaf2c6b21c980172cfab109eaa94910f5eda6fe6714fdad94d950197ad8603ae", func := "loop.example/g01046/laws.FnExactCostOfMoves", spec := "fnExactCostOfMoves", unfollowed := true, recurses := true, apart := false, narrowed := true }
def FnExactCostOfMovesUptoSaid : Prop := fnExactCostOfMovesUptoRow.holds Try.pinned (OpenSpec.upto fnExactCostOfMovesSpec)

/-- 'laws.FnExactSendAll', WHERE WHAT IT READS IS OF BULK AT MOST 1048576: true; the input reads as it did. -/
def fnExactSendAllUptoRow : OpenClaim := { program := "ytgkmgncenljdaaa", sum := "eaf2c6b21c980172cfab109eaa94910f5eda6fe6714fdad94d950197ad8603ae", func := "loop.example/g01046/laws.FnExactSendAll", spec := "fnExactSendAll", unfollowed := true, recurses := true, apart := false, narrowed := true }
def FnExactSendAllUptoSaid : Prop := fnExactSendAllUptoRow.holds Try.pinned (OpenSpec.upto fnExactSendAllSpec)

/-- 'laws.FnExactMovesBack', WHERE WHAT IT READS IS OF BULK AT MOST 1048576: true; the input reads as it did. -/
def fnExactMovesBackUptoRow : OpenClaim := { program := "ytgkmgncenljdaaa", sum := "eaf2c6b21c980172cfab109eaa94910f5eda6fe6714fdad94d950197ad8603ae", func := "loop.example/g01046/laws.FnExactMovesBack", spec := "fnExactMovesBack", unfollowed := true, recurses := true, apart := false, narrowed := true }
def FnExactMovesBackUptoSaid : Prop := fnExactMovesBackUptoRow.holds Try.pinned (OpenSpec.upto fnExactMovesBackSpec)

end Rows
end Go.Proofs.Ytgkmgncenljdaaa
