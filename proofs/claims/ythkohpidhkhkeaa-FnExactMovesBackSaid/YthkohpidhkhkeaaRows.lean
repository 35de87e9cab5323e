/-
  No cell of these rows narrows 'for every input' (looked for: loops, veiled, ifaces, maps, wideKeys, modest, calm, conditions, laid).
  DERIVED. THE GIVEN ROWS OF THIS SEAT. 8 by the template 'for every input the law returns true; each argument reads behind the call as it read before'; 0 by the template 'total and deterministic' (their statements: YthkohpidhkhkeaaTotals.lean).
  GIVEN WITH THE SEED: the statements are not yours to turn. If you find one false, say at which input.
  Laid BY PROGRAM, IN A SANDBOX (cutbox-rows.mjs): the forced cells as the released guide's own fill.sh prints them over the translation 3c9aa0a1c923eeb6… (all of the seat's roots in one cut). By AI agents, Wed Nov 11 2026. No macro, syntax, notation, axiom, sorry.
-/
import Derived.Test.YthkohpidhkhkeaaChecked
import GoSem.Claim
import GoSem.ClaimJoined
import GoSem.ClaimMapViews
import Derived.JoinedTies
import Derived.KernelRfl
namespace Go.Proofs.Ythkohpidhkhkeaa
/- THE CELL 'sum', in the pinned program and in every row, IS THE sha256 OF THE DUMP (.gsa) THAT YthkohpidhkhkeaaProg.lean LOADS. Nothing in Lean hashes anything: it is a label: what it is worth is what the hold of that sum in a sandbox is worth. -/
noncomputable def Try.pinned : Pinned := { name := "ythkohpidhkhkeaa", sum := "3c9aa0a1c923eeb68d25a847111d78f68744ccb3cf3801ff04a154a6feedaf58", checked := Try.checked }
namespace Rows
def none {H : Type} : Left H := { results := [], args := [] }

/-- 'laws.FnExactShortStations': WHATEVER THE INPUT: true; the input reads as it did. -/
def fnExactShortStationsSpec : ChangeSpec := { name := "fnExactShortStations", fn := fun _ => fun
  | [d1, d2] => { results := [.lit (.bool true)], args := [d1, d2] }
  | _ => none }
def fnExactShortStationsRow : OpenClaim := { program := "ythkohpidhkhkeaa", sum := "3c9aa0a1c923eeb68d25a847111d78f68744ccb3cf3801ff04a154a6feedaf58", func := "loop.example/g01046/laws.FnExactShortStations", spec := "fnExactShortStations", unfollowed := true, recurses := true, apart := false }
def FnExactShortStationsSaid : Prop := fnExactShortStationsRow.holds Try.pinned (OpenSpec.ofChange fnExactShortStationsSpec)

/-- ITS FALSE NEIGHBOUR: 'it returns false'. Refute it at one input. -/
def fnExactShortStationsWrong : ChangeSpec := { name := "fnExactShortStations", fn := fun _ => fun
  | [d1, d2] => { results := [.lit (.bool false)], args := [d1, d2] }
  | _ => none }
def FnExactShortStationsWrongFalsely : Prop := fnExactShortStationsRow.holds Try.pinned (OpenSpec.ofChange fnExactShortStationsWrong)

/-- 'laws.FnExactCostOfMoves': WHATEVER THE INPUT: true; the input reads as it did. -/
def fnExactCostOfMovesSpec : ChangeSpec := { name := "fnExactCostOfMoves", fn := fun _ => fun
  | [d1, d2] => { results := [.lit (.bool true)], args := [d1, d2] }
  | _ => none }
def fnExactCostOfMovesRow : OpenClaim := { program := "ythkohpidhkhkeaa", sum := "3c9aa0a1c923eeb68d25a847111d78f68744ccb3cf3801ff04a154a6feedaf58", func := "loop.example/g01046/laws.FnExactCostOfMoves", spec := "fnExactCostOfMoves", unfollowed := true, recurses := true, apart := false }
def FnExactCostOfMovesSaid : Prop := fnExactCostOfMovesRow.holds Try.pinned (OpenSpec.ofChange fnExactCostOfMovesSpec)

/-- ITS FALSE NEIGHBOUR: 'it returns false'. Refute it at one input. -/
def fnExactCostOfMovesWrong : ChangeSpec := { name := "fnExactCostOfMoves", fn := fun _ => fun
  | [d1, d2] => { results := [.lit (.bool false)], args := [d1, d2] }
  | _ => none }
def FnExactCostOfMovesWrongFalsely : Prop := fnExactCostOfMovesRow.holds Try.pinned (OpenSpec.ofChange fnExactCostOfMovesWrong)

/-- 'laws.FnExactMovesBack': WHATEVER THE INPUT: true; the input reads as it did. -/
def fnExactMovesBackSpec : ChangeSpec := { name := "fnExactMovesBack", fn := fun _ => fun
  | [d1, d2] => { results := [.lit (.bool true)], args := [d1, d2] }
  | _ => none }
def fnExactMovesBackRow : OpenClaim := { program := "ythkohpidhkhkeaa", sum := "3c9aa0a1c923eeb68d25a847111d78f68744ccb3cf3801ff04a154a6feedaf58", func := "loop.example/g01046/laws.FnExactMovesBack", spec := "fnExactMovesBack", unfollowed := true, recurses := true, apart := false }
def FnExactMovesBackSaid : Prop := fnExactMovesBackRow.holds Try.pinned (OpenSpec.ofChange fnExactMovesBackSpec)

/-- ITS FALSE NEIGHBOUR: 'it returns false'. Refute it at one input. -/
def fnExactMovesBackWrong : ChangeSpec := { name := "fnExactMovesBack", fn := fun _ => fun
  | [d1, d2] => { results := [.lit (.bool false)], args := [d1, d2] }
  | _ => none }
def FnExactMovesBackWrongFalsely : Prop := fnExactMovesBackRow.holds Try.pinned (OpenSpec.ofChange fnExactMovesBackWrong)

/-- 'laws.FnExactEarliestStart': WHATEVER THE INPUT: true; the input reads as it did. -/
def fnExactEarliestStartSpec : ChangeSpec := { name := "fnExactEarliestStart", fn := fun _ => fun
  | [d1, d2, d3, d4] => { results := [.lit (.bool true)], args := [d1, d2, d3, d4] }
  | _ => none }
def fnExactEarliestStartRow : OpenClaim := { program := "ythkohpidhkhkeaa", sum := "3c9aa0a1c923eeb68d25a847111d78f68744ccb3cf3801ff04a154a6feedaf58", func := "loop.example/g01046/laws.FnExactEarliestStart", spec := "fnExactEarliestStart", unfollowed := true, recurses := true, apart := false }
def FnExactEarliestStartSaid : Prop := fnExactEarliestStartRow.holds Try.pinned (OpenSpec.ofChange fnExactEarliestStartSpec)

/-- ITS FALSE NEIGHBOUR: 'it returns false'. Refute it at one input. -/
def fnExactEarliestStartWrong : ChangeSpec := { name := "fnExactEarliestStart", fn := fun _ => fun
  | [d1, d2, d3, d4] => { results := [.lit (.bool false)], args := [d1, d2, d3, d4] }
  | _ => none }
def FnExactEarliestStartWrongFalsely : Prop := fnExactEarliestStartRow.holds Try.pinned (OpenSpec.ofChange fnExactEarliestStartWrong)

/-- 'laws.FnExactBestMoves': WHATEVER THE INPUT: true; the input reads as it did. -/
def fnExactBestMovesSpec : ChangeSpec := { name := "fnExactBestMoves", fn := fun _ => fun
  | [d1, d2, d3] => { results := [.lit (.bool true)], args := [d1, d2, d3] }
  | _ => none }
def fnExactBestMovesRow : OpenClaim := { program := "ythkohpidhkhkeaa", sum := "3c9aa0a1c923eeb68d25a847111d78f68744ccb3cf3801ff04a154a6feedaf58", func := "loop.example/g01046/laws.FnExactBestMoves", spec := "fnExactBestMoves", unfollowed := true, recurses := true, apart := false }
def FnExactBestMovesSaid : Prop := fnExactBestMovesRow.holds Try.pinned (OpenSpec.ofChange fnExactBestMovesSpec)

/-- ITS FALSE NEIGHBOUR: 'it returns false'. Refute it at one input. -/
def fnExactBestMovesWrong : ChangeSpec := { name := "fnExactBestMoves", fn := fun _ => fun
  | [d1, d2, d3] => { results := [.lit (.bool false)], args := [d1, d2, d3] }
  | _ => none }
def FnExactBestMovesWrongFalsely : Prop := fnExactBestMovesRow.holds Try.pinned (OpenSpec.ofChange fnExactBestMovesWrong)

/-- 'laws.FnExactAddChange': WHATEVER THE INPUT: true; the input reads as it did. -/
def fnExactAddChangeSpec : ChangeSpec := { name := "fnExactAddChange", fn := fun _ => fun
  | [d1, d2] => { results := [.lit (.bool true)], args := [d1, d2] }
  | _ => none }
def fnExactAddChangeRow : OpenClaim := { program := "ythkohpidhkhkeaa", sum := "3c9aa0a1c923eeb68d25a847111d78f68744ccb3cf3801ff04a154a6feedaf58", func := "loop.example/g01046/laws.FnExactAddChange", spec := "fnExactAddChange", inPlace := ["slices.overlaps[loop.example/g01046/impl.Change]"], unfollowed := true, recurses := true, apart := false }
def FnExactAddChangeSaid : Prop := fnExactAddChangeRow.holds Try.pinned (OpenSpec.ofChange fnExactAddChangeSpec)

/-- ITS FALSE NEIGHBOUR: 'it returns false'. Refute it at one input. -/
def fnExactAddChangeWrong : ChangeSpec := { name := "fnExactAddChange", fn := fun _ => fun
  | [d1, d2] => { results := [.lit (.bool false)], args := [d1, d2] }
  | _ => none }
def FnExactAddChangeWrongFalsely : Prop := fnExactAddChangeRow.holds Try.pinned (OpenSpec.ofChange fnExactAddChangeWrong)

/-- 'laws.FnExactFreeAt': WHATEVER THE INPUT: true; the input reads as it did. -/
def fnExactFreeAtSpec : ChangeSpec := { name := "fnExactFreeAt", fn := fun _ => fun
  | [d1, d2, d3, d4, d5] => { results := [.lit (.bool true)], args := [d1, d2, d3, d4, d5] }
  | _ => none }
def fnExactFreeAtRow : OpenClaim := { program := "ythkohpidhkhkeaa", sum := "3c9aa0a1c923eeb68d25a847111d78f68744ccb3cf3801ff04a154a6feedaf58", func := "loop.example/g01046/laws.FnExactFreeAt", spec := "fnExactFreeAt", unfollowed := true, recurses := true, apart := false }
def FnExactFreeAtSaid : Prop := fnExactFreeAtRow.holds Try.pinned (OpenSpec.ofChange fnExactFreeAtSpec)

/-- ITS FALSE NEIGHBOUR: 'it returns false'. Refute it at one input. -/
def fnExactFreeAtWrong : ChangeSpec := { name := "fnExactFreeAt", fn := fun _ => fun
  | [d1, d2, d3, d4, d5] => { results := [.lit (.bool false)], args := [d1, d2, d3, d4, d5] }
  | _ => none }
def FnExactFreeAtWrongFalsely : Prop := fnExactFreeAtRow.holds Try.pinned (OpenSpec.ofChange fnExactFreeAtWrong)

/-- 'laws.FnExactSpansIn': WHATEVER THE INPUT: true; the input reads as it did. -/
def fnExactSpansInSpec : ChangeSpec := { name := "fnExactSpansIn", fn := fun _ => fun
  | [d1, d2, d3] => { results := [.lit (.bool true)], args := [d1, d2, d3] }
  | _ => none }
def fnExactSpansInRow : OpenClaim := { program := "ythkohpidhkhkeaa", sum := "3c9aa0a1c923eeb68d25a847111d78f68744ccb3cf3801ff04a154a6feedaf58", func := "loop.example/g01046/laws.FnExactSpansIn", spec := "fnExactSpansIn", unfollowed := true, recurses := true, apart := false }
def FnExactSpansInSaid : Prop := fnExactSpansInRow.holds Try.pinned (OpenSpec.ofChange fnExactSpansInSpec)

/-- ITS FALSE NEIGHBOUR: 'it returns false'. Refute it at one input. -/
def fnExactSpansInWrong : ChangeSpec := { name := "fnExactSpansIn", fn := fun _ => fun
  | [d1, d2, d3] => { results := [.lit (.bool false)], args := [d1, d2, d3] }
  | _ => none }
def FnExactSpansInWrongFalsely : Prop := fnExactSpansInRow.holds Try.pinned (OpenSpec.ofChange fnExactSpansInWrong)

/- THE SECOND FORM. 'bulk': how many values and letters a reading holds, each counted each time it is reached (what is shared counts as often as it is met; a slice's spare places count too). A statement '..UptoSaid' is the law's where the arguments, and the package variables that the reading takes, are together of bulk at most 1048576: NARROWER than '..Said'. Prove '..Said' where nothing that the law and all that it calls make is longer than what came in: it says more and counts as full. Else prove '..UptoSaid'. A law counts once. -/
mutual
def uptoBulk {H : Type} : DataW H → Nat
  | .lit (.string bytes) => bytes.length + 1
  | .lit _ => 1
  | .nil => 1
  | .ptr d => uptoBulk d + 1
  | .slice elems spare => uptoBulkAll elems + uptoBulkAll spare + 1
  | .agg parts => uptoBulkAll parts + 1
  | .iface _ d => uptoBulk d + 1
  | .map entries => uptoBulkEntries entries + 1
  | .held _ => 1
def uptoBulkAll {H : Type} : List (DataW H) → Nat
  | [] => 0
  | d :: r => uptoBulk d + uptoBulkAll r
def uptoBulkEntries {H : Type} : List (Lit × DataW H) → Nat
  | [] => 0
  | x :: r => uptoBulkEntry x + uptoBulkEntries r
def uptoBulkEntry {H : Type} : Lit × DataW H → Nat
  | (.string bytes, d) => bytes.length + uptoBulk d + 1
  | (_, d) => uptoBulk d + 1
 end
def uptoSmall : (H : Type) → List (DataW H) → Bool := fun _ ds => decide (uptoBulkAll ds ≤ 1048576)
def OpenSpec.upto (s : _root_.Go.ChangeSpec) : _root_.Go.OpenSpec := { _root_.Go.OpenSpec.ofChange s with cond := some uptoSmall }

/-- 'laws.FnExactShortStations', WHERE WHAT IT READS IS OF BULK AT MOST 1048576: true; the input reads as it did. -/
def fnExactShortStationsUptoRow : OpenClaim := { program := "ythkohpidhkhkeaa", sum := "3c9aa0a1c923eeb68d25a847111d78f68744ccb3cf3801ff04a154a6feedaf58", func := "loop.example/g01046/laws.FnExactShortStations", spec := "fnExactShortStations", unfollowed := true, recurses := true, apart := false, narrowed := true }
def FnExactShortStationsUptoSaid : Prop := fnExactShortStationsUptoRow.holds Try.pinned (OpenSpec.upto fnExactShortStationsSpec)

/-- 'laws.FnExactCostOfMoves', WHERE WHAT IT READS IS OF BULK AT MOST 1048576: true; the input reads as it did. -/
def fnExactCostOfMovesUptoRow : OpenClaim := { program := "ythkohpidhkhkeaa", sum := "3c9aa0a1c923eeb68d25a847111d78f68744ccb3cf3801ff04a154a6feedaf58", func := "loop.example/g01046/laws.FnExactCostOfMoves", spec := "fnExactCostOfMoves", unfollowed := true, recurses := true, apart := false, narrowed := true }
def FnExactCostOfMovesUptoSaid : Prop := fnExactCostOfMovesUptoRow.holds Try.pinned (OpenSpec.upto fnExactCostOfMovesSpec)

/-- 'laws.FnExactMovesBack', WHERE WHAT IT READS IS OF BULK AT MOST 1048576: true; the input reads as it did. -/
def fnExactMovesBackUptoRow : OpenClaim := { program := "ythkohpidhkhkeaa", sum := "3c9aa0a1c923eeb68d25a847111d78f68744ccb3cf3801ff04a154a6feedaf58", func := "loop.example/g01046/laws.FnExactMovesBack", spec := "fnExactMovesBack", unfollowed := true, recurses := true, apart := false, narrowed := true }
def FnExactMovesBackUptoSaid : Prop := fnExactMovesBackUptoRow.holds Try.pinned (OpenSpec.upto fnExactMovesBackSpec)

/-- 'laws.FnExactEarliestStart', WHERE WHAT IT READS IS OF BULK AT MOST 1048576: true; the input reads as it did. -/
def fnExactEarliestStartUptoRow : OpenClaim := { program := "ythkohpidhkhkeaa", sum := "3c9aa0a1c923eeb68d25a847111d78f68744ccb3cf3801ff04a154a6feedaf58", func := "loop.example/g01046/laws.FnExactEarliestStart", spec := "fnExactEarliestStart", unfollowed := true, recurses := true, apart := false, narrowed := true }
def FnExactEarliestStartUptoSaid : Prop := fnExactEarliestStartUptoRow.holds Try.pinned (OpenSpec.upto fnExactEarliestStartSpec)

/-- 'laws.FnExactBestMoves', WHERE WHAT IT READS IS OF BULK AT MOST 1048576: true; the input reads as it did. -/
def fnExactBestMovesUptoRow : OpenClaim := { program := "ythkohpidhkhkeaa", sum := "3c9aa0a1c923eeb68d25a847111d78f68744ccb3cf3801ff04a154a6feedaf58", func := "loop.example/g01046/laws.FnExactBestMoves", spec := "fnExactBestMoves", unfollowed := true, recurses := true, apart := false, narrowed := true }
def FnExactBestMovesUptoSaid : Prop := fnExactBestMovesUptoRow.holds Try.pinned (OpenSpec.upto fnExactBestMovesSpec)

/-- 'laws.FnExactAddChange', WHERE WHAT IT READS IS OF BULK AT MOST 1048576: true; the input reads as it did. -/
def fnExactAddChangeUptoRow : OpenClaim := { program := "ythkohpidhkhkeaa", sum := "3c9aa0a1c923eeb68d25a847111d78f68744ccb3cf3801ff04a154a6feedaf58", func := "loop.example/g01046/laws.FnExactAddChange", spec := "fnExactAddChange", inPlace := ["slices.overlaps[loop.example/g01046/impl.Change]"], unfollowed := true, recurses := true, apart := false, narrowed := true }
def FnExactAddChangeUptoSaid : Prop := fnExactAddChangeUptoRow.holds Try.pinned (OpenSpec.upto fnExactAddChangeSpec)

/-- 'laws.FnExactFreeAt', WHERE WHAT IT READS IS OF BULK AT MOST 1048576: true; the input reads as it did. -/
def fnExactFreeAtUptoRow : OpenClaim := { program := "ythkohpidhkhkeaa", sum := "3c9aa0a1c923eeb68d25a847111d78f68744ccb3cf3801ff04a154a6feedaf58", func := "loop.example/g01046/laws.FnExactFreeAt", spec := "fnExactFreeAt", unfollowed := true, recurses := true, apart := false, narrowed := true }
def FnExactFreeAtUptoSaid : Prop := fnExactFreeAtUptoRow.holds Try.pinned (OpenSpec.upto fnExactFreeAtSpec)

/-- 'laws.FnExactSpansIn', WHERE WHAT IT READS IS OF BULK AT MOST 1048576: true; the input reads as it did. -/
def fnExactSpansInUptoRow : OpenClaim := { program := "ythkohpidhkhkeaa", sum := "3c9aa0a1c923eeb68d25a847111d78f68744ccb3cf3801ff04a154a6feedaf58", func := "loop.example/g01046/laws.FnExactSpansIn", spec := "fnExactSpansIn", unfollowed := true, recurses := true, apart := false, narrowed := true }
def FnExactSpansInUptoSaid : Prop := fnExactSpansInUptoRow.holds Try.pinned (OpenSpec.upto fnExactSpansInSpec)

end Rows
end Go.Proofs.Ythkohpidhkhkeaa
