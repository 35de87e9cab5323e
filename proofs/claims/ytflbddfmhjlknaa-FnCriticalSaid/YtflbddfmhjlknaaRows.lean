/-
  No cell of these rows narrows 'for every input' (looked for: loops, veiled, ifaces, maps, wideKeys, modest, calm, conditions, laid).
  DERIVED. THE GIVEN ROWS OF THIS SEAT. 7 by the template 'for every input the law returns true; each argument reads behind the call as it read before'; 0 by the template 'total and deterministic' (their statements: YtflbddfmhjlknaaTotals.lean).
  GIVEN WITH THE SEED: the statements are not yours to turn. If you find one false, say at which input.
  Laid BY PROGRAM, IN A SANDBOX (cutbox-rows.mjs): the forced cells as the released guide's own fill.sh prints them over the translation 3ae1478caaf9207d… (all of the seat's roots in one cut). By AI agents, Wed Nov 11 2026. No macro, syntax, notation, axiom, sorry.
-/
import Derived.Test.YtflbddfmhjlknaaChecked
import GoSem.Claim
import GoSem.ClaimJoined
import GoSem.ClaimMapViews
import Derived.JoinedTies
import Derived.KernelRfl
namespace Go.Proofs.Ytflbddfmhjlknaa
/- THE CELL 'sum', in the pinned program and in every row, IS THE sha256 OF THE DUMP (.gsa) THAT YtflbddfmhjlknaaProg.lean LOADS. Nothing in Lean hashes anything: it is a label: what it is worth is what the hold of that sum in a sandbox is worth. -/
noncomputable def Try.pinned : Pinned := { name := "ytflbddfmhjlknaa", sum := "3ae1478caaf9207d52687404b290982c68a94b462e6ed748ca1b3e50d18406fd", checked := Try.checked }
namespace Rows
def none {H : Type} : Left H := { results := [], args := [] }

/-- 'laws.FnSeals': WHATEVER THE INPUT: true; the input reads as it did. -/
def fnSealsSpec : ChangeSpec := { name := "fnSeals", fn := fun _ => fun
  | [d] => { results := [.lit (.bool true)], args := [d] }
  | _ => none }
def fnSealsRow : OpenClaim := { program := "ytflbddfmhjlknaa", sum := "3ae1478caaf9207d52687404b290982c68a94b462e6ed748ca1b3e50d18406fd", func := "loop.example/g01046/laws.FnSeals", spec := "fnSeals", unfollowed := true, recurses := true, apart := false }
def FnSealsSaid : Prop := fnSealsRow.holds Try.pinned (OpenSpec.ofChange fnSealsSpec)

/-- ITS FALSE NEIGHBOUR: 'it returns false'. Refute it at one input. -/
def fnSealsWrong : ChangeSpec := { name := "fnSeals", fn := fun _ => fun
  | [d] => { results := [.lit (.bool false)], args := [d] }
  | _ => none }
def FnSealsWrongFalsely : Prop := fnSealsRow.holds Try.pinned (OpenSpec.ofChange fnSealsWrong)

/-- 'laws.FnMovesBack': WHATEVER THE INPUT: true; the input reads as it did. -/
def fnMovesBackSpec : ChangeSpec := { name := "fnMovesBack", fn := fun _ => fun
  | [d] => { results := [.lit (.bool true)], args := [d] }
  | _ => none }
def fnMovesBackRow : OpenClaim := { program := "ytflbddfmhjlknaa", sum := "3ae1478caaf9207d52687404b290982c68a94b462e6ed748ca1b3e50d18406fd", func := "loop.example/g01046/laws.FnMovesBack", spec := "fnMovesBack", unfollowed := true, recurses := true, apart := false }
def FnMovesBackSaid : Prop := fnMovesBackRow.holds Try.pinned (OpenSpec.ofChange fnMovesBackSpec)

/-- ITS FALSE NEIGHBOUR: 'it returns false'. Refute it at one input. -/
def fnMovesBackWrong : ChangeSpec := { name := "fnMovesBack", fn := fun _ => fun
  | [d] => { results := [.lit (.bool false)], args := [d] }
  | _ => none }
def FnMovesBackWrongFalsely : Prop := fnMovesBackRow.holds Try.pinned (OpenSpec.ofChange fnMovesBackWrong)

/-- 'laws.FnExactSpansIn': WHATEVER THE INPUT: true; the input reads as it did. -/
def fnExactSpansInSpec : ChangeSpec := { name := "fnExactSpansIn", fn := fun _ => fun
  | [d1, d2, d3] => { results := [.lit (.bool true)], args := [d1, d2, d3] }
  | _ => none }
def fnExactSpansInRow : OpenClaim := { program := "ytflbddfmhjlknaa", sum := "3ae1478caaf9207d52687404b290982c68a94b462e6ed748ca1b3e50d18406fd", func := "loop.example/g01046/laws.FnExactSpansIn", spec := "fnExactSpansIn", unfollowed := true, recurses := true, apart := false }
def FnExactSpansInSaid : Prop := fnExactSpansInRow.holds Try.pinned (OpenSpec.ofChange fnExactSpansInSpec)

/-- ITS FALSE NEIGHBOUR: 'it returns false'. Refute it at one input. -/
def fnExactSpansInWrong : ChangeSpec := { name := "fnExactSpansIn", fn := fun _ => fun
  | [d1, d2, d3] => { results := [.lit (.bool false)], args := [d1, d2, d3] }
  | _ => none }
def FnExactSpansInWrongFalsely : Prop := fnExactSpansInRow.holds Try.pinned (OpenSpec.ofChange fnExactSpansInWrong)

/-- 'laws.FnExactFreeAt': WHATEVER THE INPUT: true; the input reads as it did. -/
def fnExactFreeAtSpec : ChangeSpec := { name := "fnExactFreeAt", fn := fun _ => fun
  | [d1, d2, d3, d4, d5] => { results := [.lit (.bool true)], args := [d1, d2, d3, d4, d5] }
  | _ => none }
def fnExactFreeAtRow : OpenClaim := { program := "ytflbddfmhjlknaa", sum := "3ae1478caaf9207d52687404b290982c68a94b462e6ed748ca1b3e50d18406fd", func := "loop.example/g01046/laws.FnExactFreeAt", spec := "fnExactFreeAt", unfollowed := true, recurses := true, apart := false }
def FnExactFreeAtSaid : Prop := fnExactFreeAtRow.holds Try.pinned (OpenSpec.ofChange fnExactFreeAtSpec)

/-- ITS FALSE NEIGHBOUR: 'it returns false'. Refute it at one input. -/
def fnExactFreeAtWrong : ChangeSpec := { name := "fnExactFreeAt", fn := fun _ => fun
  | [d1, d2, d3, d4, d5] => { results := [.lit (.bool false)], args := [d1, d2, d3, d4, d5] }
  | _ => none }
def FnExactFreeAtWrongFalsely : Prop := fnExactFreeAtRow.holds Try.pinned (OpenSpec.ofChange fnExactFreeAtWrong)

/-- 'laws.FnExactBestMoves': WHATEVER THE INPUT: true; the input reads as it did. -/
def fnExactBestMovesSpec : ChangeSpec := { name := "fnExactBestMoves", fn := fun _ => fun
  | [d1, d2, d3] => { results := [.lit (.bool true)], args := [d1, d2, d3] }
  | _ => none }
def fnExactBestMovesRow : OpenClaim := { program := "ytflbddfmhjlknaa", sum := "3ae1478caaf9207d52687404b290982c68a94b462e6ed748ca1b3e50d18406fd", func := "loop.example/g01046/laws.FnExactBestMoves", spec := "fnExactBestMoves", unfollowed := true, recurses := true, apart := false }
def FnExactBestMovesSaid : Prop := fnExactBestMovesRow.holds Try.pinned (OpenSpec.ofChange fnExactBestMovesSpec)

/-- ITS FALSE NEIGHBOUR: 'it returns false'. Refute it at one input. -/
def fnExactBestMovesWrong : ChangeSpec := { name := "fnExactBestMoves", fn := fun _ => fun
  | [d1, d2, d3] => { results := [.lit (.bool false)], args := [d1, d2, d3] }
  | _ => none }
def FnExactBestMovesWrongFalsely : Prop := fnExactBestMovesRow.holds Try.pinned (OpenSpec.ofChange fnExactBestMovesWrong)

/-- 'laws.FnReachedStations': WHATEVER THE INPUT: true; the input reads as it did. -/
def fnReachedStationsSpec : ChangeSpec := { name := "fnReachedStations", fn := fun _ => fun
  | [d] => { results := [.lit (.bool true)], args := [d] }
  | _ => none }
def fnReachedStationsRow : OpenClaim := { program := "ytflbddfmhjlknaa", sum := "3ae1478caaf9207d52687404b290982c68a94b462e6ed748ca1b3e50d18406fd", func := "loop.example/g01046/laws.FnReachedStations", spec := "fnReachedStations", unfollowed := true, recurses := true, apart := false }
def FnReachedStationsSaid : Prop := fnReachedStationsRow.holds Try.pinned (OpenSpec.ofChange fnReachedStationsSpec)

/-- ITS FALSE NEIGHBOUR: 'it returns false'. Refute it at one input. -/
def fnReachedStationsWrong : ChangeSpec := { name := "fnReachedStations", fn := fun _ => fun
  | [d] => { results := [.lit (.bool false)], args := [d] }
  | _ => none }
def FnReachedStationsWrongFalsely : Prop := fnReachedStationsRow.holds Try.pinned (OpenSpec.ofChange fnReachedStationsWrong)

/-- 'laws.FnCritical': WHATEVER THE INPUT: true; the input reads as it did. -/
def fnCriticalSpec : ChangeSpec := { name := "fnCritical", fn := fun _ => fun
  | [d1, d2] => { results := [.lit (.bool true)], args := [d1, d2] }
  | _ => none }
def fnCriticalRow : OpenClaim := { program := "ytflbddfmhjlknaa", sum := "3ae1478caaf9207d52687404b290982c68a94b462e6ed748ca1b3e50d18406fd", func := "loop.example/g01046/laws.FnCritical", spec := "fnCritical", unfollowed := true, recurses := true, apart := false }
def FnCriticalSaid : Prop := fnCriticalRow.holds Try.pinned (OpenSpec.ofChange fnCriticalSpec)

/-- ITS FALSE NEIGHBOUR: 'it returns false'. Refute it at one input. -/
def fnCriticalWrong : ChangeSpec := { name := "fnCritical", fn := fun _ => fun
  | [d1, d2] => { results := [.lit (.bool false)], args := [d1, d2] }
  | _ => none }
def FnCriticalWrongFalsely : Prop := fnCriticalRow.holds Try.pinned (OpenSpec.ofChange fnCriticalWrong)

/- THE SECOND FORM. 'bulk': how many values and letters a reading holds, each counted each time it is reached (what is shared counts as often as it is met; a slice's spare places count too). A statement '..UptoSaid' is the law's where the arguments, and the package variables that the reading takes, are together of bulk at most 1048576: NARROWER than '..Said'. Prove '..Said' where nothing that the law and all that it calls make is longer than what came in: it says more and counts as full. Else prove '..UptoSaid'. A law counts once. -/
mutual
def uptoBulk {H : Type} : DataW H → Nat
  | .lit (.string bytes) => bytes.length + 1
  | .lit _ => 1
  | .nil => 1
  | .ptr d => uptoBulk d + 1
  | .slice elems spare => uptoBulkAll elems + uptoBulkAll spare + 1
  | .agg parts => uptoBulkAll parts + 1
  | .iface _ d => uptoBulk d + 1
  | .map entries => uptoBulkEntries entries + 1
  | .held _ => 1
def uptoBulkAll {H : Type} : List (DataW H) → Nat
  | [] => 0
  | d :: r => uptoBulk d + uptoBulkAll r
def uptoBulkEntries {H : Type} : List (Lit × DataW H) → Nat
  | [] => 0
  | x :: r => uptoBulkEntry x + uptoBulkEntries r
def uptoBulkEntry {H : Type} : Lit × DataW H → Nat
  | (.string bytes, d) => bytes.length + uptoBulk d + 1
  | (_, d) => uptoBulk d + 1
 end
def uptoSmall : (H : Type) → List (DataW H) → Bool := fun _ ds => decide (uptoBulkAll ds ≤ 1048576)
def OpenSpec.upto (s : _root_.Go.ChangeSpec) : _root_.Go.OpenSpec := { _root_.Go.OpenSpec.ofChange s with cond := some uptoSmall }

/-- 'laws.FnSeals', WHERE WHAT IT READS IS OF BULK AT MOST 1048576: true; the input reads as it did. -/
def fnSealsUptoRow : OpenClaim := { program := "ytflbddfmhjlknaa", sum := "3ae1478caaf9207d52687404b290982c68a94b462e6ed748ca1b3e50d18406fd", func := "loop.example/g01046/laws.FnSeals", spec := "fnSeals", unfollowed := true, recurses := true, apart := false, narrowed := true }
def FnSealsUptoSaid : Prop := fnSealsUptoRow.holds Try.pinned (OpenSpec.upto fnSealsSpec)

/-- 'laws.FnMovesBack', WHERE WHAT IT READS IS OF BULK AT MOST 1048576: true; the input reads as it did. -/
def fnMovesBackUptoRow : OpenClaim := { program := "ytflbddfmhjlknaa", sum := "3ae1478caaf9207d52687404b290982c68a94b462e6ed748ca1b3e50d18406fd", func := "loop.example/g01046/laws.FnMovesBack", spec := "fnMovesBack", unfollowed := true, recurses := true, apart := false, narrowed := true }
def FnMovesBackUptoSaid : Prop := fnMovesBackUptoRow.holds Try.pinned (OpenSpec.upto fnMovesBackSpec)

/-- 'laws.FnExactSpansIn', WHERE WHAT IT READS IS OF BULK AT MOST 1048576: true; the input reads as it did. -/
def fnExactSpansInUptoRow : OpenClaim := { program := "ytflbddfmhjlknaa", sum := "3ae1478caaf9207d52687404b290982c68a94b462e6ed748ca1b3e50d18406fd", func := "loop.example/g01046/laws.FnExactSpansIn", spec := "fnExactSpansIn", unfollowed := true, recurses := true, apart := false, narrowed := true }
def FnExactSpansInUptoSaid : Prop := fnExactSpansInUptoRow.holds Try.pinned (OpenSpec.upto fnExactSpansInSpec)

/-- 'laws.FnExactFreeAt', WHERE WHAT IT READS IS OF BULK AT MOST 1048576: true; the input reads as it did. -/
def fnExactFreeAtUptoRow : OpenClaim := { program := "ytflbddfmhjlknaa", sum := "3ae1478caaf9207d52687404b290982c68a94b462e6ed748ca1b3e50d18406fd", func := "loop.example/g01046/laws.FnExactFreeAt", spec := "fnExactFreeAt", unfollowed := true, recurses := true, apart := false, narrowed := true }
def FnExactFreeAtUptoSaid : Prop := fnExactFreeAtUptoRow.holds Try.pinned (OpenSpec.upto fnExactFreeAtSpec)

/-- 'laws.FnExactBestMoves', WHERE WHAT IT READS IS OF BULK AT MOST 1048576: true; the input reads as it did. -/
def fnExactBestMovesUptoRow : OpenClaim := { program := "ytflbddfmhjlknaa", sum := "3ae1478caaf9207d52687404b290982c68a94b462e6ed748ca1b3e50d18406fd", func := "loop.example/g01046/laws.FnExactBestMoves", spec := "fnExactBestMoves", unfollowed := true, recurses := true, apart := false, narrowed := true }
def FnExactBestMovesUptoSaid : Prop := fnExactBestMovesUptoRow.holds Try.pinned (OpenSpec.upto fnExactBestMovesSpec)

/-- 'laws.FnReachedStations', WHERE WHAT IT READS IS OF BULK AT MOST 1048576: true; the input reads as it did. -/
def fnReachedStationsUptoRow : OpenClaim := { program := "ytflbddfmhjlknaa", sum := "3ae1478caaf9207d52687404b290982c68a94b462e6ed748ca1b3e50d18406fd", func := "loop.example/g01046/laws.FnReachedStations", spec := "fnReachedStations", unfollowed := true, recurses := true, apart := false, narrowed := true }
def FnReachedStationsUptoSaid : Prop := fnReachedStationsUptoRow.holds Try.pinned (OpenSpec.upto fnReachedStationsSpec)

/-- 'laws.FnCritical', WHERE WHAT IT READS IS OF BULK AT MOST 1048576: true; the input reads as it did. -/
def fnCriticalUptoRow : OpenClaim := { program := "ytflbddfmhjlknaa", sum := "3ae1478caaf9207d52687404b290982c68a94b462e6ed748ca1b3e50d18406fd", func := "loop.example/g01046/laws.FnCritical", spec := "fnCritical", unfollowed := true, recurses := true, apart := false, narrowed := true }
def FnCriticalUptoSaid : Prop := fnCriticalUptoRow.holds Try.pinned (OpenSpec.upto fnCriticalSpec)

end Rows
end Go.Proofs.Ytflbddfmhjlknaa
