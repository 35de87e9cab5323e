/-
  No cell of these rows narrows 'for every input' (looked for: loops, veiled, ifaces, maps, wideKeys, modest, calm, conditions, laid).
  DERIVED. THE GIVEN ROWS OF THIS SEAT. 12 by the template 'for every input the law returns true; each argument reads behind the call as it read before'; 0 by the template 'total and deterministic' (their statements: YticgaiboolojkaaTotals.lean).
  GIVEN WITH THE SEED: the statements are not yours to turn. If you find one false, say at which input.
  Laid BY PROGRAM, IN A SANDBOX (cutbox-rows.mjs): the forced cells as the released guide's own fill.sh prints them over the translation ff6b1043fb11ea14… (all of the seat's roots in one cut). By AI agents, Wed Nov 11 2026. No macro, syntax, notation, axiom, sorry.
-/
import Derived.Test.YticgaiboolojkaaChecked
import GoSem.Claim
import GoSem.ClaimJoined
import GoSem.ClaimMapViews
import Derived.JoinedTies
import Derived.KernelRfl
namespace Go.Proofs.Yticgaiboolojkaa
/- THE CELL 'sum', in the pinned program and in every row, IS THE sha256 OF THE DUMP (.gsa) THAT YticgaiboolojkaaProg.lean LOADS. Nothing in Lean hashes anything: it is a label: what it is worth is what the hold of that sum in a sandbox is worth. -/
noncomputable def Try.pinned : Pinned := { name := "yticgaiboolojkaa", sum := "ff6b1043fb11ea143c755d94e0a4687e6c172322e430c94faacb3bd67005b0cd", checked := Try.checked }
namespace Rows
def none {H : Type} : Left H := { results := [], args := [] }

/-- 'laws.FnExactValidWishes': WHATEVER THE INPUT: true; the input reads as it did. -/
def fnExactValidWishesSpec : ChangeSpec := { name := "fnExactValidWishes", fn := fun _ => fun
  | [d1, d2] => { results := [.lit (.bool true)], args := [d1, d2] }
  | _ => none }
def fnExactValidWishesRow : OpenClaim := { program := "yticgaiboolojkaa", sum := "ff6b1043fb11ea143c755d94e0a4687e6c172322e430c94faacb3bd67005b0cd", func := "loop.example/g01046/laws.FnExactValidWishes", spec := "fnExactValidWishes", unfollowed := true, recurses := true, apart := false }
def FnExactValidWishesSaid : Prop := fnExactValidWishesRow.holds Try.pinned (OpenSpec.ofChange fnExactValidWishesSpec)

/-- ITS FALSE NEIGHBOUR: 'it returns false'. Refute it at one input. -/
def fnExactValidWishesWrong : ChangeSpec := { name := "fnExactValidWishes", fn := fun _ => fun
  | [d1, d2] => { results := [.lit (.bool false)], args := [d1, d2] }
  | _ => none }
def FnExactValidWishesWrongFalsely : Prop := fnExactValidWishesRow.holds Try.pinned (OpenSpec.ofChange fnExactValidWishesWrong)

/-- 'laws.FnExactDelayRun': WHATEVER THE INPUT: true; the input reads as it did. -/
def fnExactDelayRunSpec : ChangeSpec := { name := "fnExactDelayRun", fn := fun _ => fun
  | [d1, d2, d3, d4] => { results := [.lit (.bool true)], args := [d1, d2, d3, d4] }
  | _ => none }
def fnExactDelayRunRow : OpenClaim := { program := "yticgaiboolojkaa", sum := "ff6b1043fb11ea143c755d94e0a4687e6c172322e430c94faacb3bd67005b0cd", func := "loop.example/g01046/laws.FnExactDelayRun", spec := "fnExactDelayRun", unfollowed := true, recurses := true, apart := false }
def FnExactDelayRunSaid : Prop := fnExactDelayRunRow.holds Try.pinned (OpenSpec.ofChange fnExactDelayRunSpec)

/-- ITS FALSE NEIGHBOUR: 'it returns false'. Refute it at one input. -/
def fnExactDelayRunWrong : ChangeSpec := { name := "fnExactDelayRun", fn := fun _ => fun
  | [d1, d2, d3, d4] => { results := [.lit (.bool false)], args := [d1, d2, d3, d4] }
  | _ => none }
def FnExactDelayRunWrongFalsely : Prop := fnExactDelayRunRow.holds Try.pinned (OpenSpec.ofChange fnExactDelayRunWrong)

/-- 'laws.FnExactReadyAt': WHATEVER THE INPUT: true; the input reads as it did. -/
def fnExactReadyAtSpec : ChangeSpec := { name := "fnExactReadyAt", fn := fun _ => fun
  | [d1, d2, d3] => { results := [.lit (.bool true)], args := [d1, d2, d3] }
  | _ => none }
def fnExactReadyAtRow : OpenClaim := { program := "yticgaiboolojkaa", sum := "ff6b1043fb11ea143c755d94e0a4687e6c172322e430c94faacb3bd67005b0cd", func := "loop.example/g01046/laws.FnExactReadyAt", spec := "fnExactReadyAt", unfollowed := true, recurses := true, apart := false }
def FnExactReadyAtSaid : Prop := fnExactReadyAtRow.holds Try.pinned (OpenSpec.ofChange fnExactReadyAtSpec)

/-- ITS FALSE NEIGHBOUR: 'it returns false'. Refute it at one input. -/
def fnExactReadyAtWrong : ChangeSpec := { name := "fnExactReadyAt", fn := fun _ => fun
  | [d1, d2, d3] => { results := [.lit (.bool false)], args := [d1, d2, d3] }
  | _ => none }
def FnExactReadyAtWrongFalsely : Prop := fnExactReadyAtRow.holds Try.pinned (OpenSpec.ofChange fnExactReadyAtWrong)

/-- 'laws.FnExactSumOfDelays': WHATEVER THE INPUT: true; the input reads as it did. -/
def fnExactSumOfDelaysSpec : ChangeSpec := { name := "fnExactSumOfDelays", fn := fun _ => fun
  | [d1, d2, d3] => { results := [.lit (.bool true)], args := [d1, d2, d3] }
  | _ => none }
def fnExactSumOfDelaysRow : OpenClaim := { program := "yticgaiboolojkaa", sum := "ff6b1043fb11ea143c755d94e0a4687e6c172322e430c94faacb3bd67005b0cd", func := "loop.example/g01046/laws.FnExactSumOfDelays", spec := "fnExactSumOfDelays", unfollowed := true, recurses := true, apart := false }
def FnExactSumOfDelaysSaid : Prop := fnExactSumOfDelaysRow.holds Try.pinned (OpenSpec.ofChange fnExactSumOfDelaysSpec)

/-- ITS FALSE NEIGHBOUR: 'it returns false'. Refute it at one input. -/
def fnExactSumOfDelaysWrong : ChangeSpec := { name := "fnExactSumOfDelays", fn := fun _ => fun
  | [d1, d2, d3] => { results := [.lit (.bool false)], args := [d1, d2, d3] }
  | _ => none }
def FnExactSumOfDelaysWrongFalsely : Prop := fnExactSumOfDelaysRow.holds Try.pinned (OpenSpec.ofChange fnExactSumOfDelaysWrong)

/-- 'laws.FnExactLastEnd': WHATEVER THE INPUT: true; the input reads as it did. -/
def fnExactLastEndSpec : ChangeSpec := { name := "fnExactLastEnd", fn := fun _ => fun
  | [d1, d2, d3] => { results := [.lit (.bool true)], args := [d1, d2, d3] }
  | _ => none }
def fnExactLastEndRow : OpenClaim := { program := "yticgaiboolojkaa", sum := "ff6b1043fb11ea143c755d94e0a4687e6c172322e430c94faacb3bd67005b0cd", func := "loop.example/g01046/laws.FnExactLastEnd", spec := "fnExactLastEnd", unfollowed := true, recurses := true, apart := false }
def FnExactLastEndSaid : Prop := fnExactLastEndRow.holds Try.pinned (OpenSpec.ofChange fnExactLastEndSpec)

/-- ITS FALSE NEIGHBOUR: 'it returns false'. Refute it at one input. -/
def fnExactLastEndWrong : ChangeSpec := { name := "fnExactLastEnd", fn := fun _ => fun
  | [d1, d2, d3] => { results := [.lit (.bool false)], args := [d1, d2, d3] }
  | _ => none }
def FnExactLastEndWrongFalsely : Prop := fnExactLastEndRow.holds Try.pinned (OpenSpec.ofChange fnExactLastEndWrong)

/-- 'laws.FnExactPlanByOrder': WHATEVER THE INPUT: true; the input reads as it did. -/
def fnExactPlanByOrderSpec : ChangeSpec := { name := "fnExactPlanByOrder", fn := fun _ => fun
  | [d1, d2, d3] => { results := [.lit (.bool true)], args := [d1, d2, d3] }
  | _ => none }
def fnExactPlanByOrderRow : OpenClaim := { program := "yticgaiboolojkaa", sum := "ff6b1043fb11ea143c755d94e0a4687e6c172322e430c94faacb3bd67005b0cd", func := "loop.example/g01046/laws.FnExactPlanByOrder", spec := "fnExactPlanByOrder", unfollowed := true, recurses := true, apart := false }
def FnExactPlanByOrderSaid : Prop := fnExactPlanByOrderRow.holds Try.pinned (OpenSpec.ofChange fnExactPlanByOrderSpec)

/-- ITS FALSE NEIGHBOUR: 'it returns false'. Refute it at one input. -/
def fnExactPlanByOrderWrong : ChangeSpec := { name := "fnExactPlanByOrder", fn := fun _ => fun
  | [d1, d2, d3] => { results := [.lit (.bool false)], args := [d1, d2, d3] }
  | _ => none }
def FnExactPlanByOrderWrongFalsely : Prop := fnExactPlanByOrderRow.holds Try.pinned (OpenSpec.ofChange fnExactPlanByOrderWrong)

/-- 'laws.FnExactDueOrder': WHATEVER THE INPUT: true; the input reads as it did. -/
def fnExactDueOrderSpec : ChangeSpec := { name := "fnExactDueOrder", fn := fun _ => fun
  | [d1, d2] => { results := [.lit (.bool true)], args := [d1, d2] }
  | _ => none }
def fnExactDueOrderRow : OpenClaim := { program := "yticgaiboolojkaa", sum := "ff6b1043fb11ea143c755d94e0a4687e6c172322e430c94faacb3bd67005b0cd", func := "loop.example/g01046/laws.FnExactDueOrder", spec := "fnExactDueOrder", unfollowed := true, recurses := true, apart := false }
def FnExactDueOrderSaid : Prop := fnExactDueOrderRow.holds Try.pinned (OpenSpec.ofChange fnExactDueOrderSpec)

/-- ITS FALSE NEIGHBOUR: 'it returns false'. Refute it at one input. -/
def fnExactDueOrderWrong : ChangeSpec := { name := "fnExactDueOrder", fn := fun _ => fun
  | [d1, d2] => { results := [.lit (.bool false)], args := [d1, d2] }
  | _ => none }
def FnExactDueOrderWrongFalsely : Prop := fnExactDueOrderRow.holds Try.pinned (OpenSpec.ofChange fnExactDueOrderWrong)

/-- 'laws.FnExactReadyOrder': WHATEVER THE INPUT: true; the input reads as it did. -/
def fnExactReadyOrderSpec : ChangeSpec := { name := "fnExactReadyOrder", fn := fun _ => fun
  | [d1, d2] => { results := [.lit (.bool true)], args := [d1, d2] }
  | _ => none }
def fnExactReadyOrderRow : OpenClaim := { program := "yticgaiboolojkaa", sum := "ff6b1043fb11ea143c755d94e0a4687e6c172322e430c94faacb3bd67005b0cd", func := "loop.example/g01046/laws.FnExactReadyOrder", spec := "fnExactReadyOrder", unfollowed := true, recurses := true, apart := false }
def FnExactReadyOrderSaid : Prop := fnExactReadyOrderRow.holds Try.pinned (OpenSpec.ofChange fnExactReadyOrderSpec)

/-- ITS FALSE NEIGHBOUR: 'it returns false'. Refute it at one input. -/
def fnExactReadyOrderWrong : ChangeSpec := { name := "fnExactReadyOrder", fn := fun _ => fun
  | [d1, d2] => { results := [.lit (.bool false)], args := [d1, d2] }
  | _ => none }
def FnExactReadyOrderWrongFalsely : Prop := fnExactReadyOrderRow.holds Try.pinned (OpenSpec.ofChange fnExactReadyOrderWrong)

/-- 'laws.FnExactLateWishes': WHATEVER THE INPUT: true; the input reads as it did. -/
def fnExactLateWishesSpec : ChangeSpec := { name := "fnExactLateWishes", fn := fun _ => fun
  | [d1, d2, d3] => { results := [.lit (.bool true)], args := [d1, d2, d3] }
  | _ => none }
def fnExactLateWishesRow : OpenClaim := { program := "yticgaiboolojkaa", sum := "ff6b1043fb11ea143c755d94e0a4687e6c172322e430c94faacb3bd67005b0cd", func := "loop.example/g01046/laws.FnExactLateWishes", spec := "fnExactLateWishes", unfollowed := true, recurses := true, apart := false }
def FnExactLateWishesSaid : Prop := fnExactLateWishesRow.holds Try.pinned (OpenSpec.ofChange fnExactLateWishesSpec)

/-- ITS FALSE NEIGHBOUR: 'it returns false'. Refute it at one input. -/
def fnExactLateWishesWrong : ChangeSpec := { name := "fnExactLateWishes", fn := fun _ => fun
  | [d1, d2, d3] => { results := [.lit (.bool false)], args := [d1, d2, d3] }
  | _ => none }
def FnExactLateWishesWrongFalsely : Prop := fnExactLateWishesRow.holds Try.pinned (OpenSpec.ofChange fnExactLateWishesWrong)

/-- 'laws.FnExactBestOrder': WHATEVER THE INPUT: true; the input reads as it did. -/
def fnExactBestOrderSpec : ChangeSpec := { name := "fnExactBestOrder", fn := fun _ => fun
  | [d1, d2] => { results := [.lit (.bool true)], args := [d1, d2] }
  | _ => none }
def fnExactBestOrderRow : OpenClaim := { program := "yticgaiboolojkaa", sum := "ff6b1043fb11ea143c755d94e0a4687e6c172322e430c94faacb3bd67005b0cd", func := "loop.example/g01046/laws.FnExactBestOrder", spec := "fnExactBestOrder", unfollowed := true, recurses := true, apart := false }
def FnExactBestOrderSaid : Prop := fnExactBestOrderRow.holds Try.pinned (OpenSpec.ofChange fnExactBestOrderSpec)

/-- ITS FALSE NEIGHBOUR: 'it returns false'. Refute it at one input. -/
def fnExactBestOrderWrong : ChangeSpec := { name := "fnExactBestOrder", fn := fun _ => fun
  | [d1, d2] => { results := [.lit (.bool false)], args := [d1, d2] }
  | _ => none }
def FnExactBestOrderWrongFalsely : Prop := fnExactBestOrderRow.holds Try.pinned (OpenSpec.ofChange fnExactBestOrderWrong)

/-- 'laws.FnExactFewestLate': WHATEVER THE INPUT: true; the input reads as it did. -/
def fnExactFewestLateSpec : ChangeSpec := { name := "fnExactFewestLate", fn := fun _ => fun
  | [d1, d2] => { results := [.lit (.bool true)], args := [d1, d2] }
  | _ => none }
def fnExactFewestLateRow : OpenClaim := { program := "yticgaiboolojkaa", sum := "ff6b1043fb11ea143c755d94e0a4687e6c172322e430c94faacb3bd67005b0cd", func := "loop.example/g01046/laws.FnExactFewestLate", spec := "fnExactFewestLate", unfollowed := true, recurses := true, apart := false }
def FnExactFewestLateSaid : Prop := fnExactFewestLateRow.holds Try.pinned (OpenSpec.ofChange fnExactFewestLateSpec)

/-- ITS FALSE NEIGHBOUR: 'it returns false'. Refute it at one input. -/
def fnExactFewestLateWrong : ChangeSpec := { name := "fnExactFewestLate", fn := fun _ => fun
  | [d1, d2] => { results := [.lit (.bool false)], args := [d1, d2] }
  | _ => none }
def FnExactFewestLateWrongFalsely : Prop := fnExactFewestLateRow.holds Try.pinned (OpenSpec.ofChange fnExactFewestLateWrong)

/-- 'laws.FnExactRunsOfPlan': WHATEVER THE INPUT: true; the input reads as it did. -/
def fnExactRunsOfPlanSpec : ChangeSpec := { name := "fnExactRunsOfPlan", fn := fun _ => fun
  | [d1, d2, d3] => { results := [.lit (.bool true)], args := [d1, d2, d3] }
  | _ => none }
def fnExactRunsOfPlanRow : OpenClaim := { program := "yticgaiboolojkaa", sum := "ff6b1043fb11ea143c755d94e0a4687e6c172322e430c94faacb3bd67005b0cd", func := "loop.example/g01046/laws.FnExactRunsOfPlan", spec := "fnExactRunsOfPlan", unfollowed := true, recurses := true, apart := false }
def FnExactRunsOfPlanSaid : Prop := fnExactRunsOfPlanRow.holds Try.pinned (OpenSpec.ofChange fnExactRunsOfPlanSpec)

/-- ITS FALSE NEIGHBOUR: 'it returns false'. Refute it at one input. -/
def fnExactRunsOfPlanWrong : ChangeSpec := { name := "fnExactRunsOfPlan", fn := fun _ => fun
  | [d1, d2, d3] => { results := [.lit (.bool false)], args := [d1, d2, d3] }
  | _ => none }
def FnExactRunsOfPlanWrongFalsely : Prop := fnExactRunsOfPlanRow.holds Try.pinned (OpenSpec.ofChange fnExactRunsOfPlanWrong)

/- THE SECOND FORM. 'bulk': how many values and letters a reading holds, each counted each time it is reached (what is shared counts as often as it is met; a slice's spare places count too). A statement '..UptoSaid' is the law's where the arguments, and the package variables that the reading takes, are together of bulk at most 1048576: NARROWER than '..Said'. Prove '..Said' where nothing that the law and all that it calls make is longer than what came in: it says more and counts as full. Else prove '..UptoSaid'. A law counts once. -/
mutual
def uptoBulk {H : Type} : DataW H → Nat
  | .lit (.string bytes) => bytes.length + 1
  | .lit _ => 1
  | .nil => 1
  | .ptr d => uptoBulk d + 1
  | .slice elems spare => uptoBulkAll elems + uptoBulkAll spare + 1
  | .agg parts => uptoBulkAll parts + 1
  | .iface _ d => uptoBulk d + 1
  | .map entries => uptoBulkEntries entries + 1
  | .held _ => 1
def uptoBulkAll {H : Type} : List (DataW H) → Nat
  | [] => 0
  | d :: r => uptoBulk d + uptoBulkAll r
def uptoBulkEntries {H : Type} : List (Lit × DataW H) → Nat
  | [] => 0
  | x :: r => uptoBulkEntry x + uptoBulkEntries r
def uptoBulkEntry {H : Type} : Lit × DataW H → Nat
  | (.string bytes, d) => bytes.length + uptoBulk d + 1
  | (_, d) => uptoBulk d + 1
 end
def uptoSmall : (H : Type) → List (DataW H) → Bool := fun _ ds => decide (uptoBulkAll ds ≤ 1048576)
def OpenSpec.upto (s : _root_.Go.ChangeSpec) : _root_.Go.OpenSpec := { _root_.Go.OpenSpec.ofChange s with cond := some uptoSmall }

/-- 'laws.FnExactValidWishes', WHERE WHAT IT READS IS OF BULK AT MOST 1048576: true; the input reads as it did. -/
def fnExactValidWishesUptoRow : OpenClaim := { program := "yticgaiboolojkaa", sum := "ff6b1043fb11ea143c755d94e0a4687e6c172322e430c94faacb3bd67005b0cd", func := "loop.example/g01046/laws.FnExactValidWishes", spec := "fnExactValidWishes", unfollowed := true, recurses := true, apart := false, narrowed := true }
def FnExactValidWishesUptoSaid : Prop := fnExactValidWishesUptoRow.holds Try.pinned (OpenSpec.upto fnExactValidWishesSpec)

/-- 'laws.FnExactDelayRun', WHERE WHAT IT READS IS OF BULK AT MOST 1048576: true; the input reads as it did. -/
def fnExactDelayRunUptoRow : OpenClaim := { program := "yticgaiboolojkaa", sum := "ff6b1043fb11ea143c755d94e0a4687e6c172322e430c94faacb3bd67005b0cd", func := "loop.example/g01046/laws.FnExactDelayRun", spec := "fnExactDelayRun", unfollowed := true, recurses := true, apart := false, narrowed := true }
def FnExactDelayRunUptoSaid : Prop := fnExactDelayRunUptoRow.holds Try.pinned (OpenSpec.upto fnExactDelayRunSpec)

/-- 'laws.FnExactReadyAt', WHERE WHAT IT READS IS OF BULK AT MOST 1048576: true; the input reads as it did. -/
def fnExactReadyAtUptoRow : OpenClaim := { program := "yticgaiboolojkaa", sum := "ff6b1043fb11ea143c755d94e0a4687e6c172322e430c94faacb3bd67005b0cd", func := "loop.example/g01046/laws.FnExactReadyAt", spec := "fnExactReadyAt", unfollowed := true, recurses := true, apart := false, narrowed := true }
def FnExactReadyAtUptoSaid : Prop := fnExactReadyAtUptoRow.holds Try.pinned (OpenSpec.upto fnExactReadyAtSpec)

/-- 'laws.FnExactSumOfDelays', WHERE WHAT IT READS IS OF BULK AT MOST 1048576: true; the input reads as it did. -/
def fnExactSumOfDelaysUptoRow : OpenClaim := { program := "yticgaiboolojkaa", sum := "ff6b1043fb11ea143c755d94e0a4687e6c172322e430c94faacb3bd67005b0cd", func := "loop.example/g01046/laws.FnExactSumOfDelays", spec := "fnExactSumOfDelays", unfollowed := true, recurses := true, apart := false, narrowed := true }
def FnExactSumOfDelaysUptoSaid : Prop := fnExactSumOfDelaysUptoRow.holds Try.pinned (OpenSpec.upto fnExactSumOfDelaysSpec)

/-- 'laws.FnExactLastEnd', WHERE WHAT IT READS IS OF BULK AT MOST 1048576: true; the input reads as it did. -/
def fnExactLastEndUptoRow : OpenClaim := { program := "yticgaiboolojkaa", sum := "ff6b1043fb11ea143c755d94e0a4687e6c172322e430c94faacb3bd67005b0cd", func := "loop.example/g01046/laws.FnExactLastEnd", spec := "fnExactLastEnd", unfollowed := true, recurses := true, apart := false, narrowed := true }
def FnExactLastEndUptoSaid : Prop := fnExactLastEndUptoRow.holds Try.pinned (OpenSpec.upto fnExactLastEndSpec)

/-- 'laws.FnExactPlanByOrder', WHERE WHAT IT READS IS OF BULK AT MOST 1048576: true; the input reads as it did. -/
def fnExactPlanByOrderUptoRow : OpenClaim := { program := "yticgaiboolojkaa", sum := "ff6b1043fb11ea143c755d94e0a4687e6c172322e430c94faacb3bd67005b0cd", func := "loop.example/g01046/laws.FnExactPlanByOrder", spec := "fnExactPlanByOrder", unfollowed := true, recurses := true, apart := false, narrowed := true }
def FnExactPlanByOrderUptoSaid : Prop := fnExactPlanByOrderUptoRow.holds Try.pinned (OpenSpec.upto fnExactPlanByOrderSpec)

/-- 'laws.FnExactDueOrder', WHERE WHAT IT READS IS OF BULK AT MOST 1048576: true; the input reads as it did. -/
def fnExactDueOrderUptoRow : OpenClaim := { program := "yticgaiboolojkaa", sum := "ff6b1043fb11ea143c755d94e0a4687e6c172322e430c94faacb3bd67005b0cd", func := "loop.example/g01046/laws.FnExactDueOrder", spec := "fnExactDueOrder", unfollowed := true, recurses := true, apart := false, narrowed := true }
def FnExactDueOrderUptoSaid : Prop := fnExactDueOrderUptoRow.holds Try.pinned (OpenSpec.upto fnExactDueOrderSpec)

/-- 'laws.FnExactReadyOrder', WHERE WHAT IT READS IS OF BULK AT MOST 1048576: true; the input reads as it did. -/
def fnExactReadyOrderUptoRow : OpenClaim := { program := "yticgaiboolojkaa", sum := "ff6b1043fb11ea143c755d94e0a4687e6c172322e430c94faacb3bd67005b0cd", func := "loop.example/g01046/laws.FnExactReadyOrder", spec := "fnExactReadyOrder", unfollowed := true, recurses := true, apart := false, narrowed := true }
def FnExactReadyOrderUptoSaid : Prop := fnExactReadyOrderUptoRow.holds Try.pinned (OpenSpec.upto fnExactReadyOrderSpec)

/-- 'laws.FnExactLateWishes', WHERE WHAT IT READS IS OF BULK AT MOST 1048576: true; the input reads as it did. -/
def fnExactLateWishesUptoRow : OpenClaim := { program := "yticgaiboolojkaa", sum := "ff6b1043fb11ea143c755d94e0a4687e6c172322e430c94faacb3bd67005b0cd", func := "loop.example/g01046/laws.FnExactLateWishes", spec := "fnExactLateWishes", unfollowed := true, recurses := true, apart := false, narrowed := true }
def FnExactLateWishesUptoSaid : Prop := fnExactLateWishesUptoRow.holds Try.pinned (OpenSpec.upto fnExactLateWishesSpec)

/-- 'laws.FnExactBestOrder', WHERE WHAT IT READS IS OF BULK AT MOST 1048576: true; the input reads as it did. -/
def fnExactBestOrderUptoRow : OpenClaim := { program := "yticgaiboolojkaa", sum := "ff6b1043fb11ea143c755d94e0a4687e6c172322e430c94faacb3bd67005b0cd", func := "loop.example/g01046/laws.FnExactBestOrder", spec := "fnExactBestOrder", unfollowed := true, recurses := true, apart := false, narrowed := true }
def FnExactBestOrderUptoSaid : Prop := fnExactBestOrderUptoRow.holds Try.pinned (OpenSpec.upto fnExactBestOrderSpec)

/-- 'laws.FnExactFewestLate', WHERE WHAT IT READS IS OF BULK AT MOST 1048576: true; the input reads as it did. -/
def fnExactFewestLateUptoRow : OpenClaim := { program := "yticgaiboolojkaa", sum := "ff6b1043fb11ea143c755d94e0a4687e6c172322e430c94faacb3bd67005b0cd", func := "loop.example/g01046/laws.FnExactFewestLate", spec := "fnExactFewestLate", unfollowed := true, recurses := true, apart := false, narrowed := true }
def FnExactFewestLateUptoSaid : Prop := fnExactFewestLateUptoRow.holds Try.pinned (OpenSpec.upto fnExactFewestLateSpec)

/-- 'laws.FnExactRunsOfPlan', WHERE WHAT IT READS IS OF BULK AT MOST 1048576: true; the input reads as it did. -/
def fnExactRunsOfPlanUptoRow : OpenClaim := { program := "yticgaiboolojkaa", sum := "ff6b1043fb11ea143c755d94e0a4687e6c172322e430c94faacb3bd67005b0cd", func := "loop.example/g01046/laws.FnExactRunsOfPlan", spec := "fnExactRunsOfPlan", unfollowed := true, recurses := true, apart := false, narrowed := true }
def FnExactRunsOfPlanUptoSaid : Prop := fnExactRunsOfPlanUptoRow.holds Try.pinned (OpenSpec.upto fnExactRunsOfPlanSpec)

end Rows
end Go.Proofs.Yticgaiboolojkaa
