/-
  No cell of these rows narrows 'for every input' (looked for: loops, veiled, ifaces, maps, wideKeys, modest, calm, conditions, laid).
  DERIVED. THE GIVEN ROWS OF THIS SEAT. 8 by the template 'for every input the law returns true; each argument reads behind the call as it read before'; 0 by the template 'total and deterministic' (their statements: YtfhociekhffjhaaTotals.lean).
  GIVEN WITH THE SEED: the statements are not yours to turn. If you find one false, say at which input.
  Laid BY PROGRAM, IN A SANDBOX (cutbox-rows.mjs): the forced cells as the released guide's own fill.sh prints them over the translation 2fb7ace2b6e7e62c… (all of the seat's roots in one cut). By AI agents, Wed Nov 11 2026. No macro, syntax, notation, axiom, sorry.
-/
import Derived.Test.YtfhociekhffjhaaChecked
import GoSem.Claim
import GoSem.ClaimJoined
import GoSem.ClaimMapViews
import Derived.JoinedTies
import Derived.KernelRfl
namespace Go.Proofs.Ytfhociekhffjhaa
/- THE CELL 'sum', in the pinned program and in every row, IS THE sha256 OF THE DUMP (.gsa) THAT YtfhociekhffjhaaProg.lean LOADS. Nothing in Lean hashes anything: it is a label: what it is worth is what the hold of that sum in a sandbox is worth. -/
noncomputable def Try.pinned : Pinned := { name := "ytfhociekhffjhaa", sum := "2fb7ace2b6e7e62c3ae78e92de4629583d9a91b468f996cf299925badcb6627f", checked := Try.checked }
namespace Rows
def none {H : Type} : Left H := { results := [], args := [] }

/-- 'laws.FnMeetings': WHATEVER THE INPUT: true; the input reads as it did. -/
def fnMeetingsSpec : ChangeSpec := { name := "fnMeetings", fn := fun _ => fun
  | [d1, d2] => { results := [.lit (.bool true)], args := [d1, d2] }
  | _ => none }
def fnMeetingsRow : OpenClaim := { program := "ytfhociekhffjhaa", sum := "2fb7ace2b6e7e62c3ae78e92de4629583d9a91b468f996cf299925badcb6627f", func := "loop.example/g01046/laws.FnMeetings", spec := "fnMeetings", unfollowed := true, recurses := true, apart := false }
def FnMeetingsSaid : Prop := fnMeetingsRow.holds Try.pinned (OpenSpec.ofChange fnMeetingsSpec)

/-- ITS FALSE NEIGHBOUR: 'it returns false'. Refute it at one input. -/
def fnMeetingsWrong : ChangeSpec := { name := "fnMeetings", fn := fun _ => fun
  | [d1, d2] => { results := [.lit (.bool false)], args := [d1, d2] }
  | _ => none }
def FnMeetingsWrongFalsely : Prop := fnMeetingsRow.holds Try.pinned (OpenSpec.ofChange fnMeetingsWrong)

/-- 'laws.FnEarliest': WHATEVER THE INPUT: true; the input reads as it did. -/
def fnEarliestSpec : ChangeSpec := { name := "fnEarliest", fn := fun _ => fun
  | [d1, d2] => { results := [.lit (.bool true)], args := [d1, d2] }
  | _ => none }
def fnEarliestRow : OpenClaim := { program := "ytfhociekhffjhaa", sum := "2fb7ace2b6e7e62c3ae78e92de4629583d9a91b468f996cf299925badcb6627f", func := "loop.example/g01046/laws.FnEarliest", spec := "fnEarliest", unfollowed := true, recurses := true, apart := false }
def FnEarliestSaid : Prop := fnEarliestRow.holds Try.pinned (OpenSpec.ofChange fnEarliestSpec)

/-- ITS FALSE NEIGHBOUR: 'it returns false'. Refute it at one input. -/
def fnEarliestWrong : ChangeSpec := { name := "fnEarliest", fn := fun _ => fun
  | [d1, d2] => { results := [.lit (.bool false)], args := [d1, d2] }
  | _ => none }
def FnEarliestWrongFalsely : Prop := fnEarliestRow.holds Try.pinned (OpenSpec.ofChange fnEarliestWrong)

/-- 'laws.FnOrders': WHATEVER THE INPUT: true; the input reads as it did. -/
def fnOrdersSpec : ChangeSpec := { name := "fnOrders", fn := fun _ => fun
  | [d1, d2] => { results := [.lit (.bool true)], args := [d1, d2] }
  | _ => none }
def fnOrdersRow : OpenClaim := { program := "ytfhociekhffjhaa", sum := "2fb7ace2b6e7e62c3ae78e92de4629583d9a91b468f996cf299925badcb6627f", func := "loop.example/g01046/laws.FnOrders", spec := "fnOrders", unfollowed := true, recurses := true, apart := false }
def FnOrdersSaid : Prop := fnOrdersRow.holds Try.pinned (OpenSpec.ofChange fnOrdersSpec)

/-- ITS FALSE NEIGHBOUR: 'it returns false'. Refute it at one input. -/
def fnOrdersWrong : ChangeSpec := { name := "fnOrders", fn := fun _ => fun
  | [d1, d2] => { results := [.lit (.bool false)], args := [d1, d2] }
  | _ => none }
def FnOrdersWrongFalsely : Prop := fnOrdersRow.holds Try.pinned (OpenSpec.ofChange fnOrdersWrong)

/-- 'laws.FnSeals': WHATEVER THE INPUT: true; the input reads as it did. -/
def fnSealsSpec : ChangeSpec := { name := "fnSeals", fn := fun _ => fun
  | [d] => { results := [.lit (.bool true)], args := [d] }
  | _ => none }
def fnSealsRow : OpenClaim := { program := "ytfhociekhffjhaa", sum := "2fb7ace2b6e7e62c3ae78e92de4629583d9a91b468f996cf299925badcb6627f", func := "loop.example/g01046/laws.FnSeals", spec := "fnSeals", unfollowed := true, recurses := true, apart := false }
def FnSealsSaid : Prop := fnSealsRow.holds Try.pinned (OpenSpec.ofChange fnSealsSpec)

/-- ITS FALSE NEIGHBOUR: 'it returns false'. Refute it at one input. -/
def fnSealsWrong : ChangeSpec := { name := "fnSeals", fn := fun _ => fun
  | [d] => { results := [.lit (.bool false)], args := [d] }
  | _ => none }
def FnSealsWrongFalsely : Prop := fnSealsRow.holds Try.pinned (OpenSpec.ofChange fnSealsWrong)

/-- 'laws.FnPressed': WHATEVER THE INPUT: true; the input reads as it did. -/
def fnPressedSpec : ChangeSpec := { name := "fnPressed", fn := fun _ => fun
  | [d] => { results := [.lit (.bool true)], args := [d] }
  | _ => none }
def fnPressedRow : OpenClaim := { program := "ytfhociekhffjhaa", sum := "2fb7ace2b6e7e62c3ae78e92de4629583d9a91b468f996cf299925badcb6627f", func := "loop.example/g01046/laws.FnPressed", spec := "fnPressed", unfollowed := true, recurses := true, apart := false }
def FnPressedSaid : Prop := fnPressedRow.holds Try.pinned (OpenSpec.ofChange fnPressedSpec)

/-- ITS FALSE NEIGHBOUR: 'it returns false'. Refute it at one input. -/
def fnPressedWrong : ChangeSpec := { name := "fnPressed", fn := fun _ => fun
  | [d] => { results := [.lit (.bool false)], args := [d] }
  | _ => none }
def FnPressedWrongFalsely : Prop := fnPressedRow.holds Try.pinned (OpenSpec.ofChange fnPressedWrong)

/-- 'laws.FnPlans': WHATEVER THE INPUT: true; the input reads as it did. -/
def fnPlansSpec : ChangeSpec := { name := "fnPlans", fn := fun _ => fun
  | [d1, d2] => { results := [.lit (.bool true)], args := [d1, d2] }
  | _ => none }
def fnPlansRow : OpenClaim := { program := "ytfhociekhffjhaa", sum := "2fb7ace2b6e7e62c3ae78e92de4629583d9a91b468f996cf299925badcb6627f", func := "loop.example/g01046/laws.FnPlans", spec := "fnPlans", unfollowed := true, recurses := true, apart := false }
def FnPlansSaid : Prop := fnPlansRow.holds Try.pinned (OpenSpec.ofChange fnPlansSpec)

/-- ITS FALSE NEIGHBOUR: 'it returns false'. Refute it at one input. -/
def fnPlansWrong : ChangeSpec := { name := "fnPlans", fn := fun _ => fun
  | [d1, d2] => { results := [.lit (.bool false)], args := [d1, d2] }
  | _ => none }
def FnPlansWrongFalsely : Prop := fnPlansRow.holds Try.pinned (OpenSpec.ofChange fnPlansWrong)

/-- 'laws.FnTubeUse': WHATEVER THE INPUT: true; the input reads as it did. -/
def fnTubeUseSpec : ChangeSpec := { name := "fnTubeUse", fn := fun _ => fun
  | [d1, d2] => { results := [.lit (.bool true)], args := [d1, d2] }
  | _ => none }
def fnTubeUseRow : OpenClaim := { program := "ytfhociekhffjhaa", sum := "2fb7ace2b6e7e62c3ae78e92de4629583d9a91b468f996cf299925badcb6627f", func := "loop.example/g01046/laws.FnTubeUse", spec := "fnTubeUse", unfollowed := true, recurses := true, apart := false }
def FnTubeUseSaid : Prop := fnTubeUseRow.holds Try.pinned (OpenSpec.ofChange fnTubeUseSpec)

/-- ITS FALSE NEIGHBOUR: 'it returns false'. Refute it at one input. -/
def fnTubeUseWrong : ChangeSpec := { name := "fnTubeUse", fn := fun _ => fun
  | [d1, d2] => { results := [.lit (.bool false)], args := [d1, d2] }
  | _ => none }
def FnTubeUseWrongFalsely : Prop := fnTubeUseRow.holds Try.pinned (OpenSpec.ofChange fnTubeUseWrong)

/-- 'laws.FnMovesBack': WHATEVER THE INPUT: true; the input reads as it did. -/
def fnMovesBackSpec : ChangeSpec := { name := "fnMovesBack", fn := fun _ => fun
  | [d] => { results := [.lit (.bool true)], args := [d] }
  | _ => none }
def fnMovesBackRow : OpenClaim := { program := "ytfhociekhffjhaa", sum := "2fb7ace2b6e7e62c3ae78e92de4629583d9a91b468f996cf299925badcb6627f", func := "loop.example/g01046/laws.FnMovesBack", spec := "fnMovesBack", unfollowed := true, recurses := true, apart := false }
def FnMovesBackSaid : Prop := fnMovesBackRow.holds Try.pinned (OpenSpec.ofChange fnMovesBackSpec)

/-- ITS FALSE NEIGHBOUR: 'it returns false'. Refute it at one input. -/
def fnMovesBackWrong : ChangeSpec := { name := "fnMovesBack", fn := fun _ => fun
  | [d] => { results := [.lit (.bool false)], args := [d] }
  | _ => none }
def FnMovesBackWrongFalsely : Prop := fnMovesBackRow.holds Try.pinned (OpenSpec.ofChange fnMovesBackWrong)

/- THE SECOND FORM. 'bulk': how many values and letters a reading holds, each counted each time it is reached (what is shared counts as often as it is met; a slice's spare places count too). A statement '..UptoSaid' is the law's where the arguments, and the package variables that the reading takes, are together of bulk at most 1048576: NARROWER than '..Said'. Prove '..Said' where nothing that the law and all that it calls make is longer than what came in: it says more and counts as full. Else prove '..UptoSaid'. A law counts once. -/
mutual
def uptoBulk {H : Type} : DataW H → Nat
  | .lit (.string bytes) => bytes.length + 1
  | .lit _ => 1
  | .nil => 1
  | .ptr d => uptoBulk d + 1
  | .slice elems spare => uptoBulkAll elems + uptoBulkAll spare + 1
  | .agg parts => uptoBulkAll parts + 1
  | .iface _ d => uptoBulk d + 1
  | .map entries => uptoBulkEntries entries + 1
  | .held _ => 1
def uptoBulkAll {H : Type} : List (DataW H) → Nat
  | [] => 0
  | d :: r => uptoBulk d + uptoBulkAll r
def uptoBulkEntries {H : Type} : List (Lit × DataW H) → Nat
  | [] => 0
  | x :: r => uptoBulkEntry x + uptoBulkEntries r
def uptoBulkEntry {H : Type} : Lit × DataW H → Nat
  | (.string bytes, d) => bytes.length + uptoBulk d + 1
  | (_, d) => uptoBulk d + 1
 end
def uptoSmall : (H : Type) → List (DataW H) → Bool := fun _ ds => decide (uptoBulkAll ds ≤ 1048576)
def OpenSpec.upto (s : _root_.Go.ChangeSpec) : _root_.Go.OpenSpec := { _root_.Go.OpenSpec.ofChange s with cond := some uptoSmall }

/-- 'laws.FnMeetings', WHERE WHAT IT READS IS OF BULK AT MOST 1048576: true; the input reads as it did. -/
def fnMeetingsUptoRow : OpenClaim := { program := "ytfhociekhffjhaa", sum := "2fb7ace2b6e7e62c3ae78e92de4629583d9a91b468f996cf299925badcb6627f", func := "loop.example/g01046/laws.FnMeetings", spec := "fnMeetings", unfollowed := true, recurses := true, apart := false, narrowed := true }
def FnMeetingsUptoSaid : Prop := fnMeetingsUptoRow.holds Try.pinned (OpenSpec.upto fnMeetingsSpec)

/-- 'laws.FnEarliest', WHERE WHAT IT READS IS OF BULK AT MOST 1048576: true; the input reads as it did. -/
def fnEarliestUptoRow : OpenClaim := { program := "ytfhociekhffjhaa", sum := "2fb7ace2b6e7e62c3ae78e92de4629583d9a91b468f996cf299925badcb6627f", func := "loop.example/g01046/laws.FnEarliest", spec := "fnEarliest", unfollowed := true, recurses := true, apart := false, narrowed := true }
def FnEarliestUptoSaid : Prop := fnEarliestUptoRow.holds Try.pinned (OpenSpec.upto fnEarliestSpec)

/-- 'laws.FnOrders', WHERE WHAT IT READS IS OF BULK AT MOST 1048576: true; the input reads as it did. -/
def fnOrdersUptoRow : OpenClaim := { program := "ytfhociekhffjhaa", sum := "2fb7ace2b6e7e62c3ae78e92de4629583d9a91b468f996cf299925badcb6627f", func := "loop.example/g01046/laws.FnOrders", spec := "fnOrders", unfollowed := true, recurses := true, apart := false, narrowed := true }
def FnOrdersUptoSaid : Prop := fnOrdersUptoRow.holds Try.pinned (OpenSpec.upto fnOrdersSpec)

/-- 'laws.FnSeals', WHERE WHAT IT READS IS OF BULK AT MOST 1048576: true; the input reads as it did. -/
def fnSealsUptoRow : OpenClaim := { program := "ytfhociekhffjhaa", sum := "2fb7ace2b6e7e62c3ae78e92de4629583d9a91b468f996cf299925badcb6627f", func := "loop.example/g01046/laws.FnSeals", spec := "fnSeals", unfollowed := true, recurses := true, apart := false, narrowed := true }
def FnSealsUptoSaid : Prop := fnSealsUptoRow.holds Try.pinned (OpenSpec.upto fnSealsSpec)

/-- 'laws.FnPressed', WHERE WHAT IT READS IS OF BULK AT MOST 1048576: true; the input reads as it did. -/
def fnPressedUptoRow : OpenClaim := { program := "ytfhociekhffjhaa", sum := "2fb7ace2b6e7e62c3ae78e92de4629583d9a91b468f996cf299925badcb6627f", func := "loop.example/g01046/laws.FnPressed", spec := "fnPressed", unfollowed := true, recurses := true, apart := false, narrowed := true }
def FnPressedUptoSaid : Prop := fnPressedUptoRow.holds Try.pinned (OpenSpec.upto fnPressedSpec)

/-- 'laws.FnPlans', WHERE WHAT IT READS IS OF BULK AT MOST 1048576: true; the input reads as it did. -/
def fnPlansUptoRow : OpenClaim := { program := "ytfhociekhffjhaa", sum := "2fb7ace2b6e7e62c3ae78e92de4629583d9a91b468f996cf299925badcb6627f", func := "loop.example/g01046/laws.FnPlans", spec := "fnPlans", unfollowed := true, recurses := true, apart := false, narrowed := true }
def FnPlansUptoSaid : Prop := fnPlansUptoRow.holds Try.pinned (OpenSpec.upto fnPlansSpec)

/-- 'laws.FnTubeUse', WHERE WHAT IT READS IS OF BULK AT MOST 1048576: true; the input reads as it did. -/
def fnTubeUseUptoRow : OpenClaim := { program := "ytfhociekhffjhaa", sum := "2fb7ace2b6e7e62c3ae78e92de4629583d9a91b468f996cf299925badcb6627f", func := "loop.example/g01046/laws.FnTubeUse", spec := "fnTubeUse", unfollowed := true, recurses := true, apart := false, narrowed := true }
def FnTubeUseUptoSaid : Prop := fnTubeUseUptoRow.holds Try.pinned (OpenSpec.upto fnTubeUseSpec)

/-- 'laws.FnMovesBack', WHERE WHAT IT READS IS OF BULK AT MOST 1048576: true; the input reads as it did. -/
def fnMovesBackUptoRow : OpenClaim := { program := "ytfhociekhffjhaa", sum := "2fb7ace2b6e7e62c3ae78e92de4629583d9a91b468f996cf299925badcb6627f", func := "loop.example/g01046/laws.FnMovesBack", spec := "fnMovesBack", unfollowed := true, recurses := true, apart := false, narrowed := true }
def FnMovesBackUptoSaid : Prop := fnMovesBackUptoRow.holds Try.pinned (OpenSpec.upto fnMovesBackSpec)

end Rows
end Go.Proofs.Ytfhociekhffjhaa
