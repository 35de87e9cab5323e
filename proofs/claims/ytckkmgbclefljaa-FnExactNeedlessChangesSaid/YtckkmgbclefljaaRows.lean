/-
  No cell of these rows narrows 'for every input' (looked for: loops, veiled, ifaces, maps, wideKeys, modest, calm, conditions, laid).
  DERIVED. THE GIVEN ROWS OF THIS SEAT. 11 by the template 'for every input the law returns true; each argument reads behind the call as it read before'; 0 by the template 'total and deterministic' (their statements: YtckkmgbclefljaaTotals.lean).
  GIVEN WITH THE SEED: the statements are not yours to turn. If you find one false, say at which input.
  Laid BY PROGRAM, IN A SANDBOX (cutbox-rows.mjs): the forced cells as the released guide's own fill.sh prints them over the translation 4e60f06c225e2fcd… (all of the seat's roots in one cut). By AI agents, Wed Nov 11 2026. No macro, syntax, notation, axiom, sorry.
-/
import Derived.Test.YtckkmgbclefljaaChecked
import GoSem.Claim
import GoSem.ClaimJoined
import GoSem.ClaimMapViews
import Derived.JoinedTies
import Derived.KernelRfl
namespace Go.Proofs.Ytckkmgbclefljaa
/- THE CELL 'sum', in the pinned program and in every row, IS THE sha256 OF THE DUMP (.gsa) THAT YtckkmgbclefljaaProg.lean LOADS. Nothing in Lean hashes anything: it is a label: what it is worth is what the hold of that sum in a sandbox is worth. -/
noncomputable def Try.pinned : Pinned := { name := "ytckkmgbclefljaa", sum := "4e60f06c225e2fcdfff329cc6be4b0808c8ae7e8c1fef8ba1104886d6432f9f8", checked := Try.checked }
namespace Rows
def none {H : Type} : Left H := { results := [], args := [] }

/-- 'laws.FnExactSameGuests': WHATEVER THE INPUT: true; the input reads as it did. -/
def fnExactSameGuestsSpec : ChangeSpec := { name := "fnExactSameGuests", fn := fun _ => fun
  | [d1, d2] => { results := [.lit (.bool true)], args := [d1, d2] }
  | _ => none }
def fnExactSameGuestsRow : OpenClaim := { program := "ytckkmgbclefljaa", sum := "4e60f06c225e2fcdfff329cc6be4b0808c8ae7e8c1fef8ba1104886d6432f9f8", func := "loop.example/g01046/laws.FnExactSameGuests", spec := "fnExactSameGuests", apart := false }
def FnExactSameGuestsSaid : Prop := fnExactSameGuestsRow.holds Try.pinned (OpenSpec.ofChange fnExactSameGuestsSpec)

/-- ITS FALSE NEIGHBOUR: 'it returns false'. Refute it at one input. -/
def fnExactSameGuestsWrong : ChangeSpec := { name := "fnExactSameGuests", fn := fun _ => fun
  | [d1, d2] => { results := [.lit (.bool false)], args := [d1, d2] }
  | _ => none }
def FnExactSameGuestsWrongFalsely : Prop := fnExactSameGuestsRow.holds Try.pinned (OpenSpec.ofChange fnExactSameGuestsWrong)

/-- 'laws.FnExactSameZoned': WHATEVER THE INPUT: true; the input reads as it did. -/
def fnExactSameZonedSpec : ChangeSpec := { name := "fnExactSameZoned", fn := fun _ => fun
  | [d1, d2] => { results := [.lit (.bool true)], args := [d1, d2] }
  | _ => none }
def fnExactSameZonedRow : OpenClaim := { program := "ytckkmgbclefljaa", sum := "4e60f06c225e2fcdfff329cc6be4b0808c8ae7e8c1fef8ba1104886d6432f9f8", func := "loop.example/g01046/laws.FnExactSameZoned", spec := "fnExactSameZoned", apart := false }
def FnExactSameZonedSaid : Prop := fnExactSameZonedRow.holds Try.pinned (OpenSpec.ofChange fnExactSameZonedSpec)

/-- ITS FALSE NEIGHBOUR: 'it returns false'. Refute it at one input. -/
def fnExactSameZonedWrong : ChangeSpec := { name := "fnExactSameZoned", fn := fun _ => fun
  | [d1, d2] => { results := [.lit (.bool false)], args := [d1, d2] }
  | _ => none }
def FnExactSameZonedWrongFalsely : Prop := fnExactSameZonedRow.holds Try.pinned (OpenSpec.ofChange fnExactSameZonedWrong)

/-- 'laws.FnExactValidRooms': WHATEVER THE INPUT: true; the input reads as it did. -/
def fnExactValidRoomsSpec : ChangeSpec := { name := "fnExactValidRooms", fn := fun _ => fun
  | [d1, d2] => { results := [.lit (.bool true)], args := [d1, d2] }
  | _ => none }
def fnExactValidRoomsRow : OpenClaim := { program := "ytckkmgbclefljaa", sum := "4e60f06c225e2fcdfff329cc6be4b0808c8ae7e8c1fef8ba1104886d6432f9f8", func := "loop.example/g01046/laws.FnExactValidRooms", spec := "fnExactValidRooms", unfollowed := true, recurses := true, apart := false }
def FnExactValidRoomsSaid : Prop := fnExactValidRoomsRow.holds Try.pinned (OpenSpec.ofChange fnExactValidRoomsSpec)

/-- ITS FALSE NEIGHBOUR: 'it returns false'. Refute it at one input. -/
def fnExactValidRoomsWrong : ChangeSpec := { name := "fnExactValidRooms", fn := fun _ => fun
  | [d1, d2] => { results := [.lit (.bool false)], args := [d1, d2] }
  | _ => none }
def FnExactValidRoomsWrongFalsely : Prop := fnExactValidRoomsRow.holds Try.pinned (OpenSpec.ofChange fnExactValidRoomsWrong)

/-- 'laws.FnExactValidZoned': WHATEVER THE INPUT: true; the input reads as it did. -/
def fnExactValidZonedSpec : ChangeSpec := { name := "fnExactValidZoned", fn := fun _ => fun
  | [d] => { results := [.lit (.bool true)], args := [d] }
  | _ => none }
def fnExactValidZonedRow : OpenClaim := { program := "ytckkmgbclefljaa", sum := "4e60f06c225e2fcdfff329cc6be4b0808c8ae7e8c1fef8ba1104886d6432f9f8", func := "loop.example/g01046/laws.FnExactValidZoned", spec := "fnExactValidZoned", unfollowed := true, recurses := true, apart := false }
def FnExactValidZonedSaid : Prop := fnExactValidZonedRow.holds Try.pinned (OpenSpec.ofChange fnExactValidZonedSpec)

/-- ITS FALSE NEIGHBOUR: 'it returns false'. Refute it at one input. -/
def fnExactValidZonedWrong : ChangeSpec := { name := "fnExactValidZoned", fn := fun _ => fun
  | [d] => { results := [.lit (.bool false)], args := [d] }
  | _ => none }
def FnExactValidZonedWrongFalsely : Prop := fnExactValidZonedRow.holds Try.pinned (OpenSpec.ofChange fnExactValidZonedWrong)

/-- 'laws.FnExactZonesCrossed': WHATEVER THE INPUT: true; the input reads as it did. -/
def fnExactZonesCrossedSpec : ChangeSpec := { name := "fnExactZonesCrossed", fn := fun _ => fun
  | [d1, d2] => { results := [.lit (.bool true)], args := [d1, d2] }
  | _ => none }
def fnExactZonesCrossedRow : OpenClaim := { program := "ytckkmgbclefljaa", sum := "4e60f06c225e2fcdfff329cc6be4b0808c8ae7e8c1fef8ba1104886d6432f9f8", func := "loop.example/g01046/laws.FnExactZonesCrossed", spec := "fnExactZonesCrossed", unfollowed := true, recurses := true, apart := false }
def FnExactZonesCrossedSaid : Prop := fnExactZonesCrossedRow.holds Try.pinned (OpenSpec.ofChange fnExactZonesCrossedSpec)

/-- ITS FALSE NEIGHBOUR: 'it returns false'. Refute it at one input. -/
def fnExactZonesCrossedWrong : ChangeSpec := { name := "fnExactZonesCrossed", fn := fun _ => fun
  | [d1, d2] => { results := [.lit (.bool false)], args := [d1, d2] }
  | _ => none }
def FnExactZonesCrossedWrongFalsely : Prop := fnExactZonesCrossedRow.holds Try.pinned (OpenSpec.ofChange fnExactZonesCrossedWrong)

/-- 'laws.FnExactLevelAt': WHATEVER THE INPUT: true; the input reads as it did. -/
def fnExactLevelAtSpec : ChangeSpec := { name := "fnExactLevelAt", fn := fun _ => fun
  | [d1, d2, d3] => { results := [.lit (.bool true)], args := [d1, d2, d3] }
  | _ => none }
def fnExactLevelAtRow : OpenClaim := { program := "ytckkmgbclefljaa", sum := "4e60f06c225e2fcdfff329cc6be4b0808c8ae7e8c1fef8ba1104886d6432f9f8", func := "loop.example/g01046/laws.FnExactLevelAt", spec := "fnExactLevelAt", unfollowed := true, recurses := true, apart := false }
def FnExactLevelAtSaid : Prop := fnExactLevelAtRow.holds Try.pinned (OpenSpec.ofChange fnExactLevelAtSpec)

/-- ITS FALSE NEIGHBOUR: 'it returns false'. Refute it at one input. -/
def fnExactLevelAtWrong : ChangeSpec := { name := "fnExactLevelAt", fn := fun _ => fun
  | [d1, d2, d3] => { results := [.lit (.bool false)], args := [d1, d2, d3] }
  | _ => none }
def FnExactLevelAtWrongFalsely : Prop := fnExactLevelAtRow.holds Try.pinned (OpenSpec.ofChange fnExactLevelAtWrong)

/-- 'laws.FnExactNeedlessChanges': WHATEVER THE INPUT: true; the input reads as it did. -/
def fnExactNeedlessChangesSpec : ChangeSpec := { name := "fnExactNeedlessChanges", fn := fun _ => fun
  | [d] => { results := [.lit (.bool true)], args := [d] }
  | _ => none }
def fnExactNeedlessChangesRow : OpenClaim := { program := "ytckkmgbclefljaa", sum := "4e60f06c225e2fcdfff329cc6be4b0808c8ae7e8c1fef8ba1104886d6432f9f8", func := "loop.example/g01046/laws.FnExactNeedlessChanges", spec := "fnExactNeedlessChanges", unfollowed := true, recurses := true, apart := false }
def FnExactNeedlessChangesSaid : Prop := fnExactNeedlessChangesRow.holds Try.pinned (OpenSpec.ofChange fnExactNeedlessChangesSpec)

/-- ITS FALSE NEIGHBOUR: 'it returns false'. Refute it at one input. -/
def fnExactNeedlessChangesWrong : ChangeSpec := { name := "fnExactNeedlessChanges", fn := fun _ => fun
  | [d] => { results := [.lit (.bool false)], args := [d] }
  | _ => none }
def FnExactNeedlessChangesWrongFalsely : Prop := fnExactNeedlessChangesRow.holds Try.pinned (OpenSpec.ofChange fnExactNeedlessChangesWrong)

/-- 'laws.FnExactTicksAbove': WHATEVER THE INPUT: true; the input reads as it did. -/
def fnExactTicksAboveSpec : ChangeSpec := { name := "fnExactTicksAbove", fn := fun _ => fun
  | [d1, d2, d3, d4] => { results := [.lit (.bool true)], args := [d1, d2, d3, d4] }
  | _ => none }
def fnExactTicksAboveRow : OpenClaim := { program := "ytckkmgbclefljaa", sum := "4e60f06c225e2fcdfff329cc6be4b0808c8ae7e8c1fef8ba1104886d6432f9f8", func := "loop.example/g01046/laws.FnExactTicksAbove", spec := "fnExactTicksAbove", unfollowed := true, recurses := true, apart := false }
def FnExactTicksAboveSaid : Prop := fnExactTicksAboveRow.holds Try.pinned (OpenSpec.ofChange fnExactTicksAboveSpec)

/-- ITS FALSE NEIGHBOUR: 'it returns false'. Refute it at one input. -/
def fnExactTicksAboveWrong : ChangeSpec := { name := "fnExactTicksAbove", fn := fun _ => fun
  | [d1, d2, d3, d4] => { results := [.lit (.bool false)], args := [d1, d2, d3, d4] }
  | _ => none }
def FnExactTicksAboveWrongFalsely : Prop := fnExactTicksAboveRow.holds Try.pinned (OpenSpec.ofChange fnExactTicksAboveWrong)

/-- 'laws.FnExactTubesOfZone': WHATEVER THE INPUT: true; the input reads as it did. -/
def fnExactTubesOfZoneSpec : ChangeSpec := { name := "fnExactTubesOfZone", fn := fun _ => fun
  | [d1, d2] => { results := [.lit (.bool true)], args := [d1, d2] }
  | _ => none }
def fnExactTubesOfZoneRow : OpenClaim := { program := "ytckkmgbclefljaa", sum := "4e60f06c225e2fcdfff329cc6be4b0808c8ae7e8c1fef8ba1104886d6432f9f8", func := "loop.example/g01046/laws.FnExactTubesOfZone", spec := "fnExactTubesOfZone", unfollowed := true, recurses := true, apart := false }
def FnExactTubesOfZoneSaid : Prop := fnExactTubesOfZoneRow.holds Try.pinned (OpenSpec.ofChange fnExactTubesOfZoneSpec)

/-- ITS FALSE NEIGHBOUR: 'it returns false'. Refute it at one input. -/
def fnExactTubesOfZoneWrong : ChangeSpec := { name := "fnExactTubesOfZone", fn := fun _ => fun
  | [d1, d2] => { results := [.lit (.bool false)], args := [d1, d2] }
  | _ => none }
def FnExactTubesOfZoneWrongFalsely : Prop := fnExactTubesOfZoneRow.holds Try.pinned (OpenSpec.ofChange fnExactTubesOfZoneWrong)

/-- 'laws.FnExactFirstAbove': WHATEVER THE INPUT: true; the input reads as it did. -/
def fnExactFirstAboveSpec : ChangeSpec := { name := "fnExactFirstAbove", fn := fun _ => fun
  | [d1, d2, d3, d4, d5] => { results := [.lit (.bool true)], args := [d1, d2, d3, d4, d5] }
  | _ => none }
def fnExactFirstAboveRow : OpenClaim := { program := "ytckkmgbclefljaa", sum := "4e60f06c225e2fcdfff329cc6be4b0808c8ae7e8c1fef8ba1104886d6432f9f8", func := "loop.example/g01046/laws.FnExactFirstAbove", spec := "fnExactFirstAbove", unfollowed := true, recurses := true, apart := false }
def FnExactFirstAboveSaid : Prop := fnExactFirstAboveRow.holds Try.pinned (OpenSpec.ofChange fnExactFirstAboveSpec)

/-- ITS FALSE NEIGHBOUR: 'it returns false'. Refute it at one input. -/
def fnExactFirstAboveWrong : ChangeSpec := { name := "fnExactFirstAbove", fn := fun _ => fun
  | [d1, d2, d3, d4, d5] => { results := [.lit (.bool false)], args := [d1, d2, d3, d4, d5] }
  | _ => none }
def FnExactFirstAboveWrongFalsely : Prop := fnExactFirstAboveRow.holds Try.pinned (OpenSpec.ofChange fnExactFirstAboveWrong)

/-- 'laws.FnExactPushedAt': WHATEVER THE INPUT: true; the input reads as it did. -/
def fnExactPushedAtSpec : ChangeSpec := { name := "fnExactPushedAt", fn := fun _ => fun
  | [d1, d2] => { results := [.lit (.bool true)], args := [d1, d2] }
  | _ => none }
def fnExactPushedAtRow : OpenClaim := { program := "ytckkmgbclefljaa", sum := "4e60f06c225e2fcdfff329cc6be4b0808c8ae7e8c1fef8ba1104886d6432f9f8", func := "loop.example/g01046/laws.FnExactPushedAt", spec := "fnExactPushedAt", unfollowed := true, recurses := true, apart := false }
def FnExactPushedAtSaid : Prop := fnExactPushedAtRow.holds Try.pinned (OpenSpec.ofChange fnExactPushedAtSpec)

/-- ITS FALSE NEIGHBOUR: 'it returns false'. Refute it at one input. -/
def fnExactPushedAtWrong : ChangeSpec := { name := "fnExactPushedAt", fn := fun _ => fun
  | [d1, d2] => { results := [.lit (.bool false)], args := [d1, d2] }
  | _ => none }
def FnExactPushedAtWrongFalsely : Prop := fnExactPushedAtRow.holds Try.pinned (OpenSpec.ofChange fnExactPushedAtWrong)

/- THE SECOND FORM. 'bulk': how many values and letters a reading holds, each counted each time it is reached (what is shared counts as often as it is met; a slice's spare places count too). A statement '..UptoSaid' is the law's where the arguments, and the package variables that the reading takes, are together of bulk at most 1048576: NARROWER than '..Said'. Prove '..Said' where nothing that the law and all that it calls make is longer than what came in: it says more and counts as full. Else prove '..UptoSaid'. A law counts once. -/
mutual
def uptoBulk {H : Type} : DataW H → Nat
  | .lit (.string bytes) => bytes.length + 1
  | .lit _ => 1
  | .nil => 1
  | .ptr d => uptoBulk d + 1
  | .slice elems spare => uptoBulkAll elems + uptoBulkAll spare + 1
  | .agg parts => uptoBulkAll parts + 1
  | .iface _ d => uptoBulk d + 1
  | .map entries => uptoBulkEntries entries + 1
  | .held _ => 1
def uptoBulkAll {H : Type} : List (DataW H) → Nat
  | [] => 0
  | d :: r => uptoBulk d + uptoBulkAll r
def uptoBulkEntries {H : Type} : List (Lit × DataW H) → Nat
  | [] => 0
  | x :: r => uptoBulkEntry x + uptoBulkEntries r
def uptoBulkEntry {H : Type} : Lit × DataW H → Nat
  | (.string bytes, d) => bytes.length + uptoBulk d + 1
  | (_, d) => uptoBulk d + 1
 end
def uptoSmall : (H : Type) → List (DataW H) → Bool := fun _ ds => decide (uptoBulkAll ds ≤ 1048576)
def OpenSpec.upto (s : _root_.Go.ChangeSpec) : _root_.Go.OpenSpec := { _root_.Go.OpenSpec.ofChange s with cond := some uptoSmall }

/-- 'laws.FnExactSameGuests', WHERE WHAT IT READS IS OF BULK AT MOST 1048576: true; the input reads as it did. -/
def fnExactSameGuestsUptoRow : OpenClaim := { program := "ytckkmgbclefljaa", sum := "4e60f06c225e2fcdfff329cc6be4b0808c8ae7e8c1fef8ba1104886d6432f9f8", func := "loop.example/g01046/laws.FnExactSameGuests", spec := "fnExactSameGuests", apart := false, narrowed := true }
def FnExactSameGuestsUptoSaid : Prop := fnExactSameGuestsUptoRow.holds Try.pinned (OpenSpec.upto fnExactSameGuestsSpec)

/-- 'laws.FnExactSameZoned', WHERE WHAT IT READS IS OF BULK AT MOST 1048576: true; the input reads as it did. -/
def fnExactSameZonedUptoRow : OpenClaim := { program := "ytckkmgbclefljaa", sum := "4e60f06c225e2fcdfff329cc6be4b0808c8ae7e8c1fef8ba1104886d6432f9f8", func := "loop.example/g01046/laws.FnExactSameZoned", spec := "fnExactSameZoned", apart := false, narrowed := true }
def FnExactSameZonedUptoSaid : Prop := fnExactSameZonedUptoRow.holds Try.pinned (OpenSpec.upto fnExactSameZonedSpec)

/-- 'laws.FnExactValidRooms', WHERE WHAT IT READS IS OF BULK AT MOST 1048576: true; the input reads as it did. -/
def fnExactValidRoomsUptoRow : OpenClaim := { program := "ytckkmgbclefljaa", sum := "4e60f06c225e2fcdfff329cc6be4b0808c8ae7e8c1fef8ba1104886d6432f9f8", func := "loop.example/g01046/laws.FnExactValidRooms", spec := "fnExactValidRooms", unfollowed := true, recurses := true, apart := false, narrowed := true }
def FnExactValidRoomsUptoSaid : Prop := fnExactValidRoomsUptoRow.holds Try.pinned (OpenSpec.upto fnExactValidRoomsSpec)

/-- 'laws.FnExactValidZoned', WHERE WHAT IT READS IS OF BULK AT MOST 1048576: true; the input reads as it did. -/
def fnExactValidZonedUptoRow : OpenClaim := { program := "ytckkmgbclefljaa", sum := "4e60f06c225e2fcdfff329cc6be4b0808c8ae7e8c1fef8ba1104886d6432f9f8", func := "loop.example/g01046/laws.FnExactValidZoned", spec := "fnExactValidZoned", unfollowed := true, recurses := true, apart := false, narrowed := true }
def FnExactValidZonedUptoSaid : Prop := fnExactValidZonedUptoRow.holds Try.pinned (OpenSpec.upto fnExactValidZonedSpec)

/-- 'laws.FnExactZonesCrossed', WHERE WHAT IT READS IS OF BULK AT MOST 1048576: true; the input reads as it did. -/
def fnExactZonesCrossedUptoRow : OpenClaim := { program := "ytckkmgbclefljaa", sum := "4e60f06c225e2fcdfff329cc6be4b0808c8ae7e8c1fef8ba1104886d6432f9f8", func := "loop.example/g01046/laws.FnExactZonesCrossed", spec := "fnExactZonesCrossed", unfollowed := true, recurses := true, apart := false, narrowed := true }
def FnExactZonesCrossedUptoSaid : Prop := fnExactZonesCrossedUptoRow.holds Try.pinned (OpenSpec.upto fnExactZonesCrossedSpec)

/-- 'laws.FnExactLevelAt', WHERE WHAT IT READS IS OF BULK AT MOST 1048576: true; the input reads as it did. -/
def fnExactLevelAtUptoRow : OpenClaim := { program := "ytckkmgbclefljaa", sum := "4e60f06c225e2fcdfff329cc6be4b0808c8ae7e8c1fef8ba1104886d6432f9f8", func := "loop.example/g01046/laws.FnExactLevelAt", spec := "fnExactLevelAt", unfollowed := true, recurses := true, apart := false, narrowed := true }
def FnExactLevelAtUptoSaid : Prop := fnExactLevelAtUptoRow.holds Try.pinned (OpenSpec.upto fnExactLevelAtSpec)

/-- 'laws.FnExactNeedlessChanges', WHERE WHAT IT READS IS OF BULK AT MOST 1048576: true; the input reads as it did. -/
def fnExactNeedlessChangesUptoRow : OpenClaim := { program := "ytckkmgbclefljaa", sum := "4e60f06c225e2fcdfff329cc6be4b0808c8ae7e8c1fef8ba1104886d6432f9f8", func := "loop.example/g01046/laws.FnExactNeedlessChanges", spec := "fnExactNeedlessChanges", unfollowed := true, recurses := true, apart := false, narrowed := true }
def FnExactNeedlessChangesUptoSaid : Prop := fnExactNeedlessChangesUptoRow.holds Try.pinned (OpenSpec.upto fnExactNeedlessChangesSpec)

/-- 'laws.FnExactTicksAbove', WHERE WHAT IT READS IS OF BULK AT MOST 1048576: true; the input reads as it did. -/
def fnExactTicksAboveUptoRow : OpenClaim := { program := "ytckkmgbclefljaa", sum := "4e60f06c225e2fcdfff329cc6be4b0808c8ae7e8c1fef8ba1104886d6432f9f8", func := "loop.example/g01046/laws.FnExactTicksAbove", spec := "fnExactTicksAbove", unfollowed := true, recurses := true, apart := false, narrowed := true }
def FnExactTicksAboveUptoSaid : Prop := fnExactTicksAboveUptoRow.holds Try.pinned (OpenSpec.upto fnExactTicksAboveSpec)

/-- 'laws.FnExactTubesOfZone', WHERE WHAT IT READS IS OF BULK AT MOST 1048576: true; the input reads as it did. -/
def fnExactTubesOfZoneUptoRow : OpenClaim := { program := "ytckkmgbclefljaa", sum := "4e60f06c225e2fcdfff329cc6be4b0808c8ae7e8c1fef8ba1104886d6432f9f8", func := "loop.example/g01046/laws.FnExactTubesOfZone", spec := "fnExactTubesOfZone", unfollowed := true, recurses := true, apart := false, narrowed := true }
def FnExactTubesOfZoneUptoSaid : Prop := fnExactTubesOfZoneUptoRow.holds Try.pinned (OpenSpec.upto fnExactTubesOfZoneSpec)

/-- 'laws.FnExactFirstAbove', WHERE WHAT IT READS IS OF BULK AT MOST 1048576: true; the input reads as it did. -/
def fnExactFirstAboveUptoRow : OpenClaim := { program := "ytckkmgbclefljaa", sum := "4e60f06c225e2fcdfff329cc6be4b0808c8ae7e8c1fef8ba1104886d6432f9f8", func := "loop.example/g01046/laws.FnExactFirstAbove", spec := "fnExactFirstAbove", unfollowed := true, recurses := true, apart := false, narrowed := true }
def FnExactFirstAboveUptoSaid : Prop := fnExactFirstAboveUptoRow.holds Try.pinned (OpenSpec.upto fnExactFirstAboveSpec)

/-- 'laws.FnExactPushedAt', WHERE WHAT IT READS IS OF BULK AT MOST 1048576: true; the input reads as it did. -/
def fnExactPushedAtUptoRow : OpenClaim := { program := "ytckkmgbclefljaa", sum := "4e60f06c225e2fcdfff329cc6be4b0808c8ae7e8c1fef8ba1104886d6432f9f8", func := "loop.example/g01046/laws.FnExactPushedAt", spec := "fnExactPushedAt", unfollowed := true, recurses := true, apart := false, narrowed := true }
def FnExactPushedAtUptoSaid : Prop := fnExactPushedAtUptoRow.holds Try.pinned (OpenSpec.upto fnExactPushedAtSpec)

end Rows
end Go.Proofs.Ytckkmgbclefljaa
