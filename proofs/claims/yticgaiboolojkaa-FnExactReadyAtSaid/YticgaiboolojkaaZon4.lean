/-
  Zones: codes of the reference; the level by contract.
-/
import Derived.Test.YticgaiboolojkaaZon3
namespace Go.Proofs.Yticgaiboolojkaa
open Go.RowKit

theorem codeZ_ok {x : TZ} {zone tick : Int} (h : codeZ x zone tick = 0) : vZoned x = true ∧ (0 ≤ zone ∧ zone ≤ x.z - 1) ∧ (0 ≤ tick ∧ tick ≤ 10000) := by
  unfold codeZ at h
  split at h
  · split at h
    · rename_i h1 h2; exact ⟨h1, h2⟩
    · omega
  · omega
def levelAt (x : TZ) (zone tick : Int) : Int × Int := if codeZ x zone tick = 0 then (lvl x.ch zone tick, 0) else (0, codeZ x zone tick)
end Go.Proofs.Yticgaiboolojkaa
