/-
  The plan of wishes by an order; in the program.
-/
import Derived.Test.YtflbddfmhjlknaaRunH
namespace Go.Proofs.Ytflbddfmhjlknaa
open Go.RowKit

theorem replicate_get_zp {n i : Nat} (h : i < n) : (List.replicate n zp)[i]? = some zp := by rw [List.getElem?_replicate, if_pos h]
theorem wayAt_zp (w : World) (B : Nat) : WayAt w B zp := ⟨none, 0, rfl, Rd.nil _ _ _⟩
end Go.Proofs.Ytflbddfmhjlknaa
