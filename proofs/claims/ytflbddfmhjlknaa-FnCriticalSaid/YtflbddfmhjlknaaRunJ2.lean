/-
  The sum of delays; in the program and in the reference.
-/
import Derived.Test.YtflbddfmhjlknaaRunJ
namespace Go.Proofs.Ytflbddfmhjlknaa
open Go.RowKit

theorem dlGo_drop {l : List TN} {xs : List Int} {k : Nat} {z : Int} (h : xs[k]? = some z) : dlGo l (xs.drop k) k = z - (wishAt l k).p + dlGo l (xs.drop (k + 1)) (k + 1) := by rw [drop_cons h, dlGo]
end Go.Proofs.Ytflbddfmhjlknaa
