/-
  The orders by dues and by readiness; in the reference.
-/
import Derived.Test.YtfhociekhffjhaaRunS
namespace Go.Proofs.Ytfhociekhffjhaa
open Go.RowKit

def orderOf (key : TN → Int) (ts : List Int) (l : List TN) : List Int × Int := if vWishes ts l = true then (sortK (l.map key) l.length, 0) else ([], 1)
end Go.Proofs.Ytfhociekhffjhaa
