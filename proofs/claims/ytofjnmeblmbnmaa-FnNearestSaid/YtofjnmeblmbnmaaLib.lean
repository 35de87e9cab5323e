/-
  Contracts of slices.Equal and slices.Clone at the program's element types. Printed by gen_lib.py.
-/
import Derived.Test.YtofjnmeblmbnmaaInts
import Derived.Test.YtofjnmeblmbnmaaRec
import Derived.Lib.SliceRun
import Derived.Deep.DeepMust
namespace Go.Proofs.Ytofjnmeblmbnmaa
open Go.RowKit

end Go.Proofs.Ytofjnmeblmbnmaa
