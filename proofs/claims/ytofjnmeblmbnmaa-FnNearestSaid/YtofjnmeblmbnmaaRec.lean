/-
  Contracts of the laws' own helpers over slices of records: copies, comparisons, sizes, marks. Printed by gen_rec.py.
-/
import Derived.Test.YtofjnmeblmbnmaaProg
import Derived.Test.YtofjnmeblmbnmaaWords
import Derived.WalkKit
import Derived.BigQuiet
import Derived.Deep.QuietTactic
import Derived.Deep.LoopGhost
import Derived.StillTailTactics
namespace Go.Proofs.Ytofjnmeblmbnmaa
open Go.RowKit








end Go.Proofs.Ytofjnmeblmbnmaa
