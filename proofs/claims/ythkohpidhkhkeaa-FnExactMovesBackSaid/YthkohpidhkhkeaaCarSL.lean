/-
  Stocks: the contracts of the reference and of the program in the laws' words.
-/
import Derived.Test.YthkohpidhkhkeaaCarS
import Derived.Test.YthkohpidhkhkeaaLawH
namespace Go.Proofs.Ythkohpidhkhkeaa
open Go.RowKit

end Go.Proofs.Ythkohpidhkhkeaa
