/-
  Many moves are sent: the contracts of the reference and of the program.
-/
import Derived.Test.YthkohpidhkhkeaaCarSend
namespace Go.Proofs.Ythkohpidhkhkeaa
open Go.RowKit

theorem vMoves_false {n : Int} {ms : List T3} (h : ms.all (okMove n) = false) : vMoves n ms = false := by simp [vMoves, h]
theorem sendFrom_cons {zs zs' : List Int} {ms : List T3} {k : Nat} {m : T3} (hm : ms[k]? = some m) (h : send1 zs m = some zs') : sendFrom zs (ms.drop k) k = sendFrom zs' (ms.drop (k + 1)) (k + 1) := by
  rw [drop_cons hm, sendFrom, h]
theorem sendFrom_stop {zs : List Int} {ms : List T3} {k : Nat} {m : T3} (hm : ms[k]? = some m) (h : send1 zs m = none) : sendFrom zs (ms.drop k) k = (zs, (k : Int)) := by
  rw [drop_cons hm, sendFrom, h]

end Go.Proofs.Ythkohpidhkhkeaa
