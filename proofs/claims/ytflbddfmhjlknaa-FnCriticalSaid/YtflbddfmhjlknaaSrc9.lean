/-
  The end of a drawn run, and rising lists.
-/
import Derived.Test.YtflbddfmhjlknaaSrc8
import Derived.Test.YtflbddfmhjlknaaRunK
import Derived.Test.YtflbddfmhjlknaaRunV
import Derived.Test.YtflbddfmhjlknaaLawH
import Derived.Test.YtflbddfmhjlknaaRows
import Derived.ProofKit
namespace Go.Proofs.Ytflbddfmhjlknaa
open Go.ChangeShapes Go.WideShapes Go.ChangeAt Go.RowKit

def Rises (xs : List Int) (n : Int) : Prop := (∀ z ∈ xs, 0 ≤ z ∧ z < n) ∧ ∀ k a b, xs[k]? = some a → xs[k + 1]? = some b → a < b
set_option maxRecDepth 100000 in
set_option maxHeartbeats 4000000 in
theorem a2Rises_any (xs : List Int) (n : Int) (A : Option Addr) (c : Nat) (w : World) (hx : xs.length ≤ 1048576) (hr : Rises xs n) (h1 : RdI w w.heap.size A xs) :
    Calls Try.prog 70 #[.slice A xs.length c, .int .i64 n] w fun e w' => e = .returned (.bool true) ∧ Below w.heap.size w w' := by
  have HX := hide h1
  have HR := hide hr
  clear h1 hr
  go_enter Try.func70, Try.ntmps70
  go_wp2_with fail
  go_loopg [5] xs.length (fun g i wr => ∃ k : Nat, k ≤ xs.length ∧ Hid (g = xs.length - k) ∧ i = .int .i64 k ∧ Below w.heap.size w wr)
  case atStart => exact ⟨0, by omega, by simp [Hid], rfl, Below.refl _ _⟩
  case round =>
    obtain ⟨k, hk, hg, rfl, hb0⟩ := hrel
    by_cases hlt : k < xs.length
    · obtain ⟨b, o, z, rfl, hb, hz, hc⟩ := (HX.out.below hb0).at_ hlt
      obtain ⟨hz0, hzn⟩ := HR.out.1 z (List.mem_of_getElem? hz)
      have hD1 : decide (z < 0) = false := decide_eq_false (by omega)
      have hD2 : decide (n ≤ z) = false := decide_eq_false (by omega)
      have hkl : (k : Int) < xs.length := by omega
      by_cases hk0 : k = 0
      · clear hz
        have hD0 : decide ((0 : Int) < (k : Int)) = false := decide_eq_false (by omega)
        have hD4 : decide (0 < k) = false := decide_eq_false (by omega)
        have hK := hide hk0
        clear hk0
        go_wp2_with fail
        go_quiet (fail)
        go_wp2_with fail
        go_roundg (xs.length - (k + 1))
        case measure => have := hg.out; omega
        case rel => exact ⟨k + 1, by omega, rfl, by go_num, bdn hb0 _⟩
      · obtain ⟨j, rfl⟩ : ∃ j, k = j + 1 := ⟨k - 1, by omega⟩
        obtain ⟨b', o', y, hA, _, hy, hc'⟩ := (HX.out.below hb0).at_ (k := j) (by omega)
        cases hA
        have hlt2 := HR.out.2 j y z hy hz
        have hD3 : decide (z ≤ y) = false := decide_eq_false (by omega)
        have hj0 : (0 : Int) ≤ (j : Int) := by omega
        clear hz hy
        have HWR := hide (show IntKind.i64.wrap (j : Int) = (j : Int) by rw [IntKind.wrap_i64] <;> omega)
        go_wp2_with fail
        have hwr := HWR.out
        go_quiet (fail)
        clear hwr
        go_wp2_with fail
        go_roundg (xs.length - (j + 1 + 1))
        case measure => have := hg.out; omega
        case rel => exact ⟨j + 1 + 1, by omega, rfl, by go_num, bdn hb0 _⟩
    · go_wp2_with fail
      go_ret
      exact ⟨rfl, hb0⟩
end Go.Proofs.Ytflbddfmhjlknaa
