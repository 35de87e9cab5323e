/-
  Two lists of moves, or of guests, are the same: the contracts in the laws' words.
-/
import Derived.Test.YtckkmgbclefljaaLib
import Derived.Test.YtckkmgbclefljaaLawH
namespace Go.Proofs.Ytckkmgbclefljaa
open Go.RowKit

def sameL {α : Type} [DecidableEq α] (x y : List α) : Bool := decide (x = y)
theorem S_SameGuests (x : List T2) (v : Value) (y : List T2) (u : Value) (w : World) (hx : x.length ≤ 1048576) (_ : ∀ z ∈ x, z.Fits) (h : R_GuestS w w.heap.size v x) (hy : y.length ≤ 1048576) (_ : ∀ z ∈ y, z.Fits) (k : R_GuestS w w.heap.size u y) :
    Calls Try.prog 15 #[v, u] w fun e w' => e = .returned (.bool (sameL x y)) ∧ Below w.heap.size w w' := by
  obtain ⟨A, c, rfl, r⟩ := h
  obtain ⟨A2, c2, rfl, r2⟩ := k
  exact specSameGuests_any x y A A2 c c2 w (by omega) (by omega) r r2
set_option maxRecDepth 100000 in
theorem P_SameGuests (x : List T2) (v : Value) (y : List T2) (u : Value) (w : World) (hx : x.length ≤ 1048576) (_ : ∀ z ∈ x, z.Fits) (h : R_GuestS w w.heap.size v x) (hy : y.length ≤ 1048576) (_ : ∀ z ∈ y, z.Fits) (k : R_GuestS w w.heap.size u y) :
    Calls Try.prog 17 #[v, u] w fun e w' => e = .returned (.bool (sameL x y)) ∧ Below w.heap.size w w' := by
  obtain ⟨A, c, rfl, r⟩ := h
  obtain ⟨A2, c2, rfl, r2⟩ := k
  have HC := hide (equalGuest_any x y A A2 c c2 w (by omega) (by omega) r r2)
  clear r r2
  go_enter Try.func17, Try.ntmps17
  go_wp2_with (go_at_call 48; refine (HC.out).mono ?_; rintro e w1 ⟨rfl, hb1⟩)
  go_ret
  exact ⟨rfl, hb1⟩
end Go.Proofs.Ytckkmgbclefljaa
