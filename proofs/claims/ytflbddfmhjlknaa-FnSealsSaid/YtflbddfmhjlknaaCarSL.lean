/-
  Stocks: the contracts of the reference and of the program in the laws' words.
-/
import Derived.Test.YtflbddfmhjlknaaCarS
import Derived.Test.YtflbddfmhjlknaaLawH
namespace Go.Proofs.Ytflbddfmhjlknaa
open Go.RowKit

theorem S_ValidStock (x : List Int) (v : Value) (w : World) (hs : x.length ≤ 1048576) (_ : ∀ z ∈ x, -9223372036854775808 ≤ z ∧ z ≤ 9223372036854775807) (h : R_Int64S w w.heap.size v x) :
    Calls Try.prog 44 #[v] w fun e w' => e = .returned (.bool (vStock x)) ∧ Below w.heap.size w w' := by
  obtain ⟨A, c, rfl, r⟩ := h
  exact (specValidStock_any x A c w hs r).mono fun e w' ⟨he, hw⟩ => ⟨he, by subst hw; exact Below.refl _ _⟩
theorem P_ValidStock (x : List Int) (v : Value) (w : World) (hs : x.length ≤ 1048576) (_ : ∀ z ∈ x, -9223372036854775808 ≤ z ∧ z ≤ 9223372036854775807) (h : R_Int64S w w.heap.size v x) :
    Calls Try.prog 43 #[v] w fun e w' => e = .returned (.bool (vStock x)) ∧ Below w.heap.size w w' := by
  obtain ⟨A, c, rfl, r⟩ := h
  exact implValidStock_any x A c w hs r
end Go.Proofs.Ytflbddfmhjlknaa
