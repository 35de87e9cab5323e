/-
  Seals: the contracts of the reference and of the program in the laws' words.
-/
import Derived.Test.YtflbddfmhjlknaaCarSeal
import Derived.Test.YtflbddfmhjlknaaLawH
namespace Go.Proofs.Ytflbddfmhjlknaa
open Go.RowKit

theorem S_ValidSeals (x : List T2) (v : Value) (w : World) (hs : x.length ≤ 1048576) (_ : ∀ z ∈ x, z.Fits) (h : R_SealS w w.heap.size v x) :
    Calls Try.prog 28 #[v] w fun e w' => e = .returned (.bool (vSeals x)) ∧ Below w.heap.size w w' := by
  obtain ⟨A, c, rfl, r⟩ := h
  exact specValidSeals_any x A c w hs r
theorem P_ValidSeals (x : List T2) (v : Value) (w : World) (hs : x.length ≤ 1048576) (_ : ∀ z ∈ x, z.Fits) (h : R_SealS w w.heap.size v x) :
    Calls Try.prog 27 #[v] w fun e w' => e = .returned (.bool (vSeals x)) ∧ Below w.heap.size w w' := by
  obtain ⟨A, c, rfl, r⟩ := h
  exact implValidSeals_any x A c w hs r
end Go.Proofs.Ytflbddfmhjlknaa
