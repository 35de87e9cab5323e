/-
  Orders of wishes: the codes; in the program and in the reference.
-/
import Derived.Test.YtofjnmeblmbnmaaRunV
namespace Go.Proofs.Ytofjnmeblmbnmaa
open Go.RowKit

def hasI (xs : List Int) (v : Int) : Bool := xs.any fun z => decide (z = v)
def ordGo (n : Int) : List Int → List Int → Bool
  | _, [] => true
  | pre, k :: r => inB 0 (n - 1) k && (!hasI pre k && ordGo n (pre ++ [k]) r)
def ordOk (n : Nat) (order : List Int) : Bool := ordGo n [] order && decide (order.length = n)
def codeO (ts : List Int) (l : List TN) (order : List Int) : Int := if vWishes ts l = true then (if ordOk l.length order = true then 0 else 2) else 1
theorem ordGo_drop {n : Int} {xs : List Int} {k : Nat} {z : Int} (h : xs[k]? = some z) : ordGo n (xs.take k) (xs.drop k) = (inB 0 (n - 1) z && (!hasI (xs.take k) z && ordGo n (xs.take (k + 1)) (xs.drop (k + 1)))) := by
  obtain ⟨hl, he⟩ := List.getElem?_eq_some_iff.1 h
  rw [drop_cons h, ordGo, List.take_succ_eq_append_getElem hl, he]
theorem cap_of {e : TypeId} {s : Nat} {w : World} {lo hi : Nat} {v : Value} {n : Nat} {xs : List Value} (h : OwnV e s w lo hi v n xs) : ∀ A m c, v = .slice A m c → m ≤ c := by
  intro A m c hv
  rcases h.2.2 with ⟨h0, _⟩ | ⟨ho, _⟩
  · obtain ⟨A', c', he⟩ := h.1
    rw [hv] at he
    simp only [Value.slice.injEq] at he
    omega
  · obtain ⟨A', c', he, hle, _⟩ := own_shape ho
    rw [hv] at he
    simp only [Value.slice.injEq] at he
    omega
theorem RdI.take {w : World} {B : Nat} {A : Option Addr} {xs : List Int} (h : RdI w B A xs) (k : Nat) : RdI w B A (xs.take k) := fun hn => by
  obtain ⟨b, o, hA, hb, hc⟩ := h (by intro e; apply hn; rw [List.map_eq_nil_iff] at e; rw [e]; simp)
  refine ⟨b, o, hA, hb, fun j u hu => hc j u ?_⟩
  rw [List.getElem?_map] at hu ⊢
  by_cases hj : j < k
  · rw [List.getElem?_take_of_lt hj] at hu; exact hu
  · rw [List.getElem?_eq_none (by rw [List.length_take]; omega)] at hu; cases hu
end Go.Proofs.Ytofjnmeblmbnmaa
