/-
  The order by ascending numbers; in the reference.
-/
import Derived.Test.YtflbddfmhjlknaaRunD
import Derived.Test.YtflbddfmhjlknaaRunO
namespace Go.Proofs.Ytflbddfmhjlknaa
open Go.RowKit

def keyOf (ks : List Int) (i : Int) : Int := (ks[i.toNat]?).getD 0
def outAt (out : List Int) (k : Nat) : Int := (out[k]?).getD 0
/-- Where a number is laid, seen from k downward. -/
def posGo (ks out : List Int) (i : Int) : Nat → Nat
  | 0 => 0
  | k + 1 => if keyOf ks i < keyOf ks (outAt out k) then posGo ks out i k else k + 1
def insK (ks out : List Int) (i : Int) : List Int := out.take (posGo ks out i out.length) ++ i :: out.drop (posGo ks out i out.length)
def sortK (ks : List Int) : Nat → List Int
  | 0 => []
  | n + 1 => insK ks (sortK ks n) n
theorem posGo_le (ks out : List Int) (i : Int) : ∀ k, posGo ks out i k ≤ k := by
  intro k
  induction k with
  | zero => exact Nat.le_refl _
  | succ k ih => rw [posGo]; split <;> omega
theorem insK_len (ks out : List Int) (i : Int) : (insK ks out i).length = out.length + 1 := by
  have := posGo_le ks out i out.length
  unfold insK; simp; omega
theorem sortK_len (ks : List Int) : ∀ n, (sortK ks n).length = n := by
  intro n
  induction n with
  | zero => rfl
  | succ n ih => rw [sortK, insK_len, ih]
theorem sortK_in (ks : List Int) : ∀ n, ∀ z ∈ sortK ks n, 0 ≤ z ∧ z < n := by
  intro n
  induction n with
  | zero => intro z hz; cases hz
  | succ n ih =>
    intro z hz
    rw [sortK, insK] at hz
    rcases List.mem_append.1 hz with hz | hz
    · have := ih z (List.mem_of_mem_take hz); omega
    · rcases List.mem_cons.1 hz with rfl | hz
      · omega
      · have := ih z (List.mem_of_mem_drop hz); omega
theorem key_get {ks : List Int} {n : Nat} {z : Int} (h : ks[n]? = some z) : keyOf ks (n : Int) = z := by simp [keyOf, h]
theorem RdI.drop {w : World} {B b o : Nat} {xs : List Int} (h : RdI w B (some ⟨b, o, none⟩) xs) (k : Nat) : RdI w B (some ⟨b, o + k, none⟩) (xs.drop k) := fun hn => by
  obtain ⟨b', o', hA, hb, hc⟩ := h (by intro e; apply hn; rw [List.map_eq_nil_iff] at e; rw [e]; simp)
  cases hA
  refine ⟨_, _, rfl, hb, fun j u hu => ?_⟩
  rw [List.getElem?_map, List.getElem?_drop, ← List.getElem?_map] at hu
  rw [Nat.add_assoc]
  exact hc _ _ hu
end Go.Proofs.Ytflbddfmhjlknaa
