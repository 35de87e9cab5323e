/-
  Words of letters. Plain lemmas.
-/
import Derived.Test.YtofjnmeblmbnmaaWords
namespace Go.Proofs.Ytofjnmeblmbnmaa
open Go.RowKit
/-- A letter of a text, as a number. -/
def chr (s : ByteArray) (i : Nat) : Int := ((s.get! i).toNat : Int)
theorem chr_bd (s : ByteArray) (i : Nat) : 0 ≤ chr s i ∧ chr s i ≤ 255 := by
  unfold chr
  have := (s.get! i).toNat_lt
  omega
/-- In how many of the places i, i + 1 .. (m of them) two texts differ. -/
def farN (a b : ByteArray) : Nat → Nat → Int
  | _, 0 => 0
  | i, m + 1 => (if chr a i = chr b i then 0 else 1) + farN a b (i + 1) m
def farB (a b : ByteArray) : Int := farN a b 0 a.size
theorem farN_bd (a b : ByteArray) : ∀ m i, 0 ≤ farN a b i m ∧ farN a b i m ≤ m := by
  intro m
  induction m with
  | zero => intro i; exact ⟨Int.le_refl _, Int.le_refl _⟩
  | succ m ih =>
    intro i
    have := ih (i + 1)
    rw [farN]
    split <;> omega
theorem farN_sym (a b : ByteArray) : ∀ m i, farN a b i m = farN b a i m := by
  intro m
  induction m with
  | zero => intro i; rfl
  | succ m ih =>
    intro i
    rw [farN, farN, ih (i + 1)]
    by_cases h : chr a i = chr b i
    · rw [if_pos h, if_pos h.symm]
    · rw [if_neg h, if_neg (fun e => h e.symm)]
theorem farB_sym {a b : ByteArray} (h : a.size = b.size) : farB a b = farB b a := by
  unfold farB
  rw [farN_sym, h]
theorem farB_bd (a b : ByteArray) : 0 ≤ farB a b ∧ farB a b ≤ a.size := farN_bd a b a.size 0
/-- All letters from i on (m of them) are signs. -/
def letN (n : Int) (s : ByteArray) : Nat → Nat → Bool
  | _, 0 => true
  | i, m + 1 => decide (97 ≤ chr s i ∧ chr s i ≤ 97 + n - 1) && letN n s (i + 1) m
def wordB (n : Int) (s : ByteArray) : Bool := letN n s 0 s.size && decide (1 ≤ s.size ∧ s.size ≤ 8)
theorem letN_false {n : Int} {s : ByteArray} {i m : Nat} (h : ¬ (97 ≤ chr s i ∧ chr s i ≤ 97 + n - 1)) : letN n s i (m + 1) = false := by rw [letN, decide_eq_false h]; rfl
theorem letN_true {n : Int} {s : ByteArray} {i m : Nat} (h : 97 ≤ chr s i ∧ chr s i ≤ 97 + n - 1) : letN n s i (m + 1) = letN n s (i + 1) m := by rw [letN, decide_eq_true h]; rfl
theorem wordB_bad {n : Int} {s : ByteArray} (h : letN n s 0 s.size = false) : wordB n s = false := by unfold wordB; rw [h]; rfl
theorem wordB_good {n : Int} {s : ByteArray} (h : letN n s 0 s.size = true) : wordB n s = decide (1 ≤ s.size ∧ s.size ≤ 8) := by unfold wordB; rw [h]; rfl
end Go.Proofs.Ytofjnmeblmbnmaa
