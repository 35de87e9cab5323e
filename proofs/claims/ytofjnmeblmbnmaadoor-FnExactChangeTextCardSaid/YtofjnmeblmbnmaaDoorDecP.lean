/-
  Decimal forms: the reference's loop. Plain lemmas.
-/
import Derived.Test.YtofjnmeblmbnmaaDoorWords
import Derived.Lib.ItoaNum
namespace Go.Proofs.YtofjnmeblmbnmaaDoor
open Go.RowKit
theorem decDigits_ne (u : Nat) : Lib.decDigits u ≠ [] := by
  rw [Lib.decDigits]
  split
  · simp
  · simp
/-- Digits that are done stand in out, the rest in k. -/
def DecInv (n k : Int) (out : List UInt8) : Prop := (k ≠ 0 ∧ n ≠ 0 ∧ Lib.decDigits n.natAbs = Lib.decDigits k.natAbs ++ out) ∨ (k = 0 ∧ n = 0 ∧ out = []) ∨ (k = 0 ∧ n ≠ 0 ∧ out = Lib.decDigits n.natAbs)
theorem DecInv.start (n : Int) : DecInv n n [] := by
  by_cases h : n = 0
  · exact .inr (.inl ⟨h, h, rfl⟩)
  · exact .inl ⟨h, h, by simp⟩
theorem DecInv.step {n k : Int} {out : List UInt8} (h : DecInv n k out) (hk : k ≠ 0) : DecInv n (k.tdiv 10) (UInt8.ofNat (48 + k.natAbs % 10) :: out) := by
  rcases h with ⟨_, hn, h⟩ | ⟨h, _⟩ | ⟨h, _⟩
  · have e : (k.tdiv 10).natAbs = k.natAbs / 10 := by rw [Int.natAbs_tdiv]; rfl
    have hd := Lib.decDigits.eq_1 k.natAbs
    by_cases hs : k.natAbs < 10
    · rw [dif_pos hs] at hd
      rw [hd] at h
      refine .inr (.inr ⟨?_, hn, ?_⟩)
      · have : (k.tdiv 10).natAbs = 0 := by rw [e]; omega
        omega
      · rw [h, Nat.mod_eq_of_lt hs]; rfl
    · rw [dif_neg hs] at hd
      rw [hd] at h
      refine .inl ⟨?_, hn, ?_⟩
      · intro h0
        have : (k.tdiv 10).natAbs = 0 := by rw [h0]; rfl
        rw [e] at this; omega
      · rw [h, e]; simp
  · exact absurd h hk
  · exact absurd h hk
theorem DecInv.zero {n : Int} {out : List UInt8} (h : DecInv n 0 out) : (out = [] ∧ n = 0 ∧ Lib.itoa n = [48]) ∨ (out ≠ [] ∧ n < 0 ∧ Lib.itoa n = 45 :: out) ∨ (out ≠ [] ∧ 0 < n ∧ Lib.itoa n = out) := by
  rcases h with ⟨h, _⟩ | ⟨_, h, h2⟩ | ⟨_, h, h2⟩
  · exact absurd rfl h
  · subst h
    exact .inl ⟨h2, rfl, by unfold Lib.itoa; rw [if_neg (by decide), Lib.decDigits]; rfl⟩
  · by_cases hn : n < 0
    · exact .inr (.inl ⟨by rw [h2]; exact decDigits_ne _, hn, by unfold Lib.itoa; rw [if_pos hn, h2]⟩)
    · refine .inr (.inr ⟨by rw [h2]; exact decDigits_ne _, by omega, ?_⟩)
      unfold Lib.itoa
      rw [if_neg hn, h2]
      congr 1
      omega
theorem dec_digit (k : Int) : (if k.tmod 10 < 0 then -(k.tmod 10) else k.tmod 10) = ((k.natAbs % 10 : Nat) : Int) := by
  have h := Int.natAbs_tmod k 10
  have e : ((10 : Int)).natAbs = 10 := rfl
  rw [e] at h
  split <;> omega
end Go.Proofs.YtofjnmeblmbnmaaDoor
