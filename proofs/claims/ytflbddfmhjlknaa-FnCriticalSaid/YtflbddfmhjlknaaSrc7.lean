/-
  Helpers of the laws on runs: a number off bytes; the spans of a run by the reference.
-/
import Derived.Test.YtflbddfmhjlknaaSrc6
import Derived.Test.YtflbddfmhjlknaaRunF
namespace Go.Proofs.Ytflbddfmhjlknaa
open Go.RowKit

set_option maxRecDepth 100000 in
set_option maxHeartbeats 4000000 in
theorem a2At_any (bs : List Int) (A : Option Addr) (c : Nat) (k : Nat) (n : Int) (w : World) (hbs : BsOk bs) (h1 : RdB w w.heap.size A bs) :
    Calls Try.prog 75 #[.slice A bs.length c, .int .i64 k, .int .i64 n] w fun e w' => ∃ z, e = .returned (.int .i64 z) ∧ (0 ≤ z ∧ (1 ≤ n → z < n)) ∧ w = w' := by
  by_cases hk : k < bs.length
  · by_cases hn : n < 1
    · have hkl : decide ((bs.length : Int) ≤ (k : Int)) = false := decide_eq_false (by omega)
      have hkn : decide (bs.length ≤ k) = false := decide_eq_false (by omega)
      clear h1
      go_enter Try.func75, Try.ntmps75
      go_wp2_with fail
      go_ret
      exact ⟨0, rfl, ⟨by omega, by omega⟩, rfl⟩
    · obtain ⟨b1, o1, z, rfl, _, hz, hc⟩ := h1.at_ hk
      obtain ⟨hz0, hz1⟩ := hbs.2 z (List.mem_of_getElem? hz)
      have hkl : decide ((bs.length : Int) ≤ (k : Int)) = false := decide_eq_false (by omega)
      have hkn : decide (bs.length ≤ k) = false := decide_eq_false (by omega)
      have hki : (k : Int) < bs.length := by omega
      have hk0 : (0 : Int) ≤ (k : Int) := by omega
      clear h1 hz
      go_enter Try.func75, Try.ntmps75
      go_wp2_with fail
      have hm0 := Int.emod_nonneg z (show n ≠ 0 by omega)
      have hm1 := Int.emod_lt_of_pos z (show 0 < n by omega)
      go_ret
      exact ⟨z % n, rfl, ⟨hm0, by first | exact hm1 | exact fun _ => hm1⟩, rfl⟩
  · have hkl : decide ((bs.length : Int) ≤ (k : Int)) = true := decide_eq_true (by omega)
    have hkn : decide (bs.length ≤ k) = true := decide_eq_true (by omega)
    clear h1
    go_enter Try.func75, Try.ntmps75
    go_wp2_with fail
    go_ret
    exact ⟨0, rfl, ⟨by omega, by omega⟩, rfl⟩
end Go.Proofs.Ytflbddfmhjlknaa
