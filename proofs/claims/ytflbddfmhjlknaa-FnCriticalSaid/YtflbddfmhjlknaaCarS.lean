/-
  Contracts: a stock is valid, in the program and in the reference.
-/
import Derived.Test.YtflbddfmhjlknaaInts
namespace Go.Proofs.Ytflbddfmhjlknaa
open Go.RowKit

/-- A valid stock. -/
def vStock (zs : List Int) : Bool := zs.all (inB 0 200) && (inB 2 10 zs.length && decide (zs.sum ≤ 200))

set_option maxRecDepth 100000 in
set_option maxHeartbeats 1000000 in
theorem l07Ok_any (xs : List Int) (A : Option Addr) (c : Nat) (w : World) (hx : xs.length ≤ 1048576) (h1 : RdI w w.heap.size A xs) :
    Calls Try.prog 88 #[.slice A xs.length c] w fun e w' => e = .returned (.bool (vStock xs)) ∧ w = w' := by
  have HX := hide h1; clear h1
  go_enter Try.func88, Try.ntmps88
  go_wp2_with fail
  go_loopg [3] xs.length (fun g i wr => ∃ k : Nat, k ≤ xs.length ∧ Hid (g = xs.length - k) ∧ i = .int .i64 k ∧ Hid (xs.all (inB 0 200) = (xs.drop k).all (inB 0 200)) ∧ w = wr)
  case atStart => exact ⟨0, by omega, by simp [Hid], rfl, by simp [Hid], rfl⟩
  case round =>
    obtain ⟨k, hk, hg, rfl, HS, rfl⟩ := hrel
    by_cases hlt : k < xs.length
    · obtain ⟨b1, o1, z1, rfl, _, hz1, hc1⟩ := HX.out.at_ hlt
      have HS' := HS.out; rw [all_drop _ _ _ _ hz1] at HS'
      have HQ := hide HS'; clear HS' hz1
      by_cases hz : 0 ≤ z1 ∧ z1 ≤ 200
      · have HB := hide (inB_t hz)
        obtain ⟨hz0, hz9⟩ := hz
        go_wp2_with (go_at_call 83; first | (refine (l00In_t _ _ _ _ (by omega)).mono ?_; rintro e w' ⟨rfl, rfl⟩) | (refine (l00In_f _ _ _ _ (by omega)).mono ?_; rintro e w' ⟨rfl, rfl⟩))
        go_roundg (xs.length - (k + 1))
        case measure => have := hg.out; omega
        case rel => exact ⟨k + 1, by omega, rfl, by go_num, hide (by have := HQ.out; rw [HB.out] at this; simpa using this), rfl⟩
      · have hz' : z1 < 0 ∨ 200 < z1 := by omega
        have HB := hide (inB_f hz')
        clear hz
        go_wp2_with (go_at_call 83; first | (refine (l00In_t _ _ _ _ (by omega)).mono ?_; rintro e w' ⟨rfl, rfl⟩) | (refine (l00In_f _ _ _ _ (by omega)).mono ?_; rintro e w' ⟨rfl, rfl⟩))
        go_ret
        refine ⟨ret_b ?_, rfl⟩
        unfold vStock
        rw [HQ.out, HB.out]; rfl
    · have HA : Hid (xs.all (inB 0 200) = true) := by
        have := HS.out; rw [List.drop_eq_nil_of_le (by omega)] at this; exact this
      by_cases hl : 2 ≤ xs.length ∧ xs.length ≤ 10
      · have HL := hide (inB_t (lo := 2) (hi := 10) (n := (xs.length : Int)) (by omega))
        obtain ⟨hl2, hl10⟩ := hl
        have HC := hide (l00Sum_any xs A c w hx (fun z hz => by have := List.all_eq_true.1 HA.out z hz; rw [inB_iff] at this; omega) HX.out)
        go_wp2_with (first | (go_at_call 83; first | (refine (l00In_t _ _ _ _ (by omega)).mono ?_; rintro e w' ⟨rfl, rfl⟩) | (refine (l00In_f _ _ _ _ (by omega)).mono ?_; rintro e w' ⟨rfl, rfl⟩)) | (go_at_call 108; refine HC.out.mono ?_; rintro e w' ⟨rfl, rfl⟩))
        go_ret
        refine ⟨ret_b ?_, rfl⟩
        unfold vStock
        rw [HA.out, HL.out]; simp
      · have hl' : (xs.length : Int) < 2 ∨ 10 < (xs.length : Int) := by omega
        have HL := hide (inB_f hl')
        clear hl
        go_wp2_with (go_at_call 83; first | (refine (l00In_t _ _ _ _ (by omega)).mono ?_; rintro e w' ⟨rfl, rfl⟩) | (refine (l00In_f _ _ _ _ (by omega)).mono ?_; rintro e w' ⟨rfl, rfl⟩))
        go_ret
        refine ⟨ret_b ?_, rfl⟩
        unfold vStock
        rw [HA.out, HL.out]; simp
set_option maxRecDepth 100000 in
set_option maxHeartbeats 1000000 in
theorem specValidStock_any (xs : List Int) (A : Option Addr) (c : Nat) (w : World) (hx : xs.length ≤ 1048576) (h1 : RdI w w.heap.size A xs) :
    Calls Try.prog 44 #[.slice A xs.length c] w fun e w' => e = .returned (.bool (vStock xs)) ∧ w = w' := by
  have HC := hide (l07Ok_any xs A c w hx h1)
  clear h1
  go_enter Try.func44, Try.ntmps44
  go_wp2_with (go_at_call 88; refine HC.out.mono ?_; rintro e w' ⟨rfl, rfl⟩)
  go_ret
  exact ⟨rfl, rfl⟩
set_option maxRecDepth 100000 in
set_option maxHeartbeats 1000000 in
theorem isCount_any (n : Int) (w : World) :
    Calls Try.prog 96 #[.int .i64 n] w fun e w' => e = .returned (.bool (inB 2 10 n)) ∧ w = w' := by
  have HC := hide (within_any n 2 10 w)
  go_enter Try.func96, Try.ntmps96
  go_wp2_with (go_at_call 80; refine HC.out.mono ?_; rintro e w' ⟨rfl, rfl⟩)
  go_ret
  exact ⟨rfl, rfl⟩
set_option maxRecDepth 100000 in
set_option maxHeartbeats 1000000 in
theorem implValidStock_any (xs : List Int) (A : Option Addr) (c : Nat) (w : World) (hx : xs.length ≤ 1048576) (h1 : RdI w w.heap.size A xs) :
    Calls Try.prog 43 #[.slice A xs.length c] w fun e w' => e = .returned (.bool (vStock xs)) ∧ Below w.heap.size w w' := by
  have HC := hide (isCount_any (xs.length : Int))
  by_cases hl : 2 ≤ xs.length ∧ xs.length ≤ 10
  · have HL := inB_t (lo := 2) (hi := 10) (n := (xs.length : Int)) (by omega)
    rw [HL] at HC
    have HL' := hide HL; clear HL hl
    have HO := hide (outside_any xs 0 200 A c w (by omega) h1)
    cases ha : xs.all (inB 0 200)
    · rw [any_not_all, ha] at HO
      have HA := hide ha; clear ha
      have HX := hide h1; clear h1
      go_enter Try.func43, Try.ntmps43
      go_wp2_with (first | (go_at_call 96; refine (HC.out _).mono ?_; rintro e w' ⟨rfl, rfl⟩) | (go_at_call 114; refine (HO.out).mono ?_; rintro e w1 ⟨rfl, hb1⟩))
      go_ret
      exact ⟨ret_b (by unfold vStock; rw [HA.out]; rfl), hb1⟩
    · rw [any_not_all, ha] at HO
      have HA := hide ha; clear ha
      have HX := hide h1; clear h1
      have HS := hide fun W (hW : Below w.heap.size w W) => sumOf_any xs A c W hx (fun z hz => by have := List.all_eq_true.1 HA.out z hz; rw [inB_iff] at this; omega) ((HX.out.below hW).more hW.size)
      go_enter Try.func43, Try.ntmps43
      go_wp2_with (first | (go_at_call 96; refine (HC.out _).mono ?_; rintro e w' ⟨rfl, rfl⟩) | (go_at_call 114; refine (HO.out).mono ?_; rintro e w1 ⟨rfl, hb1⟩) | (go_at_call 105; refine (HS.out _ hb1).mono ?_; rintro e w' ⟨rfl, rfl⟩))
      go_ret
      exact ⟨ret_b (by unfold vStock; rw [HA.out, HL'.out]; simp), hb1⟩
  · have HL := inB_f (lo := 2) (hi := 10) (n := (xs.length : Int)) (by omega)
    rw [HL] at HC
    have HL' := hide HL; clear HL hl h1
    go_enter Try.func43, Try.ntmps43
    go_wp2_with (go_at_call 96; refine (HC.out _).mono ?_; rintro e w' ⟨rfl, rfl⟩)
    go_ret
    exact ⟨ret_b (by unfold vStock; rw [HL'.out]; simp), Below.refl _ _⟩
end Go.Proofs.Ytflbddfmhjlknaa
