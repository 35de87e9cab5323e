/-
  Contracts: seals of carriers, in the program and in the reference.
-/
import Derived.Test.YtflbddfmhjlknaaInts
import Derived.Test.YtflbddfmhjlknaaRec
namespace Go.Proofs.Ytflbddfmhjlknaa
open Go.RowKit

/-- A seal is valid: a: its runs, b: the most. -/
def okSeal (x : T2) : Bool := inB 1 1000 x.b && inB 0 x.b x.a
theorem okSeal_iff {x : T2} : okSeal x = true ↔ (1 ≤ x.b ∧ x.b ≤ 1000) ∧ (0 ≤ x.a ∧ x.a ≤ x.b) := by simp [okSeal, inB]
def vSeals (xs : List T2) : Bool := xs.all okSeal && decide (xs.length ≤ 60)
theorem vSeals_iff {xs : List T2} : vSeals xs = true ↔ (∀ x ∈ xs, (1 ≤ x.b ∧ x.b ≤ 1000) ∧ (0 ≤ x.a ∧ x.a ≤ x.b)) ∧ xs.length ≤ 60 := by
  simp only [vSeals, Bool.and_eq_true, List.all_eq_true, decide_eq_true_eq]
  exact and_congr_left fun _ => forall_congr' fun x => forall_congr' fun _ => okSeal_iff

set_option maxRecDepth 100000 in
set_option maxHeartbeats 1000000 in
theorem l07Seals_any (xs : List T2) (A : Option Addr) (c : Nat) (w : World) (hx : xs.length ≤ 1048576) (h1 : Rd2 w w.heap.size A xs) :
    Calls Try.prog 82 #[.slice A xs.length c] w fun e w' => e = .returned (.bool (vSeals xs)) ∧ Below w.heap.size w w' := by
  have HX := hide h1; clear h1
  go_enter Try.func82, Try.ntmps82
  go_wp2_with fail
  go_loopg [3] xs.length (fun g i wr => ∃ k : Nat, k ≤ xs.length ∧ Hid (g = xs.length - k) ∧ i = .int .i64 k ∧ Hid (xs.all okSeal = (xs.drop k).all okSeal) ∧ Below w.heap.size w wr)
  case atStart => exact ⟨0, by omega, by simp [Hid], rfl, by simp [Hid], Below.refl _ _⟩
  case round =>
    obtain ⟨k, hk, hg, rfl, HS, hb⟩ := hrel
    by_cases hlt : k < xs.length
    · obtain ⟨b1, o1, z1, rfl, _, hz1, hca, hcb⟩ := (HX.out.below hb).at_ hlt
      have HS' := HS.out; rw [all_drop _ _ _ _ hz1] at HS'
      have HQ := hide HS'; clear HS' hz1
      by_cases hz : 1 ≤ z1.b ∧ z1.b ≤ 1000
      · obtain ⟨hz0, hz9⟩ := hz
        by_cases hy : 0 ≤ z1.a ∧ z1.a ≤ z1.b
        · have HB := hide (okSeal_iff.2 ⟨⟨hz0, hz9⟩, hy⟩)
          obtain ⟨hy0, hy9⟩ := hy
          go_wp2_with fail
          go_quiet ((go_at_call 83; first | exact ql (l00In_t _ _ _ _ (by omega)) | exact ql (l00In_f _ _ _ _ (by omega)) | exact qla (l00In_t _ _ _ _ (by omega)) | exact qla (l00In_f _ _ _ _ (by omega))))
          go_wp2_with fail
          go_roundg (xs.length - (k + 1))
          case measure => have := hg.out; omega
          case rel => exact ⟨k + 1, by omega, rfl, by go_num, hide (by have := HQ.out; rw [HB.out] at this; simpa using this), bdn hb _⟩
        · have hy' : z1.a < 0 ∨ z1.b < z1.a := by omega
          have HB := hide (show okSeal z1 = false by simp [okSeal, inB_f hy'])
          clear hy
          go_wp2_with fail
          go_quiet ((go_at_call 83; first | exact ql (l00In_t _ _ _ _ (by omega)) | exact ql (l00In_f _ _ _ _ (by omega)) | exact qla (l00In_t _ _ _ _ (by omega)) | exact qla (l00In_f _ _ _ _ (by omega))))
          go_wp2_with fail
          go_ret
          exact ⟨ret_b (by unfold vSeals; rw [HQ.out, HB.out]; rfl), bdn hb _⟩
      · have hz' : z1.b < 1 ∨ 1000 < z1.b := by omega
        have HB := hide (show okSeal z1 = false by simp [okSeal, inB_f hz'])
        clear hz
        go_wp2_with fail
        go_quiet ((go_at_call 83; first | exact ql (l00In_t _ _ _ _ (by omega)) | exact ql (l00In_f _ _ _ _ (by omega)) | exact qla (l00In_t _ _ _ _ (by omega)) | exact qla (l00In_f _ _ _ _ (by omega))))
        go_wp2_with fail
        go_ret
        exact ⟨ret_b (by unfold vSeals; rw [HQ.out, HB.out]; rfl), bdn hb _⟩
    · have HA : Hid (xs.all okSeal = true) := by
        have := HS.out; rw [List.drop_eq_nil_of_le (by omega)] at this; exact this
      go_wp2_with fail
      go_ret
      refine ⟨ret_b ?_, hb⟩
      unfold vSeals
      rw [HA.out]; simp; omega
set_option maxRecDepth 100000 in
set_option maxHeartbeats 1000000 in
theorem specValidSeals_any (xs : List T2) (A : Option Addr) (c : Nat) (w : World) (hx : xs.length ≤ 1048576) (h1 : Rd2 w w.heap.size A xs) :
    Calls Try.prog 28 #[.slice A xs.length c] w fun e w' => e = .returned (.bool (vSeals xs)) ∧ Below w.heap.size w w' := by
  have HC := hide (l07Seals_any xs A c w hx h1)
  clear h1
  go_enter Try.func28, Try.ntmps28
  go_wp2_with (go_at_call 82; refine (HC.out).mono ?_; rintro e w1 ⟨rfl, hb1⟩)
  go_ret
  exact ⟨rfl, hb1⟩
set_option maxRecDepth 100000 in
set_option maxHeartbeats 1000000 in
theorem validSeals1_any (z : T2) (w : World) :
    Calls Try.prog 101 #[.agg #[.int .i64 z.a, .int .i64 z.b]] w fun e w' => e = .returned (.bool (!okSeal z)) ∧ Below w.heap.size w w' := by
  by_cases hz : 1 ≤ z.b ∧ z.b ≤ 1000
  · obtain ⟨hz0, hz9⟩ := hz
    by_cases hy : 0 ≤ z.a ∧ z.a ≤ z.b
    · have HB := hide (okSeal_iff.2 ⟨⟨hz0, hz9⟩, hy⟩)
      obtain ⟨hy0, hy9⟩ := hy
      go_enter Try.func101, Try.ntmps101
      go_wp2_with (go_at_call 80; first | (refine (within_t _ _ _ _ (by omega)).mono ?_; rintro e w' ⟨rfl, rfl⟩) | (refine (within_f _ _ _ _ (by omega)).mono ?_; rintro e w' ⟨rfl, rfl⟩))
      go_ret
      exact ⟨ret_b (by rw [HB.out]; rfl), (by repeat (first | exact Below.refl _ _ | assumption | (refine Below.alloc ?_ (by simp <;> omega) _) | refine Below.drew ?_ | refine bdn ?_ _))⟩
    · have hy' : z.a < 0 ∨ z.b < z.a := by omega
      have HB := hide (show okSeal z = false by simp [okSeal, inB_f hy'])
      clear hy
      go_enter Try.func101, Try.ntmps101
      go_wp2_with (go_at_call 80; first | (refine (within_t _ _ _ _ (by omega)).mono ?_; rintro e w' ⟨rfl, rfl⟩) | (refine (within_f _ _ _ _ (by omega)).mono ?_; rintro e w' ⟨rfl, rfl⟩))
      go_ret
      exact ⟨ret_b (by rw [HB.out]; rfl), (by repeat (first | exact Below.refl _ _ | assumption | (refine Below.alloc ?_ (by simp <;> omega) _) | refine Below.drew ?_ | refine bdn ?_ _))⟩
  · have hz' : z.b < 1 ∨ 1000 < z.b := by omega
    have HB := hide (show okSeal z = false by simp [okSeal, inB_f hz'])
    clear hz
    go_enter Try.func101, Try.ntmps101
    go_wp2_with (go_at_call 80; first | (refine (within_t _ _ _ _ (by omega)).mono ?_; rintro e w' ⟨rfl, rfl⟩) | (refine (within_f _ _ _ _ (by omega)).mono ?_; rintro e w' ⟨rfl, rfl⟩))
    go_ret
    exact ⟨ret_b (by rw [HB.out]; rfl), (by repeat (first | exact Below.refl _ _ | assumption | (refine Below.alloc ?_ (by simp <;> omega) _) | refine Below.drew ?_ | refine bdn ?_ _))⟩
set_option maxRecDepth 100000 in
set_option maxHeartbeats 1000000 in
theorem implValidSeals_any (xs : List T2) (A : Option Addr) (c : Nat) (w : World) (hx : xs.length ≤ 1048576) (h1 : Rd2 w w.heap.size A xs) :
    Calls Try.prog 27 #[.slice A xs.length c] w fun e w' => e = .returned (.bool (vSeals xs)) ∧ Below w.heap.size w w' := by
  by_cases hl : xs.length ≤ 60
  · have hcf := callFunc_gen (P := Try.prog) (F := 101) Try.func101 (by kernel_rfl) (by kernel_rfl)
    have HC := hide (containsFuncSeal_any (fun z => !okSeal z) 101 #[] xs A c w (by omega) hcf h1 (fun z W _ => by simpa using validSeals1_any z W))
    rw [any_not_all] at HC
    clear hcf h1
    go_enter Try.func27, Try.ntmps27
    go_wp2_with (go_at_call 100; refine (HC.out).mono ?_; rintro e w1 ⟨rfl, hb1⟩)
    go_ret
    exact ⟨ret_b (by unfold vSeals; simp [hl]), hb1⟩
  · clear h1
    go_enter Try.func27, Try.ntmps27
    go_wp2_with fail
    go_ret
    exact ⟨ret_b (by unfold vSeals; simp; omega), Below.refl _ _⟩
end Go.Proofs.Ytflbddfmhjlknaa
