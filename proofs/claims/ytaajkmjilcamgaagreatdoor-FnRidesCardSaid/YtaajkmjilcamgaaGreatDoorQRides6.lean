/-
  A ride as a text, in both packages.
  Words of letters. Plain lemmas.
-/
import Derived.Test.YtaajkmjilcamgaaGreatDoorQRides2
import Derived.Test.YtaajkmjilcamgaaGreatDoorQRides3
import Derived.Test.YtaajkmjilcamgaaGreatDoorQRides5
import Derived.Test.YtaajkmjilcamgaaGreatDoorQRides4
import Derived.Deep.DeepCutAuto
import Derived.Deep.RegionHeld3
import Derived.Test.YtaajkmjilcamgaaGreatDoorQRides0
namespace Go.Proofs.YtaajkmjilcamgaaGreatDoor
open Go.RowKit
theorem decB_size {n : Int} (h0 : -9223372036854775808 ≤ n) (h1 : n ≤ 9223372036854775807) : (decB n).size ≤ 21 := itoa_size h0 h1
set_option maxRecDepth 100000 in
set_option maxHeartbeats 4000000 in
theorem implRideText_any (x : T4) (w : World) (ht : TabW w) :
    Calls Tryz.prog 27 #[.agg #[.int .i64 x.a, .int .i64 x.b, .int .i64 x.c, .int .i64 x.d]] w fun e w' => e = .returned (.string (rideB x)) ∧ Below w.heap.size w w' := by
  obtain ⟨xa, xb, xc, xd⟩ := x
  have X0 := hide (BoxN.new w #[.int .i64 xa, .int .i64 xb, .int .i64 xc, .int .i64 xd] 44)
  have B0 := hide (show Below w.heap.size w (w.alloc (.cells #[.int .i64 xa, .int .i64 xb, .int .i64 xc, .int .i64 xd] 44)) from (Below.refl _ _).alloc (Nat.le_refl _) _)
  have HOK := hide fun W => implValidRide_any ⟨xa, xb, xc, xd⟩ W
  dsimp only at HOK ⊢
  cases hok : okR ⟨xa, xb, xc, xd⟩
  · have HE := hide (rideB_no hok)
    rw [hok] at HOK
    clear hok
    go_enter Tryz.func27, Tryz.ntmps27
    go_upto_region 1 with fail
    generalize w.alloc (.cells #[.int .i64 xa, .int .i64 xb, .int .i64 xc, .int .i64 xd] 44) = wA at *
    have k0 := X0.out.cell 0
    have k1 := X0.out.cell 1
    have k2 := X0.out.cell 2
    have k3 := X0.out.cell 3
    go_wp2_with (go_at_call 32; (with_reducible refine (HOK.out _).mono ?_); rintro e w1 ⟨rfl, b1⟩)
    go_ret
    exact ⟨by rw [HE.out]; rfl, B0.out.trans (b1.mono B0.out.size)⟩
  have HE := hide (show rideB ⟨xa, xb, xc, xd⟩ = textR (decB xa) (decB xb) (decB xc) (decB xd) by unfold rideB; rw [if_pos hok])
  obtain ⟨q1, q2, q3, q4⟩ := okR_iff.1 hok
  dsimp only at q1 q2 q3 q4
  have hza := decB_size (n := xa) (by omega) (by omega)
  have hzb := decB_size (n := xb) (by omega) (by omega)
  have hzc := decB_size (n := xc) (by omega) (by omega)
  have hzd := decB_size (n := xd) (by omega) (by omega)
  rw [hok] at HOK
  have HA := hide fun W (hW : Below w.heap.size w W) => decimal_any xa W (by omega) (by omega) (ht.below hW)
  have HB := hide fun W (hW : Below w.heap.size w W) => decimal_any xb W (by omega) (by omega) (ht.below hW)
  have HC := hide fun W (hW : Below w.heap.size w W) => decimal_any xc W (by omega) (by omega) (ht.below hW)
  have HD := hide fun W (hW : Below w.heap.size w W) => decimal_any xd W (by omega) (by omega) (ht.below hW)
  clear hok q1 q2 q3 q4
  generalize decB xa = SA at *
  generalize decB xb = SB at *
  generalize decB xc = SC at *
  generalize decB xd = SD at *
  have c1 : ¬ 9223372036854775807 < SA.size + 2 := by omega
  have c2 : ¬ 9223372036854775807 < SA.size + 2 + SB.size := by omega
  have c3 : ¬ 9223372036854775807 < SA.size + 2 + SB.size + 2 := by omega
  have c4 : ¬ 9223372036854775807 < SA.size + 2 + SB.size + 2 + SC.size := by omega
  have c5 : ¬ 9223372036854775807 < SA.size + 2 + SB.size + 2 + SC.size + 2 := by omega
  have c6 : ¬ 9223372036854775807 < SA.size + 2 + SB.size + 2 + SC.size + 2 + SD.size := by omega
  have c7 : ¬ 9223372036854775807 < SA.size + 2 + SB.size + 2 + SC.size + 2 + SD.size + 1 := by omega
  go_enter Tryz.func27, Tryz.ntmps27
  go_upto_region 1 with fail
  generalize hwA : w.alloc (.cells #[.int .i64 xa, .int .i64 xb, .int .i64 xc, .int .i64 xd] 44) = wA at *
  clear hwA
  have k0 := X0.out.cell 0
  have k1 := X0.out.cell 1
  have k2 := X0.out.cell 2
  have k3 := X0.out.cell 3
  have hgw := X0.out.lt
  go_wp2_with (go_at_call 32; (with_reducible refine (HOK.out _).mono ?_); rintro e w1 ⟨rfl, b1⟩)
  have X1 := hide (X0.out.below b1 hgw)
  have B1 := hide (B0.out.trans (b1.mono B0.out.size))
  clear k0 k1 k2 k3 b1 X0 B0 HOK
  have X2 : Hid (BoxN w1.drew w.heap.size #[.int .i64 xa, .int .i64 xb, .int .i64 xc, .int .i64 xd] 44) := X1.out
  have B2 := hide (show Below w.heap.size w w1.drew from B1.out.drew)
  clear X1 B1
  have e0 := X2.out.cell 0
  have e1 := X2.out.cell 1
  have e2 := X2.out.cell 2
  have e3 := X2.out.cell 3
  refine wp_region_held_drew (S := fun W => W.cell? ⟨w.heap.size, 0, none⟩ = some (.int .i64 xa) ∧ W.cell? ⟨w.heap.size, 1, none⟩ = some (.int .i64 xb) ∧ W.cell? ⟨w.heap.size, 2, none⟩ = some (.int .i64 xc) ∧ W.cell? ⟨w.heap.size, 3, none⟩ = some (.int .i64 xd)) (by kernel_rfl) (⟨e0, e1, e2, e3⟩) (fun hHeld => ?_)
  generalize w1.drew = wd at *
  refine wpAnyH_take (i := 0) (v := ?_) rfl (by kernel_rfl) (by kernel_rfl) (by kernel_rfl) (fun _ _ _ h => h) (Or.inl ⟨by rfl, ?_⟩) (by assumption) ?_
  rotate_left 1
  · (intro w hSw; (try dsimp only at hSw); go_simp; try with_reducible rfl)
  try simp only [Act.put, List.getElem_toArray, List.getElem_cons_succ, List.getElem_cons_zero, List.setIfInBounds_toArray, List.set_cons_zero, List.set_cons_succ]
  refine wpAnyH_take (i := 1) (v := ?_) rfl (by kernel_rfl) (by kernel_rfl) (by kernel_rfl) (fun _ _ _ h => h) (Or.inl ⟨by rfl, ?_⟩) (by assumption) ?_
  rotate_left 1
  · (intro w hSw; (try dsimp only at hSw); go_simp; try with_reducible rfl)
  try simp only [Act.put, List.getElem_toArray, List.getElem_cons_succ, List.getElem_cons_zero, List.setIfInBounds_toArray, List.set_cons_zero, List.set_cons_succ]
  refine wpAnyH_take (i := 4) (v := ?_) rfl (by kernel_rfl) (by kernel_rfl) (by kernel_rfl) (fun _ _ _ h => h) (Or.inl ⟨by rfl, ?_⟩) (by assumption) ?_
  rotate_left 1
  · (intro w hSw; (try dsimp only at hSw); go_simp; try with_reducible rfl)
  try simp only [Act.put, List.getElem_toArray, List.getElem_cons_succ, List.getElem_cons_zero, List.setIfInBounds_toArray, List.set_cons_zero, List.set_cons_succ]
  refine wpAnyH_take (i := 5) (v := ?_) rfl (by kernel_rfl) (by kernel_rfl) (by kernel_rfl) (fun _ _ _ h => h) (Or.inl ⟨by rfl, ?_⟩) (by assumption) ?_
  rotate_left 1
  · (intro w hSw; (try dsimp only at hSw); go_simp; try with_reducible rfl)
  try simp only [Act.put, List.getElem_toArray, List.getElem_cons_succ, List.getElem_cons_zero, List.setIfInBounds_toArray, List.set_cons_zero, List.set_cons_succ]
  refine wpAnyH_take (i := 9) (v := ?_) rfl (by kernel_rfl) (by kernel_rfl) (by kernel_rfl) (fun _ _ _ h => h) (Or.inl ⟨by rfl, ?_⟩) (by assumption) ?_
  rotate_left 1
  · (intro w hSw; (try dsimp only at hSw); go_simp; try with_reducible rfl)
  try simp only [Act.put, List.getElem_toArray, List.getElem_cons_succ, List.getElem_cons_zero, List.setIfInBounds_toArray, List.set_cons_zero, List.set_cons_succ]
  refine wpAnyH_take (i := 10) (v := ?_) rfl (by kernel_rfl) (by kernel_rfl) (by kernel_rfl) (fun _ _ _ h => h) (Or.inl ⟨by rfl, ?_⟩) (by assumption) ?_
  rotate_left 1
  · (intro w hSw; (try dsimp only at hSw); go_simp; try with_reducible rfl)
  try simp only [Act.put, List.getElem_toArray, List.getElem_cons_succ, List.getElem_cons_zero, List.setIfInBounds_toArray, List.set_cons_zero, List.set_cons_succ]
  refine wpAnyH_take (i := 14) (v := ?_) rfl (by kernel_rfl) (by kernel_rfl) (by kernel_rfl) (fun _ _ _ h => h) (Or.inl ⟨by rfl, ?_⟩) (by assumption) ?_
  rotate_left 1
  · (intro w hSw; (try dsimp only at hSw); go_simp; try with_reducible rfl)
  try simp only [Act.put, List.getElem_toArray, List.getElem_cons_succ, List.getElem_cons_zero, List.setIfInBounds_toArray, List.set_cons_zero, List.set_cons_succ]
  refine wpAnyH_take (i := 15) (v := ?_) rfl (by kernel_rfl) (by kernel_rfl) (by kernel_rfl) (fun _ _ _ h => h) (Or.inl ⟨by rfl, ?_⟩) (by assumption) ?_
  rotate_left 1
  · (intro w hSw; (try dsimp only at hSw); go_simp; try with_reducible rfl)
  try simp only [Act.put, List.getElem_toArray, List.getElem_cons_succ, List.getElem_cons_zero, List.setIfInBounds_toArray, List.set_cons_zero, List.set_cons_succ]
  refine wpAnyH_ready (rs := [2]) (by kernel_rfl) (by simp) ?_
  refine AllReadyH.cons rfl (fun K hK => ?_) AllReadyH.nil
  try simp only [Act.put, List.getElem_toArray, List.getElem_cons_succ, List.getElem_cons_zero, List.setIfInBounds_toArray, List.set_cons_zero, List.set_cons_succ]
  go_simp
  go_at_call 44
  refine (HA.out _ B2.out).mono ?_
  rintro e w3 ⟨rfl, b3⟩
  have X3 := hide (X2.out.below b3 X2.out.lt)
  have B3 := hide (B2.out.trans (b3.mono B2.out.size))
  clear e0 e1 e2 e3 b3 X2 B2 HA
  have e0 := X3.out.cell 0
  have e1 := X3.out.cell 1
  have e2 := X3.out.cell 2
  have e3 := X3.out.cell 3
  dsimp only
  refine hK.out _ _ (⟨e0, e1, e2, e3⟩) (fun hHeld => ?_)
  clear hK K
  try simp only [Act.put, List.getElem_toArray, List.getElem_cons_succ, List.getElem_cons_zero, List.setIfInBounds_toArray, List.set_cons_zero, List.set_cons_succ]
  refine wpAnyH_take (i := 3) (v := ?_) rfl (by kernel_rfl) (by kernel_rfl) (by kernel_rfl) (fun _ _ _ h => h) (Or.inl ⟨by rfl, ?_⟩) (by assumption) ?_
  rotate_left 1
  · (intro w hSw; (try dsimp only at hSw); go_simp; try with_reducible rfl)
  try simp only [Act.put, List.getElem_toArray, List.getElem_cons_succ, List.getElem_cons_zero, List.setIfInBounds_toArray, List.set_cons_zero, List.set_cons_succ]
  refine wpAnyH_ready (rs := [6]) (by kernel_rfl) (by simp) ?_
  refine AllReadyH.cons rfl (fun K hK => ?_) AllReadyH.nil
  try simp only [Act.put, List.getElem_toArray, List.getElem_cons_succ, List.getElem_cons_zero, List.setIfInBounds_toArray, List.set_cons_zero, List.set_cons_succ]
  go_simp
  go_at_call 44
  refine (HB.out _ B3.out).mono ?_
  rintro e w4 ⟨rfl, b4⟩
  have X4 := hide (X3.out.below b4 X3.out.lt)
  have B4 := hide (B3.out.trans (b4.mono B3.out.size))
  clear e0 e1 e2 e3 b4 X3 B3 HB
  have e0 := X4.out.cell 0
  have e1 := X4.out.cell 1
  have e2 := X4.out.cell 2
  have e3 := X4.out.cell 3
  dsimp only
  refine hK.out _ _ (⟨e0, e1, e2, e3⟩) (fun hHeld => ?_)
  clear hK K
  try simp only [Act.put, List.getElem_toArray, List.getElem_cons_succ, List.getElem_cons_zero, List.setIfInBounds_toArray, List.set_cons_zero, List.set_cons_succ]
  refine wpAnyH_take (i := 7) (v := ?_) rfl (by kernel_rfl) (by kernel_rfl) (by kernel_rfl) (fun _ _ _ h => h) (Or.inl ⟨by rfl, ?_⟩) (by assumption) ?_
  rotate_left 1
  · (intro w hSw; (try dsimp only at hSw); go_simp; try with_reducible rfl)
  try simp only [Act.put, List.getElem_toArray, List.getElem_cons_succ, List.getElem_cons_zero, List.setIfInBounds_toArray, List.set_cons_zero, List.set_cons_succ]
  refine wpAnyH_take (i := 8) (v := ?_) rfl (by kernel_rfl) (by kernel_rfl) (by kernel_rfl) (fun _ _ _ h => h) (Or.inl ⟨by rfl, ?_⟩) (by assumption) ?_
  rotate_left 1
  · (intro w hSw; (try dsimp only at hSw); go_simp; try with_reducible rfl)
  try simp only [Act.put, List.getElem_toArray, List.getElem_cons_succ, List.getElem_cons_zero, List.setIfInBounds_toArray, List.set_cons_zero, List.set_cons_succ]
  refine wpAnyH_ready (rs := [11]) (by kernel_rfl) (by simp) ?_
  refine AllReadyH.cons rfl (fun K hK => ?_) AllReadyH.nil
  try simp only [Act.put, List.getElem_toArray, List.getElem_cons_succ, List.getElem_cons_zero, List.setIfInBounds_toArray, List.set_cons_zero, List.set_cons_succ]
  go_simp
  go_at_call 44
  refine (HC.out _ B4.out).mono ?_
  rintro e w5 ⟨rfl, b5⟩
  have X5 := hide (X4.out.below b5 X4.out.lt)
  have B5 := hide (B4.out.trans (b5.mono B4.out.size))
  clear e0 e1 e2 e3 b5 X4 B4 HC
  have e0 := X5.out.cell 0
  have e1 := X5.out.cell 1
  have e2 := X5.out.cell 2
  have e3 := X5.out.cell 3
  dsimp only
  refine hK.out _ _ (⟨e0, e1, e2, e3⟩) (fun hHeld => ?_)
  clear hK K
  try simp only [Act.put, List.getElem_toArray, List.getElem_cons_succ, List.getElem_cons_zero, List.setIfInBounds_toArray, List.set_cons_zero, List.set_cons_succ]
  refine wpAnyH_take (i := 12) (v := ?_) rfl (by kernel_rfl) (by kernel_rfl) (by kernel_rfl) (fun _ _ _ h => h) (Or.inl ⟨by rfl, ?_⟩) (by assumption) ?_
  rotate_left 1
  · (intro w hSw; (try dsimp only at hSw); go_simp; try with_reducible rfl)
  try simp only [Act.put, List.getElem_toArray, List.getElem_cons_succ, List.getElem_cons_zero, List.setIfInBounds_toArray, List.set_cons_zero, List.set_cons_succ]
  refine wpAnyH_take (i := 13) (v := ?_) rfl (by kernel_rfl) (by kernel_rfl) (by kernel_rfl) (fun _ _ _ h => h) (Or.inl ⟨by rfl, ?_⟩) (by assumption) ?_
  rotate_left 1
  · (intro w hSw; (try dsimp only at hSw); go_simp; try with_reducible rfl)
  try simp only [Act.put, List.getElem_toArray, List.getElem_cons_succ, List.getElem_cons_zero, List.setIfInBounds_toArray, List.set_cons_zero, List.set_cons_succ]
  refine wpAnyH_ready (rs := [16]) (by kernel_rfl) (by simp) ?_
  refine AllReadyH.cons rfl (fun K hK => ?_) AllReadyH.nil
  try simp only [Act.put, List.getElem_toArray, List.getElem_cons_succ, List.getElem_cons_zero, List.setIfInBounds_toArray, List.set_cons_zero, List.set_cons_succ]
  go_simp
  go_at_call 44
  refine (HD.out _ B5.out).mono ?_
  rintro e w6 ⟨rfl, b6⟩
  have X6 := hide (X5.out.below b6 X5.out.lt)
  have B6 := hide (B5.out.trans (b6.mono B5.out.size))
  clear e0 e1 e2 e3 b6 X5 B5 HD
  have e0 := X6.out.cell 0
  have e1 := X6.out.cell 1
  have e2 := X6.out.cell 2
  have e3 := X6.out.cell 3
  dsimp only
  refine hK.out _ _ (⟨e0, e1, e2, e3⟩) (fun hHeld => ?_)
  clear hK K
  try simp only [Act.put, List.getElem_toArray, List.getElem_cons_succ, List.getElem_cons_zero, List.setIfInBounds_toArray, List.set_cons_zero, List.set_cons_succ]
  refine wpAnyH_take (i := 17) (v := ?_) rfl (by kernel_rfl) (by kernel_rfl) (by kernel_rfl) (fun _ _ _ h => h) (Or.inl ⟨by rfl, ?_⟩) (by assumption) ?_
  rotate_left 1
  · (intro w hSw; (try dsimp only at hSw); go_simp; try with_reducible rfl)
  try simp only [Act.put, List.getElem_toArray, List.getElem_cons_succ, List.getElem_cons_zero, List.setIfInBounds_toArray, List.set_cons_zero, List.set_cons_succ]
  refine wpAnyH_take (i := 18) (v := ?_) rfl (by kernel_rfl) (by kernel_rfl) (by kernel_rfl) (fun _ _ _ h => h) (Or.inl ⟨by rfl, ?_⟩) (by assumption) ?_
  rotate_left 1
  · (intro w hSw; (try dsimp only at hSw); go_simp; try with_reducible rfl)
  try simp only [Act.put, List.getElem_toArray, List.getElem_cons_succ, List.getElem_cons_zero, List.setIfInBounds_toArray, List.set_cons_zero, List.set_cons_succ]
  refine wpAnyH_take (i := 19) (v := ?_) rfl (by kernel_rfl) (by kernel_rfl) (by kernel_rfl) (fun _ _ _ h => h) (Or.inl ⟨by rfl, ?_⟩) (by assumption) ?_
  rotate_left 1
  · (intro w hSw; (try dsimp only at hSw); go_simp; try with_reducible rfl)
  try simp only [Act.put, List.getElem_toArray, List.getElem_cons_succ, List.getElem_cons_zero, List.setIfInBounds_toArray, List.set_cons_zero, List.set_cons_succ]
  refine wpAnyH_done (by kernel_rfl) ?_ _
  go_wp2_with fail
  go_ret
  exact ⟨by rw [HE.out]; rfl, B6.out⟩
set_option maxRecDepth 100000 in
set_option maxHeartbeats 4000000 in
theorem l03Text_any (xa xb xc xd : Int) (g : Nat) (w : World) (hok : okR ⟨xa, xb, xc, xd⟩ = true) (hX : BoxN w g #[.int .i64 xa, .int .i64 xb, .int .i64 xc, .int .i64 xd] 44) :
    Calls Tryz.prog 62 #[.pointer (some ⟨g, 0, none⟩)] w fun e w' => e = .returned (.string (rideB ⟨xa, xb, xc, xd⟩)) ∧ Below w.heap.size w w' := by
  have HE := hide (show rideB ⟨xa, xb, xc, xd⟩ = textR (decB xa) (decB xb) (decB xc) (decB xd) by unfold rideB; rw [if_pos hok])
  obtain ⟨q1, q2, q3, q4⟩ := okR_iff.1 hok
  dsimp only at q1 q2 q3 q4
  have hza := decB_size (n := xa) (by omega) (by omega)
  have hzb := decB_size (n := xb) (by omega) (by omega)
  have hzc := decB_size (n := xc) (by omega) (by omega)
  have hzd := decB_size (n := xd) (by omega) (by omega)
  have HA := hide fun W (hW : Below w.heap.size w W) => l01Dec_any xa W (by omega) (by omega)
  have HB := hide fun W (hW : Below w.heap.size w W) => l01Dec_any xb W (by omega) (by omega)
  have HC := hide fun W (hW : Below w.heap.size w W) => l01Dec_any xc W (by omega) (by omega)
  have HD := hide fun W (hW : Below w.heap.size w W) => l01Dec_any xd W (by omega) (by omega)
  clear hok q1 q2 q3 q4
  generalize decB xa = SA at *
  generalize decB xb = SB at *
  generalize decB xc = SC at *
  generalize decB xd = SD at *
  have c1 : ¬ 9223372036854775807 < SA.size + 2 := by omega
  have c2 : ¬ 9223372036854775807 < SA.size + 2 + SB.size := by omega
  have c3 : ¬ 9223372036854775807 < SA.size + 2 + SB.size + 2 := by omega
  have c4 : ¬ 9223372036854775807 < SA.size + 2 + SB.size + 2 + SC.size := by omega
  have c5 : ¬ 9223372036854775807 < SA.size + 2 + SB.size + 2 + SC.size + 2 := by omega
  have c6 : ¬ 9223372036854775807 < SA.size + 2 + SB.size + 2 + SC.size + 2 + SD.size := by omega
  have c7 : ¬ 9223372036854775807 < SA.size + 2 + SB.size + 2 + SC.size + 2 + SD.size + 1 := by omega
  have X2 : Hid (BoxN w.drew g #[.int .i64 xa, .int .i64 xb, .int .i64 xc, .int .i64 xd] 44) := hX
  have B2 := hide (show Below w.heap.size w w.drew from (Below.refl _ _).drew)
  clear hX
  go_enter Tryz.func62, Tryz.ntmps62
  go_upto_region 1 with fail
  have e0 := X2.out.cell 0
  have e1 := X2.out.cell 1
  have e2 := X2.out.cell 2
  have e3 := X2.out.cell 3
  refine wp_region_held_drew (S := fun W => W.cell? ⟨g, 0, none⟩ = some (.int .i64 xa) ∧ W.cell? ⟨g, 1, none⟩ = some (.int .i64 xb) ∧ W.cell? ⟨g, 2, none⟩ = some (.int .i64 xc) ∧ W.cell? ⟨g, 3, none⟩ = some (.int .i64 xd)) (by kernel_rfl) (⟨e0, e1, e2, e3⟩) (fun hHeld => ?_)
  generalize w.drew = wd at *
  refine wpAnyH_take (i := 0) (v := ?_) rfl (by kernel_rfl) (by kernel_rfl) (by kernel_rfl) (fun _ _ _ h => h) (Or.inl ⟨by rfl, ?_⟩) (by assumption) ?_
  rotate_left 1
  · (intro w hSw; (try dsimp only at hSw); go_simp; try with_reducible rfl)
  try simp only [Act.put, List.getElem_toArray, List.getElem_cons_succ, List.getElem_cons_zero, List.setIfInBounds_toArray, List.set_cons_zero, List.set_cons_succ]
  refine wpAnyH_take (i := 1) (v := ?_) rfl (by kernel_rfl) (by kernel_rfl) (by kernel_rfl) (fun _ _ _ h => h) (Or.inl ⟨by rfl, ?_⟩) (by assumption) ?_
  rotate_left 1
  · (intro w hSw; (try dsimp only at hSw); go_simp; try with_reducible rfl)
  try simp only [Act.put, List.getElem_toArray, List.getElem_cons_succ, List.getElem_cons_zero, List.setIfInBounds_toArray, List.set_cons_zero, List.set_cons_succ]
  refine wpAnyH_take (i := 2) (v := ?_) rfl (by kernel_rfl) (by kernel_rfl) (by kernel_rfl) (fun _ _ _ h => h) (Or.inl ⟨by rfl, ?_⟩) (by assumption) ?_
  rotate_left 1
  · (intro w hSw; (try dsimp only at hSw); go_simp; try with_reducible rfl)
  try simp only [Act.put, List.getElem_toArray, List.getElem_cons_succ, List.getElem_cons_zero, List.setIfInBounds_toArray, List.set_cons_zero, List.set_cons_succ]
  refine wpAnyH_take (i := 3) (v := ?_) rfl (by kernel_rfl) (by kernel_rfl) (by kernel_rfl) (fun _ _ _ h => h) (Or.inl ⟨by rfl, ?_⟩) (by assumption) ?_
  rotate_left 1
  · (intro w hSw; (try dsimp only at hSw); go_simp; try with_reducible rfl)
  try simp only [Act.put, List.getElem_toArray, List.getElem_cons_succ, List.getElem_cons_zero, List.setIfInBounds_toArray, List.set_cons_zero, List.set_cons_succ]
  refine wpAnyH_take (i := 6) (v := ?_) rfl (by kernel_rfl) (by kernel_rfl) (by kernel_rfl) (fun _ _ _ h => h) (Or.inl ⟨by rfl, ?_⟩) (by assumption) ?_
  rotate_left 1
  · (intro w hSw; (try dsimp only at hSw); go_simp; try with_reducible rfl)
  try simp only [Act.put, List.getElem_toArray, List.getElem_cons_succ, List.getElem_cons_zero, List.setIfInBounds_toArray, List.set_cons_zero, List.set_cons_succ]
  refine wpAnyH_take (i := 7) (v := ?_) rfl (by kernel_rfl) (by kernel_rfl) (by kernel_rfl) (fun _ _ _ h => h) (Or.inl ⟨by rfl, ?_⟩) (by assumption) ?_
  rotate_left 1
  · (intro w hSw; (try dsimp only at hSw); go_simp; try with_reducible rfl)
  try simp only [Act.put, List.getElem_toArray, List.getElem_cons_succ, List.getElem_cons_zero, List.setIfInBounds_toArray, List.set_cons_zero, List.set_cons_succ]
  refine wpAnyH_take (i := 8) (v := ?_) rfl (by kernel_rfl) (by kernel_rfl) (by kernel_rfl) (fun _ _ _ h => h) (Or.inl ⟨by rfl, ?_⟩) (by assumption) ?_
  rotate_left 1
  · (intro w hSw; (try dsimp only at hSw); go_simp; try with_reducible rfl)
  try simp only [Act.put, List.getElem_toArray, List.getElem_cons_succ, List.getElem_cons_zero, List.setIfInBounds_toArray, List.set_cons_zero, List.set_cons_succ]
  refine wpAnyH_take (i := 9) (v := ?_) rfl (by kernel_rfl) (by kernel_rfl) (by kernel_rfl) (fun _ _ _ h => h) (Or.inl ⟨by rfl, ?_⟩) (by assumption) ?_
  rotate_left 1
  · (intro w hSw; (try dsimp only at hSw); go_simp; try with_reducible rfl)
  try simp only [Act.put, List.getElem_toArray, List.getElem_cons_succ, List.getElem_cons_zero, List.setIfInBounds_toArray, List.set_cons_zero, List.set_cons_succ]
  refine wpAnyH_take (i := 13) (v := ?_) rfl (by kernel_rfl) (by kernel_rfl) (by kernel_rfl) (fun _ _ _ h => h) (Or.inl ⟨by rfl, ?_⟩) (by assumption) ?_
  rotate_left 1
  · (intro w hSw; (try dsimp only at hSw); go_simp; try with_reducible rfl)
  try simp only [Act.put, List.getElem_toArray, List.getElem_cons_succ, List.getElem_cons_zero, List.setIfInBounds_toArray, List.set_cons_zero, List.set_cons_succ]
  refine wpAnyH_take (i := 14) (v := ?_) rfl (by kernel_rfl) (by kernel_rfl) (by kernel_rfl) (fun _ _ _ h => h) (Or.inl ⟨by rfl, ?_⟩) (by assumption) ?_
  rotate_left 1
  · (intro w hSw; (try dsimp only at hSw); go_simp; try with_reducible rfl)
  try simp only [Act.put, List.getElem_toArray, List.getElem_cons_succ, List.getElem_cons_zero, List.setIfInBounds_toArray, List.set_cons_zero, List.set_cons_succ]
  refine wpAnyH_take (i := 15) (v := ?_) rfl (by kernel_rfl) (by kernel_rfl) (by kernel_rfl) (fun _ _ _ h => h) (Or.inl ⟨by rfl, ?_⟩) (by assumption) ?_
  rotate_left 1
  · (intro w hSw; (try dsimp only at hSw); go_simp; try with_reducible rfl)
  try simp only [Act.put, List.getElem_toArray, List.getElem_cons_succ, List.getElem_cons_zero, List.setIfInBounds_toArray, List.set_cons_zero, List.set_cons_succ]
  refine wpAnyH_take (i := 16) (v := ?_) rfl (by kernel_rfl) (by kernel_rfl) (by kernel_rfl) (fun _ _ _ h => h) (Or.inl ⟨by rfl, ?_⟩) (by assumption) ?_
  rotate_left 1
  · (intro w hSw; (try dsimp only at hSw); go_simp; try with_reducible rfl)
  try simp only [Act.put, List.getElem_toArray, List.getElem_cons_succ, List.getElem_cons_zero, List.setIfInBounds_toArray, List.set_cons_zero, List.set_cons_succ]
  refine wpAnyH_take (i := 20) (v := ?_) rfl (by kernel_rfl) (by kernel_rfl) (by kernel_rfl) (fun _ _ _ h => h) (Or.inl ⟨by rfl, ?_⟩) (by assumption) ?_
  rotate_left 1
  · (intro w hSw; (try dsimp only at hSw); go_simp; try with_reducible rfl)
  try simp only [Act.put, List.getElem_toArray, List.getElem_cons_succ, List.getElem_cons_zero, List.setIfInBounds_toArray, List.set_cons_zero, List.set_cons_succ]
  refine wpAnyH_take (i := 21) (v := ?_) rfl (by kernel_rfl) (by kernel_rfl) (by kernel_rfl) (fun _ _ _ h => h) (Or.inl ⟨by rfl, ?_⟩) (by assumption) ?_
  rotate_left 1
  · (intro w hSw; (try dsimp only at hSw); go_simp; try with_reducible rfl)
  try simp only [Act.put, List.getElem_toArray, List.getElem_cons_succ, List.getElem_cons_zero, List.setIfInBounds_toArray, List.set_cons_zero, List.set_cons_succ]
  refine wpAnyH_take (i := 22) (v := ?_) rfl (by kernel_rfl) (by kernel_rfl) (by kernel_rfl) (fun _ _ _ h => h) (Or.inl ⟨by rfl, ?_⟩) (by assumption) ?_
  rotate_left 1
  · (intro w hSw; (try dsimp only at hSw); go_simp; try with_reducible rfl)
  try simp only [Act.put, List.getElem_toArray, List.getElem_cons_succ, List.getElem_cons_zero, List.setIfInBounds_toArray, List.set_cons_zero, List.set_cons_succ]
  refine wpAnyH_take (i := 23) (v := ?_) rfl (by kernel_rfl) (by kernel_rfl) (by kernel_rfl) (fun _ _ _ h => h) (Or.inl ⟨by rfl, ?_⟩) (by assumption) ?_
  rotate_left 1
  · (intro w hSw; (try dsimp only at hSw); go_simp; try with_reducible rfl)
  try simp only [Act.put, List.getElem_toArray, List.getElem_cons_succ, List.getElem_cons_zero, List.setIfInBounds_toArray, List.set_cons_zero, List.set_cons_succ]
  refine wpAnyH_ready (rs := [4]) (by kernel_rfl) (by simp) ?_
  refine AllReadyH.cons rfl (fun K hK => ?_) AllReadyH.nil
  try simp only [Act.put, List.getElem_toArray, List.getElem_cons_succ, List.getElem_cons_zero, List.setIfInBounds_toArray, List.set_cons_zero, List.set_cons_succ]
  go_simp
  go_at_call 91
  refine (HA.out _ B2.out).mono ?_
  rintro e w3 ⟨rfl, b3⟩
  have X3 := hide (X2.out.below b3 X2.out.lt)
  have B3 := hide (B2.out.trans (b3.mono B2.out.size))
  clear e0 e1 e2 e3 b3 X2 B2 HA
  have e0 := X3.out.cell 0
  have e1 := X3.out.cell 1
  have e2 := X3.out.cell 2
  have e3 := X3.out.cell 3
  dsimp only
  refine hK.out _ _ (⟨e0, e1, e2, e3⟩) (fun hHeld => ?_)
  clear hK K
  try simp only [Act.put, List.getElem_toArray, List.getElem_cons_succ, List.getElem_cons_zero, List.setIfInBounds_toArray, List.set_cons_zero, List.set_cons_succ]
  refine wpAnyH_take (i := 5) (v := ?_) rfl (by kernel_rfl) (by kernel_rfl) (by kernel_rfl) (fun _ _ _ h => h) (Or.inl ⟨by rfl, ?_⟩) (by assumption) ?_
  rotate_left 1
  · (intro w hSw; (try dsimp only at hSw); go_simp; try with_reducible rfl)
  try simp only [Act.put, List.getElem_toArray, List.getElem_cons_succ, List.getElem_cons_zero, List.setIfInBounds_toArray, List.set_cons_zero, List.set_cons_succ]
  refine wpAnyH_ready (rs := [10]) (by kernel_rfl) (by simp) ?_
  refine AllReadyH.cons rfl (fun K hK => ?_) AllReadyH.nil
  try simp only [Act.put, List.getElem_toArray, List.getElem_cons_succ, List.getElem_cons_zero, List.setIfInBounds_toArray, List.set_cons_zero, List.set_cons_succ]
  go_simp
  go_at_call 91
  refine (HB.out _ B3.out).mono ?_
  rintro e w4 ⟨rfl, b4⟩
  have X4 := hide (X3.out.below b4 X3.out.lt)
  have B4 := hide (B3.out.trans (b4.mono B3.out.size))
  clear e0 e1 e2 e3 b4 X3 B3 HB
  have e0 := X4.out.cell 0
  have e1 := X4.out.cell 1
  have e2 := X4.out.cell 2
  have e3 := X4.out.cell 3
  dsimp only
  refine hK.out _ _ (⟨e0, e1, e2, e3⟩) (fun hHeld => ?_)
  clear hK K
  try simp only [Act.put, List.getElem_toArray, List.getElem_cons_succ, List.getElem_cons_zero, List.setIfInBounds_toArray, List.set_cons_zero, List.set_cons_succ]
  refine wpAnyH_take (i := 11) (v := ?_) rfl (by kernel_rfl) (by kernel_rfl) (by kernel_rfl) (fun _ _ _ h => h) (Or.inl ⟨by rfl, ?_⟩) (by assumption) ?_
  rotate_left 1
  · (intro w hSw; (try dsimp only at hSw); go_simp; try with_reducible rfl)
  try simp only [Act.put, List.getElem_toArray, List.getElem_cons_succ, List.getElem_cons_zero, List.setIfInBounds_toArray, List.set_cons_zero, List.set_cons_succ]
  refine wpAnyH_take (i := 12) (v := ?_) rfl (by kernel_rfl) (by kernel_rfl) (by kernel_rfl) (fun _ _ _ h => h) (Or.inl ⟨by rfl, ?_⟩) (by assumption) ?_
  rotate_left 1
  · (intro w hSw; (try dsimp only at hSw); go_simp; try with_reducible rfl)
  try simp only [Act.put, List.getElem_toArray, List.getElem_cons_succ, List.getElem_cons_zero, List.setIfInBounds_toArray, List.set_cons_zero, List.set_cons_succ]
  refine wpAnyH_ready (rs := [17]) (by kernel_rfl) (by simp) ?_
  refine AllReadyH.cons rfl (fun K hK => ?_) AllReadyH.nil
  try simp only [Act.put, List.getElem_toArray, List.getElem_cons_succ, List.getElem_cons_zero, List.setIfInBounds_toArray, List.set_cons_zero, List.set_cons_succ]
  go_simp
  go_at_call 91
  refine (HC.out _ B4.out).mono ?_
  rintro e w5 ⟨rfl, b5⟩
  have X5 := hide (X4.out.below b5 X4.out.lt)
  have B5 := hide (B4.out.trans (b5.mono B4.out.size))
  clear e0 e1 e2 e3 b5 X4 B4 HC
  have e0 := X5.out.cell 0
  have e1 := X5.out.cell 1
  have e2 := X5.out.cell 2
  have e3 := X5.out.cell 3
  dsimp only
  refine hK.out _ _ (⟨e0, e1, e2, e3⟩) (fun hHeld => ?_)
  clear hK K
  try simp only [Act.put, List.getElem_toArray, List.getElem_cons_succ, List.getElem_cons_zero, List.setIfInBounds_toArray, List.set_cons_zero, List.set_cons_succ]
  refine wpAnyH_take (i := 18) (v := ?_) rfl (by kernel_rfl) (by kernel_rfl) (by kernel_rfl) (fun _ _ _ h => h) (Or.inl ⟨by rfl, ?_⟩) (by assumption) ?_
  rotate_left 1
  · (intro w hSw; (try dsimp only at hSw); go_simp; try with_reducible rfl)
  try simp only [Act.put, List.getElem_toArray, List.getElem_cons_succ, List.getElem_cons_zero, List.setIfInBounds_toArray, List.set_cons_zero, List.set_cons_succ]
  refine wpAnyH_take (i := 19) (v := ?_) rfl (by kernel_rfl) (by kernel_rfl) (by kernel_rfl) (fun _ _ _ h => h) (Or.inl ⟨by rfl, ?_⟩) (by assumption) ?_
  rotate_left 1
  · (intro w hSw; (try dsimp only at hSw); go_simp; try with_reducible rfl)
  try simp only [Act.put, List.getElem_toArray, List.getElem_cons_succ, List.getElem_cons_zero, List.setIfInBounds_toArray, List.set_cons_zero, List.set_cons_succ]
  refine wpAnyH_ready (rs := [24]) (by kernel_rfl) (by simp) ?_
  refine AllReadyH.cons rfl (fun K hK => ?_) AllReadyH.nil
  try simp only [Act.put, List.getElem_toArray, List.getElem_cons_succ, List.getElem_cons_zero, List.setIfInBounds_toArray, List.set_cons_zero, List.set_cons_succ]
  go_simp
  go_at_call 91
  refine (HD.out _ B5.out).mono ?_
  rintro e w6 ⟨rfl, b6⟩
  have X6 := hide (X5.out.below b6 X5.out.lt)
  have B6 := hide (B5.out.trans (b6.mono B5.out.size))
  clear e0 e1 e2 e3 b6 X5 B5 HD
  have e0 := X6.out.cell 0
  have e1 := X6.out.cell 1
  have e2 := X6.out.cell 2
  have e3 := X6.out.cell 3
  dsimp only
  refine hK.out _ _ (⟨e0, e1, e2, e3⟩) (fun hHeld => ?_)
  clear hK K
  try simp only [Act.put, List.getElem_toArray, List.getElem_cons_succ, List.getElem_cons_zero, List.setIfInBounds_toArray, List.set_cons_zero, List.set_cons_succ]
  refine wpAnyH_take (i := 25) (v := ?_) rfl (by kernel_rfl) (by kernel_rfl) (by kernel_rfl) (fun _ _ _ h => h) (Or.inl ⟨by rfl, ?_⟩) (by assumption) ?_
  rotate_left 1
  · (intro w hSw; (try dsimp only at hSw); go_simp; try with_reducible rfl)
  try simp only [Act.put, List.getElem_toArray, List.getElem_cons_succ, List.getElem_cons_zero, List.setIfInBounds_toArray, List.set_cons_zero, List.set_cons_succ]
  refine wpAnyH_take (i := 26) (v := ?_) rfl (by kernel_rfl) (by kernel_rfl) (by kernel_rfl) (fun _ _ _ h => h) (Or.inl ⟨by rfl, ?_⟩) (by assumption) ?_
  rotate_left 1
  · (intro w hSw; (try dsimp only at hSw); go_simp; try with_reducible rfl)
  try simp only [Act.put, List.getElem_toArray, List.getElem_cons_succ, List.getElem_cons_zero, List.setIfInBounds_toArray, List.set_cons_zero, List.set_cons_succ]
  refine wpAnyH_take (i := 27) (v := ?_) rfl (by kernel_rfl) (by kernel_rfl) (by kernel_rfl) (fun _ _ _ h => h) (Or.inl ⟨by rfl, ?_⟩) (by assumption) ?_
  rotate_left 1
  · (intro w hSw; (try dsimp only at hSw); go_simp; try with_reducible rfl)
  try simp only [Act.put, List.getElem_toArray, List.getElem_cons_succ, List.getElem_cons_zero, List.setIfInBounds_toArray, List.set_cons_zero, List.set_cons_succ]
  refine wpAnyH_done (by kernel_rfl) ?_ _
  go_wp2_with fail
  go_ret
  exact ⟨by rw [HE.out]; rfl, B6.out⟩
set_option maxRecDepth 100000 in
set_option maxHeartbeats 4000000 in
theorem specRideText_any (x : T4) (w : World) :
    Calls Tryz.prog 31 #[.agg #[.int .i64 x.a, .int .i64 x.b, .int .i64 x.c, .int .i64 x.d]] w fun e w' => e = .returned (.string (rideB x)) ∧ Below w.heap.size w w' := by
  obtain ⟨xa, xb, xc, xd⟩ := x
  have X0 := hide (BoxN.new w #[.int .i64 xa, .int .i64 xb, .int .i64 xc, .int .i64 xd] 44)
  have B0 := hide (show Below w.heap.size w (w.alloc (.cells #[.int .i64 xa, .int .i64 xb, .int .i64 xc, .int .i64 xd] 44)) from (Below.refl _ _).alloc (Nat.le_refl _) _)
  have HOK := hide (specOk_any ⟨xa, xb, xc, xd⟩ w.heap.size 0 (w.alloc (.cells #[.int .i64 xa, .int .i64 xb, .int .i64 xc, .int .i64 xd] 44)) ⟨X0.out.cell 0, X0.out.cell 1, X0.out.cell 2, X0.out.cell 3⟩)
  have HT := hide fun W (h : okR ⟨xa, xb, xc, xd⟩ = true) (hX : BoxN W w.heap.size #[.int .i64 xa, .int .i64 xb, .int .i64 xc, .int .i64 xd] 44) => l03Text_any xa xb xc xd w.heap.size W h hX
  dsimp only at HOK ⊢
  cases hok : okR ⟨xa, xb, xc, xd⟩
  · have HE := hide (rideB_no hok)
    rw [hok] at HOK
    clear hok
    go_enter Tryz.func31, Tryz.ntmps31
    go_upto_region 1 with fail
    generalize w.alloc (.cells #[.int .i64 xa, .int .i64 xb, .int .i64 xc, .int .i64 xd] 44) = wA at *
    go_wp2_with (go_at_call 50; (with_reducible refine (HOK.out).mono ?_); rintro e w1 ⟨rfl, rfl⟩)
    go_ret
    exact ⟨by rw [HE.out]; rfl, B0.out⟩
  rw [hok] at HOK
  have HOK2 := hide hok
  clear hok
  go_enter Tryz.func31, Tryz.ntmps31
  go_upto_region 1 with fail
  generalize w.alloc (.cells #[.int .i64 xa, .int .i64 xb, .int .i64 xc, .int .i64 xd] 44) = wA at *
  have hgw := X0.out.lt
  go_wp2_with (first | (go_at_call 50; (with_reducible refine (HOK.out).mono ?_); rintro e w1 ⟨rfl, rfl⟩) | (go_at_call 62; (with_reducible refine (HT.out _ HOK2.out X0.out).mono ?_); rintro e w2 ⟨rfl, b2⟩))
  go_ret
  exact ⟨rfl, B0.out.trans (b2.mono B0.out.size)⟩
end Go.Proofs.YtaajkmjilcamgaaGreatDoor
namespace Go.Proofs.YtaajkmjilcamgaaGreatDoor
open Go.RowKit
/-- A letter of a text, as a number. -/
def chr (s : ByteArray) (i : Nat) : Int := ((s.get! i).toNat : Int)
theorem chr_bd (s : ByteArray) (i : Nat) : 0 ≤ chr s i ∧ chr s i ≤ 255 := by
  unfold chr
  have := (s.get! i).toNat_lt
  omega
/-- In how many of the places i, i + 1 .. (m of them) two texts differ. -/
def farN (a b : ByteArray) : Nat → Nat → Int
  | _, 0 => 0
  | i, m + 1 => (if chr a i = chr b i then 0 else 1) + farN a b (i + 1) m
def farB (a b : ByteArray) : Int := farN a b 0 a.size
theorem farN_bd (a b : ByteArray) : ∀ m i, 0 ≤ farN a b i m ∧ farN a b i m ≤ m := by
  intro m
  induction m with
  | zero => intro i; exact ⟨Int.le_refl _, Int.le_refl _⟩
  | succ m ih =>
    intro i
    have := ih (i + 1)
    rw [farN]
    split <;> omega
theorem farN_sym (a b : ByteArray) : ∀ m i, farN a b i m = farN b a i m := by
  intro m
  induction m with
  | zero => intro i; rfl
  | succ m ih =>
    intro i
    rw [farN, farN, ih (i + 1)]
    by_cases h : chr a i = chr b i
    · rw [if_pos h, if_pos h.symm]
    · rw [if_neg h, if_neg (fun e => h e.symm)]
theorem farB_sym {a b : ByteArray} (h : a.size = b.size) : farB a b = farB b a := by
  unfold farB
  rw [farN_sym, h]
theorem farB_bd (a b : ByteArray) : 0 ≤ farB a b ∧ farB a b ≤ a.size := farN_bd a b a.size 0
/-- All letters from i on (m of them) are signs. -/
def letN (n : Int) (s : ByteArray) : Nat → Nat → Bool
  | _, 0 => true
  | i, m + 1 => decide (97 ≤ chr s i ∧ chr s i ≤ 97 + n - 1) && letN n s (i + 1) m
def wordB (n : Int) (s : ByteArray) : Bool := letN n s 0 s.size && decide (1 ≤ s.size ∧ s.size ≤ 8)
theorem letN_false {n : Int} {s : ByteArray} {i m : Nat} (h : ¬ (97 ≤ chr s i ∧ chr s i ≤ 97 + n - 1)) : letN n s i (m + 1) = false := by rw [letN, decide_eq_false h]; rfl
theorem letN_true {n : Int} {s : ByteArray} {i m : Nat} (h : 97 ≤ chr s i ∧ chr s i ≤ 97 + n - 1) : letN n s i (m + 1) = letN n s (i + 1) m := by rw [letN, decide_eq_true h]; rfl
theorem wordB_bad {n : Int} {s : ByteArray} (h : letN n s 0 s.size = false) : wordB n s = false := by unfold wordB; rw [h]; rfl
theorem wordB_good {n : Int} {s : ByteArray} (h : letN n s 0 s.size = true) : wordB n s = decide (1 ≤ s.size ∧ s.size ≤ 8) := by unfold wordB; rw [h]; rfl
end Go.Proofs.YtaajkmjilcamgaaGreatDoor
