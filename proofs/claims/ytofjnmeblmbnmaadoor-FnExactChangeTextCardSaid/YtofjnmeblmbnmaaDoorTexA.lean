/-
  A change as a text, in both packages.
-/
import Derived.Test.YtofjnmeblmbnmaaDoorDecA
import Derived.Test.YtofjnmeblmbnmaaDoorZon
import Derived.Test.YtofjnmeblmbnmaaDoorNestL
import Derived.Deep.DeepCutAuto
namespace Go.Proofs.YtofjnmeblmbnmaaDoor
open Go.RowKit
def chgT (A B C : ByteArray) : ByteArray := A ++ ⟨#[58, 32, 122, 111, 110, 101, 32]⟩ ++ B ++ ⟨#[32, 97, 116, 32]⟩ ++ C
def chgB (y : T3) : ByteArray := if okC 8 y = true then chgT (decB y.a) (decB y.b) (decB y.c) else ⟨#[]⟩
theorem decB_size {n : Int} (h0 : -9223372036854775808 ≤ n) (h1 : n ≤ 9223372036854775807) : (decB n).size ≤ 21 := itoa_size h0 h1
theorem l09Change_any' (n : Int) (y : T3) (b : Nat) (W : World) (hX : BoxN W b #[.int .i64 y.a, .int .i64 y.b, .int .i64 y.c] 41) (h0 : -1000000 ≤ n := by decide) (h1 : n ≤ 1000000 := by decide) :
    Calls Tryd.prog 66 #[.int .i64 n, .pointer (some ⟨b, 0, none⟩)] W fun e w' => e = .returned (.bool (okC n y)) ∧ Below W.heap.size W w' :=
  (l09Change_any n y b 0 W h0 h1 (hX.cell 0) (hX.cell 1) (hX.cell 2)).mono fun _ _ ⟨he, hw⟩ => ⟨he, by rw [hw]; exact Below.refl _ _⟩
set_option maxRecDepth 100000 in
set_option maxHeartbeats 4000000 in
theorem implChangeText_any (y : T3) (w : World) (hf : y.Fits) (ht : TabW w) :
    Calls Tryd.prog 23 #[.agg #[.int .i64 y.a, .int .i64 y.b, .int .i64 y.c]] w fun e w' => e = .returned (.string (chgB y)) ∧ Below w.heap.size w w' := by
  obtain ⟨ya, yb, yc⟩ := y
  obtain ⟨⟨ha0, ha1⟩, ⟨hb0, hb1⟩, hc0, hc1⟩ := hf
  dsimp only at ha0 ha1 hb0 hb1 hc0 hc1 ⊢
  have X0 := hide (BoxN.new w #[.int .i64 ya, .int .i64 yb, .int .i64 yc] 41)
  have B0 := hide (show Below w.heap.size w (w.alloc (.cells #[.int .i64 ya, .int .i64 yb, .int .i64 yc] 41)) from (Below.refl _ _).alloc (Nat.le_refl _) _)
  have HOK := hide fun W (hX : BoxN W w.heap.size #[.int .i64 ya, .int .i64 yb, .int .i64 yc] 41) => isChange_any 8 ⟨ya, yb, yc⟩ W (by decide) (by decide)
  cases hok : okC 8 ⟨ya, yb, yc⟩
  · have HE := hide (show chgB ⟨ya, yb, yc⟩ = ⟨#[]⟩ by unfold chgB; rw [hok]; rfl)
    rw [hok] at HOK
    clear hok
    go_enter Tryd.func23, Tryd.ntmps23
    go_upto_region 1 with fail
    generalize w.alloc (.cells #[.int .i64 ya, .int .i64 yb, .int .i64 yc] 41) = wA at *
    generalize w.heap.size = gw at X0 HOK
    have k0 := X0.out.cell 0
    have k1 := X0.out.cell 1
    have k2 := X0.out.cell 2
    go_wp2_with (go_at_call 68; (with_reducible refine (HOK.out _ X0.out).mono ?_); rintro e w1 ⟨rfl, b1⟩)
    go_ret
    exact ⟨by rw [HE.out]; rfl, B0.out.trans (b1.mono B0.out.size)⟩
  have HE := hide (show chgB ⟨ya, yb, yc⟩ = chgT (decB ya) (decB yb) (decB yc) by unfold chgB; rw [hok]; rfl)
  rw [hok] at HOK
  have hA := decB_size ha0 ha1
  have hB := decB_size hb0 hb1
  have hC := decB_size hc0 hc1
  have HA := hide fun W (hW : Below w.heap.size w W) => decimal_any ya W ha0 ha1 (ht.below hW)
  have HB := hide fun W (hW : Below w.heap.size w W) => decimal_any yb W hb0 hb1 (ht.below hW)
  have HC := hide fun W (hW : Below w.heap.size w W) => decimal_any yc W hc0 hc1 (ht.below hW)
  clear hok
  generalize decB ya = SA at *
  generalize decB yb = SB at *
  generalize decB yc = SC at *
  have c1 : ¬ 9223372036854775807 < SA.size + 7 := by omega
  have c2 : ¬ 9223372036854775807 < SA.size + 7 + SB.size := by omega
  have c3 : ¬ 9223372036854775807 < SA.size + 7 + SB.size + 4 := by omega
  have c4 : ¬ 9223372036854775807 < SA.size + 7 + SB.size + 4 + SC.size := by omega
  go_enter Tryd.func23, Tryd.ntmps23
  go_upto_region 1 with fail
  generalize hwA : w.alloc (.cells #[.int .i64 ya, .int .i64 yb, .int .i64 yc] 41) = wA at *
  clear hwA
  have k0 := X0.out.cell 0
  have k1 := X0.out.cell 1
  have k2 := X0.out.cell 2
  have hgw := X0.out.lt
  go_wp2_with (go_at_call 68; (with_reducible refine (HOK.out _ X0.out).mono ?_); rintro e w1 ⟨rfl, b1⟩)
  have X1 := hide (X0.out.below b1 hgw)
  have B1 := hide (B0.out.trans (b1.mono B0.out.size))
  clear k0 k1 k2 b1 X0 B0 HOK
  have X2 : Hid (BoxN w1.drew w.heap.size #[.int .i64 ya, .int .i64 yb, .int .i64 yc] 41) := X1.out
  have B2 := hide (show Below w.heap.size w w1.drew from B1.out.drew)
  have e0 := X2.out.cell 0
  have e1 := X2.out.cell 1
  have e2 := X2.out.cell 2
  clear X1 B1
  refine wp_region_held_drew (S := fun W => W.cell? ⟨w.heap.size, 0, none⟩ = some (.int .i64 ya) ∧ W.cell? ⟨w.heap.size, 1, none⟩ = some (.int .i64 yb) ∧ W.cell? ⟨w.heap.size, 2, none⟩ = some (.int .i64 yc)) (by kernel_rfl) (⟨e0, e1, e2⟩) (fun hHeld => ?_)
  generalize w1.drew = wd at *
  refine wpAnyH_take (i := 0) (v := ?_) rfl (by kernel_rfl) (by kernel_rfl) (by kernel_rfl) (fun _ _ _ h => h) (Or.inl ⟨by rfl, ?_⟩) (by assumption) ?_
  rotate_left 1
  · (intro w hSw; (try dsimp only at hSw); go_simp; try with_reducible rfl)
  try simp only [Act.put, List.getElem_toArray, List.getElem_cons_succ, List.getElem_cons_zero, List.setIfInBounds_toArray, List.set_cons_zero, List.set_cons_succ]
  refine wpAnyH_take (i := 1) (v := ?_) rfl (by kernel_rfl) (by kernel_rfl) (by kernel_rfl) (fun _ _ _ h => h) (Or.inl ⟨by rfl, ?_⟩) (by assumption) ?_
  rotate_left 1
  · (intro w hSw; (try dsimp only at hSw); go_simp; try with_reducible rfl)
  try simp only [Act.put, List.getElem_toArray, List.getElem_cons_succ, List.getElem_cons_zero, List.setIfInBounds_toArray, List.set_cons_zero, List.set_cons_succ]
  refine wpAnyH_take (i := 4) (v := ?_) rfl (by kernel_rfl) (by kernel_rfl) (by kernel_rfl) (fun _ _ _ h => h) (Or.inl ⟨by rfl, ?_⟩) (by assumption) ?_
  rotate_left 1
  · (intro w hSw; (try dsimp only at hSw); go_simp; try with_reducible rfl)
  try simp only [Act.put, List.getElem_toArray, List.getElem_cons_succ, List.getElem_cons_zero, List.setIfInBounds_toArray, List.set_cons_zero, List.set_cons_succ]
  refine wpAnyH_take (i := 5) (v := ?_) rfl (by kernel_rfl) (by kernel_rfl) (by kernel_rfl) (fun _ _ _ h => h) (Or.inl ⟨by rfl, ?_⟩) (by assumption) ?_
  rotate_left 1
  · (intro w hSw; (try dsimp only at hSw); go_simp; try with_reducible rfl)
  try simp only [Act.put, List.getElem_toArray, List.getElem_cons_succ, List.getElem_cons_zero, List.setIfInBounds_toArray, List.set_cons_zero, List.set_cons_succ]
  refine wpAnyH_take (i := 9) (v := ?_) rfl (by kernel_rfl) (by kernel_rfl) (by kernel_rfl) (fun _ _ _ h => h) (Or.inl ⟨by rfl, ?_⟩) (by assumption) ?_
  rotate_left 1
  · (intro w hSw; (try dsimp only at hSw); go_simp; try with_reducible rfl)
  try simp only [Act.put, List.getElem_toArray, List.getElem_cons_succ, List.getElem_cons_zero, List.setIfInBounds_toArray, List.set_cons_zero, List.set_cons_succ]
  refine wpAnyH_take (i := 10) (v := ?_) rfl (by kernel_rfl) (by kernel_rfl) (by kernel_rfl) (fun _ _ _ h => h) (Or.inl ⟨by rfl, ?_⟩) (by assumption) ?_
  rotate_left 1
  · (intro w hSw; (try dsimp only at hSw); go_simp; try with_reducible rfl)
  try simp only [Act.put, List.getElem_toArray, List.getElem_cons_succ, List.getElem_cons_zero, List.setIfInBounds_toArray, List.set_cons_zero, List.set_cons_succ]
  refine wpAnyH_ready (rs := [2]) (by kernel_rfl) (by simp) ?_
  refine AllReadyH.cons rfl (fun K hK => ?_) AllReadyH.nil
  try simp only [Act.put, List.getElem_toArray, List.getElem_cons_succ, List.getElem_cons_zero, List.setIfInBounds_toArray, List.set_cons_zero, List.set_cons_succ]
  go_simp
  go_at_call 69
  refine (HA.out _ B2.out).mono ?_
  rintro e w3 ⟨rfl, b3⟩
  have X3 := hide (X2.out.below b3 X2.out.lt)
  have B3 := hide (B2.out.trans (b3.mono B2.out.size))
  have f0 := X3.out.cell 0
  have f1 := X3.out.cell 1
  have f2 := X3.out.cell 2
  clear e0 e1 e2 b3 X2 B2 HA
  dsimp only
  refine hK.out _ _ (⟨f0, f1, f2⟩) (fun hHeld => ?_)
  clear hK K
  try simp only [Act.put, List.getElem_toArray, List.getElem_cons_succ, List.getElem_cons_zero, List.setIfInBounds_toArray, List.set_cons_zero, List.set_cons_succ]
  refine wpAnyH_take (i := 3) (v := ?_) rfl (by kernel_rfl) (by kernel_rfl) (by kernel_rfl) (fun _ _ _ h => h) (Or.inl ⟨by rfl, ?_⟩) (by assumption) ?_
  rotate_left 1
  · (intro w hSw; (try dsimp only at hSw); go_simp; try with_reducible rfl)
  try simp only [Act.put, List.getElem_toArray, List.getElem_cons_succ, List.getElem_cons_zero, List.setIfInBounds_toArray, List.set_cons_zero, List.set_cons_succ]
  refine wpAnyH_ready (rs := [6]) (by kernel_rfl) (by simp) ?_
  refine AllReadyH.cons rfl (fun K hK => ?_) AllReadyH.nil
  try simp only [Act.put, List.getElem_toArray, List.getElem_cons_succ, List.getElem_cons_zero, List.setIfInBounds_toArray, List.set_cons_zero, List.set_cons_succ]
  go_simp
  go_at_call 69
  refine (HB.out _ B3.out).mono ?_
  rintro e w4 ⟨rfl, b4⟩
  have X4 := hide (X3.out.below b4 X3.out.lt)
  have B4 := hide (B3.out.trans (b4.mono B3.out.size))
  have g0 := X4.out.cell 0
  have g1 := X4.out.cell 1
  have g2 := X4.out.cell 2
  clear f0 f1 f2 b4 X3 B3 HB
  dsimp only
  refine hK.out _ _ (⟨g0, g1, g2⟩) (fun hHeld => ?_)
  clear hK K
  try simp only [Act.put, List.getElem_toArray, List.getElem_cons_succ, List.getElem_cons_zero, List.setIfInBounds_toArray, List.set_cons_zero, List.set_cons_succ]
  refine wpAnyH_take (i := 7) (v := ?_) rfl (by kernel_rfl) (by kernel_rfl) (by kernel_rfl) (fun _ _ _ h => h) (Or.inl ⟨by rfl, ?_⟩) (by assumption) ?_
  rotate_left 1
  · (intro w hSw; (try dsimp only at hSw); go_simp; try with_reducible rfl)
  try simp only [Act.put, List.getElem_toArray, List.getElem_cons_succ, List.getElem_cons_zero, List.setIfInBounds_toArray, List.set_cons_zero, List.set_cons_succ]
  refine wpAnyH_take (i := 8) (v := ?_) rfl (by kernel_rfl) (by kernel_rfl) (by kernel_rfl) (fun _ _ _ h => h) (Or.inl ⟨by rfl, ?_⟩) (by assumption) ?_
  rotate_left 1
  · (intro w hSw; (try dsimp only at hSw); go_simp; try with_reducible rfl)
  try simp only [Act.put, List.getElem_toArray, List.getElem_cons_succ, List.getElem_cons_zero, List.setIfInBounds_toArray, List.set_cons_zero, List.set_cons_succ]
  refine wpAnyH_ready (rs := [11]) (by kernel_rfl) (by simp) ?_
  refine AllReadyH.cons rfl (fun K hK => ?_) AllReadyH.nil
  try simp only [Act.put, List.getElem_toArray, List.getElem_cons_succ, List.getElem_cons_zero, List.setIfInBounds_toArray, List.set_cons_zero, List.set_cons_succ]
  go_simp
  go_at_call 69
  refine (HC.out _ B4.out).mono ?_
  rintro e w5 ⟨rfl, b5⟩
  have X5 := hide (X4.out.below b5 X4.out.lt)
  have B5 := hide (B4.out.trans (b5.mono B4.out.size))
  have l0 := X5.out.cell 0
  have l1 := X5.out.cell 1
  have l2 := X5.out.cell 2
  clear g0 g1 g2 b5 X4 B4 HC
  dsimp only
  refine hK.out _ _ (⟨l0, l1, l2⟩) (fun hHeld => ?_)
  clear hK K
  try simp only [Act.put, List.getElem_toArray, List.getElem_cons_succ, List.getElem_cons_zero, List.setIfInBounds_toArray, List.set_cons_zero, List.set_cons_succ]
  refine wpAnyH_take (i := 12) (v := ?_) rfl (by kernel_rfl) (by kernel_rfl) (by kernel_rfl) (fun _ _ _ h => h) (Or.inl ⟨by rfl, ?_⟩) (by assumption) ?_
  rotate_left 1
  · (intro w hSw; (try dsimp only at hSw); go_simp; try with_reducible rfl)
  try simp only [Act.put, List.getElem_toArray, List.getElem_cons_succ, List.getElem_cons_zero, List.setIfInBounds_toArray, List.set_cons_zero, List.set_cons_succ]
  refine wpAnyH_take (i := 13) (v := ?_) rfl (by kernel_rfl) (by kernel_rfl) (by kernel_rfl) (fun _ _ _ h => h) (Or.inl ⟨by rfl, ?_⟩) (by assumption) ?_
  rotate_left 1
  · (intro w hSw; (try dsimp only at hSw); go_simp; try with_reducible rfl)
  try simp only [Act.put, List.getElem_toArray, List.getElem_cons_succ, List.getElem_cons_zero, List.setIfInBounds_toArray, List.set_cons_zero, List.set_cons_succ]
  refine wpAnyH_done (by kernel_rfl) ?_ _
  go_wp2_with fail
  go_ret
  exact ⟨by rw [HE.out]; rfl, B5.out⟩
set_option maxRecDepth 100000 in
set_option maxHeartbeats 4000000 in
theorem specChangeText_any (y : T3) (w : World) (hf : y.Fits) :
    Calls Tryd.prog 21 #[.agg #[.int .i64 y.a, .int .i64 y.b, .int .i64 y.c]] w fun e w' => e = .returned (.string (chgB y)) ∧ Below w.heap.size w w' := by
  obtain ⟨ya, yb, yc⟩ := y
  obtain ⟨⟨ha0, ha1⟩, ⟨hb0, hb1⟩, hc0, hc1⟩ := hf
  dsimp only at ha0 ha1 hb0 hb1 hc0 hc1 ⊢
  have X0 := hide (BoxN.new w #[.int .i64 ya, .int .i64 yb, .int .i64 yc] 41)
  have B0 := hide (show Below w.heap.size w (w.alloc (.cells #[.int .i64 ya, .int .i64 yb, .int .i64 yc] 41)) from (Below.refl _ _).alloc (Nat.le_refl _) _)
  have HOK := hide fun W (hX : BoxN W w.heap.size #[.int .i64 ya, .int .i64 yb, .int .i64 yc] 41) => l09Change_any' 8 ⟨ya, yb, yc⟩ w.heap.size W hX
  cases hok : okC 8 ⟨ya, yb, yc⟩
  · have HE := hide (show chgB ⟨ya, yb, yc⟩ = ⟨#[]⟩ by unfold chgB; rw [hok]; rfl)
    rw [hok] at HOK
    clear hok
    go_enter Tryd.func21, Tryd.ntmps21
    go_upto_region 1 with fail
    generalize w.alloc (.cells #[.int .i64 ya, .int .i64 yb, .int .i64 yc] 41) = wA at *
    generalize w.heap.size = gw at X0 HOK
    have k0 := X0.out.cell 0
    have k1 := X0.out.cell 1
    have k2 := X0.out.cell 2
    go_wp2_with (go_at_call 66; (with_reducible refine (HOK.out _ X0.out).mono ?_); rintro e w1 ⟨rfl, b1⟩)
    go_ret
    exact ⟨by rw [HE.out]; rfl, B0.out.trans (b1.mono B0.out.size)⟩
  have HE := hide (show chgB ⟨ya, yb, yc⟩ = chgT (decB ya) (decB yb) (decB yc) by unfold chgB; rw [hok]; rfl)
  rw [hok] at HOK
  have hA := decB_size ha0 ha1
  have hB := decB_size hb0 hb1
  have hC := decB_size hc0 hc1
  have HA := hide fun W (hW : Below w.heap.size w W) => l01Dec_any ya W ha0 ha1
  have HB := hide fun W (hW : Below w.heap.size w W) => l01Dec_any yb W hb0 hb1
  have HC := hide fun W (hW : Below w.heap.size w W) => l01Dec_any yc W hc0 hc1
  clear hok
  generalize decB ya = SA at *
  generalize decB yb = SB at *
  generalize decB yc = SC at *
  have c1 : ¬ 9223372036854775807 < SA.size + 7 := by omega
  have c2 : ¬ 9223372036854775807 < SA.size + 7 + SB.size := by omega
  have c3 : ¬ 9223372036854775807 < SA.size + 7 + SB.size + 4 := by omega
  have c4 : ¬ 9223372036854775807 < SA.size + 7 + SB.size + 4 + SC.size := by omega
  go_enter Tryd.func21, Tryd.ntmps21
  go_upto_region 1 with fail
  generalize hwA : w.alloc (.cells #[.int .i64 ya, .int .i64 yb, .int .i64 yc] 41) = wA at *
  clear hwA
  have k0 := X0.out.cell 0
  have k1 := X0.out.cell 1
  have k2 := X0.out.cell 2
  have hgw := X0.out.lt
  go_wp2_with (go_at_call 66; (with_reducible refine (HOK.out _ X0.out).mono ?_); rintro e w1 ⟨rfl, b1⟩)
  have X1 := hide (X0.out.below b1 hgw)
  have B1 := hide (B0.out.trans (b1.mono B0.out.size))
  clear k0 k1 k2 b1 X0 B0 HOK
  have X2 : Hid (BoxN w1.drew w.heap.size #[.int .i64 ya, .int .i64 yb, .int .i64 yc] 41) := X1.out
  have B2 := hide (show Below w.heap.size w w1.drew from B1.out.drew)
  have e0 := X2.out.cell 0
  have e1 := X2.out.cell 1
  have e2 := X2.out.cell 2
  clear X1 B1
  refine wp_region_held_drew (S := fun W => W.cell? ⟨w.heap.size, 0, none⟩ = some (.int .i64 ya) ∧ W.cell? ⟨w.heap.size, 1, none⟩ = some (.int .i64 yb) ∧ W.cell? ⟨w.heap.size, 2, none⟩ = some (.int .i64 yc)) (by kernel_rfl) (⟨e0, e1, e2⟩) (fun hHeld => ?_)
  generalize w1.drew = wd at *
  refine wpAnyH_take (i := 0) (v := ?_) rfl (by kernel_rfl) (by kernel_rfl) (by kernel_rfl) (fun _ _ _ h => h) (Or.inl ⟨by rfl, ?_⟩) (by assumption) ?_
  rotate_left 1
  · (intro w hSw; (try dsimp only at hSw); go_simp; try with_reducible rfl)
  try simp only [Act.put, List.getElem_toArray, List.getElem_cons_succ, List.getElem_cons_zero, List.setIfInBounds_toArray, List.set_cons_zero, List.set_cons_succ]
  refine wpAnyH_take (i := 1) (v := ?_) rfl (by kernel_rfl) (by kernel_rfl) (by kernel_rfl) (fun _ _ _ h => h) (Or.inl ⟨by rfl, ?_⟩) (by assumption) ?_
  rotate_left 1
  · (intro w hSw; (try dsimp only at hSw); go_simp; try with_reducible rfl)
  try simp only [Act.put, List.getElem_toArray, List.getElem_cons_succ, List.getElem_cons_zero, List.setIfInBounds_toArray, List.set_cons_zero, List.set_cons_succ]
  refine wpAnyH_take (i := 4) (v := ?_) rfl (by kernel_rfl) (by kernel_rfl) (by kernel_rfl) (fun _ _ _ h => h) (Or.inl ⟨by rfl, ?_⟩) (by assumption) ?_
  rotate_left 1
  · (intro w hSw; (try dsimp only at hSw); go_simp; try with_reducible rfl)
  try simp only [Act.put, List.getElem_toArray, List.getElem_cons_succ, List.getElem_cons_zero, List.setIfInBounds_toArray, List.set_cons_zero, List.set_cons_succ]
  refine wpAnyH_take (i := 5) (v := ?_) rfl (by kernel_rfl) (by kernel_rfl) (by kernel_rfl) (fun _ _ _ h => h) (Or.inl ⟨by rfl, ?_⟩) (by assumption) ?_
  rotate_left 1
  · (intro w hSw; (try dsimp only at hSw); go_simp; try with_reducible rfl)
  try simp only [Act.put, List.getElem_toArray, List.getElem_cons_succ, List.getElem_cons_zero, List.setIfInBounds_toArray, List.set_cons_zero, List.set_cons_succ]
  refine wpAnyH_take (i := 9) (v := ?_) rfl (by kernel_rfl) (by kernel_rfl) (by kernel_rfl) (fun _ _ _ h => h) (Or.inl ⟨by rfl, ?_⟩) (by assumption) ?_
  rotate_left 1
  · (intro w hSw; (try dsimp only at hSw); go_simp; try with_reducible rfl)
  try simp only [Act.put, List.getElem_toArray, List.getElem_cons_succ, List.getElem_cons_zero, List.setIfInBounds_toArray, List.set_cons_zero, List.set_cons_succ]
  refine wpAnyH_take (i := 10) (v := ?_) rfl (by kernel_rfl) (by kernel_rfl) (by kernel_rfl) (fun _ _ _ h => h) (Or.inl ⟨by rfl, ?_⟩) (by assumption) ?_
  rotate_left 1
  · (intro w hSw; (try dsimp only at hSw); go_simp; try with_reducible rfl)
  try simp only [Act.put, List.getElem_toArray, List.getElem_cons_succ, List.getElem_cons_zero, List.setIfInBounds_toArray, List.set_cons_zero, List.set_cons_succ]
  refine wpAnyH_ready (rs := [2]) (by kernel_rfl) (by simp) ?_
  refine AllReadyH.cons rfl (fun K hK => ?_) AllReadyH.nil
  try simp only [Act.put, List.getElem_toArray, List.getElem_cons_succ, List.getElem_cons_zero, List.setIfInBounds_toArray, List.set_cons_zero, List.set_cons_succ]
  go_simp
  go_at_call 67
  refine (HA.out _ B2.out).mono ?_
  rintro e w3 ⟨rfl, b3⟩
  have X3 := hide (X2.out.below b3 X2.out.lt)
  have B3 := hide (B2.out.trans (b3.mono B2.out.size))
  have f0 := X3.out.cell 0
  have f1 := X3.out.cell 1
  have f2 := X3.out.cell 2
  clear e0 e1 e2 b3 X2 B2 HA
  dsimp only
  refine hK.out _ _ (⟨f0, f1, f2⟩) (fun hHeld => ?_)
  clear hK K
  try simp only [Act.put, List.getElem_toArray, List.getElem_cons_succ, List.getElem_cons_zero, List.setIfInBounds_toArray, List.set_cons_zero, List.set_cons_succ]
  refine wpAnyH_take (i := 3) (v := ?_) rfl (by kernel_rfl) (by kernel_rfl) (by kernel_rfl) (fun _ _ _ h => h) (Or.inl ⟨by rfl, ?_⟩) (by assumption) ?_
  rotate_left 1
  · (intro w hSw; (try dsimp only at hSw); go_simp; try with_reducible rfl)
  try simp only [Act.put, List.getElem_toArray, List.getElem_cons_succ, List.getElem_cons_zero, List.setIfInBounds_toArray, List.set_cons_zero, List.set_cons_succ]
  refine wpAnyH_ready (rs := [6]) (by kernel_rfl) (by simp) ?_
  refine AllReadyH.cons rfl (fun K hK => ?_) AllReadyH.nil
  try simp only [Act.put, List.getElem_toArray, List.getElem_cons_succ, List.getElem_cons_zero, List.setIfInBounds_toArray, List.set_cons_zero, List.set_cons_succ]
  go_simp
  go_at_call 67
  refine (HB.out _ B3.out).mono ?_
  rintro e w4 ⟨rfl, b4⟩
  have X4 := hide (X3.out.below b4 X3.out.lt)
  have B4 := hide (B3.out.trans (b4.mono B3.out.size))
  have g0 := X4.out.cell 0
  have g1 := X4.out.cell 1
  have g2 := X4.out.cell 2
  clear f0 f1 f2 b4 X3 B3 HB
  dsimp only
  refine hK.out _ _ (⟨g0, g1, g2⟩) (fun hHeld => ?_)
  clear hK K
  try simp only [Act.put, List.getElem_toArray, List.getElem_cons_succ, List.getElem_cons_zero, List.setIfInBounds_toArray, List.set_cons_zero, List.set_cons_succ]
  refine wpAnyH_take (i := 7) (v := ?_) rfl (by kernel_rfl) (by kernel_rfl) (by kernel_rfl) (fun _ _ _ h => h) (Or.inl ⟨by rfl, ?_⟩) (by assumption) ?_
  rotate_left 1
  · (intro w hSw; (try dsimp only at hSw); go_simp; try with_reducible rfl)
  try simp only [Act.put, List.getElem_toArray, List.getElem_cons_succ, List.getElem_cons_zero, List.setIfInBounds_toArray, List.set_cons_zero, List.set_cons_succ]
  refine wpAnyH_take (i := 8) (v := ?_) rfl (by kernel_rfl) (by kernel_rfl) (by kernel_rfl) (fun _ _ _ h => h) (Or.inl ⟨by rfl, ?_⟩) (by assumption) ?_
  rotate_left 1
  · (intro w hSw; (try dsimp only at hSw); go_simp; try with_reducible rfl)
  try simp only [Act.put, List.getElem_toArray, List.getElem_cons_succ, List.getElem_cons_zero, List.setIfInBounds_toArray, List.set_cons_zero, List.set_cons_succ]
  refine wpAnyH_ready (rs := [11]) (by kernel_rfl) (by simp) ?_
  refine AllReadyH.cons rfl (fun K hK => ?_) AllReadyH.nil
  try simp only [Act.put, List.getElem_toArray, List.getElem_cons_succ, List.getElem_cons_zero, List.setIfInBounds_toArray, List.set_cons_zero, List.set_cons_succ]
  go_simp
  go_at_call 67
  refine (HC.out _ B4.out).mono ?_
  rintro e w5 ⟨rfl, b5⟩
  have X5 := hide (X4.out.below b5 X4.out.lt)
  have B5 := hide (B4.out.trans (b5.mono B4.out.size))
  have l0 := X5.out.cell 0
  have l1 := X5.out.cell 1
  have l2 := X5.out.cell 2
  clear g0 g1 g2 b5 X4 B4 HC
  dsimp only
  refine hK.out _ _ (⟨l0, l1, l2⟩) (fun hHeld => ?_)
  clear hK K
  try simp only [Act.put, List.getElem_toArray, List.getElem_cons_succ, List.getElem_cons_zero, List.setIfInBounds_toArray, List.set_cons_zero, List.set_cons_succ]
  refine wpAnyH_take (i := 12) (v := ?_) rfl (by kernel_rfl) (by kernel_rfl) (by kernel_rfl) (fun _ _ _ h => h) (Or.inl ⟨by rfl, ?_⟩) (by assumption) ?_
  rotate_left 1
  · (intro w hSw; (try dsimp only at hSw); go_simp; try with_reducible rfl)
  try simp only [Act.put, List.getElem_toArray, List.getElem_cons_succ, List.getElem_cons_zero, List.setIfInBounds_toArray, List.set_cons_zero, List.set_cons_succ]
  refine wpAnyH_take (i := 13) (v := ?_) rfl (by kernel_rfl) (by kernel_rfl) (by kernel_rfl) (fun _ _ _ h => h) (Or.inl ⟨by rfl, ?_⟩) (by assumption) ?_
  rotate_left 1
  · (intro w hSw; (try dsimp only at hSw); go_simp; try with_reducible rfl)
  try simp only [Act.put, List.getElem_toArray, List.getElem_cons_succ, List.getElem_cons_zero, List.setIfInBounds_toArray, List.set_cons_zero, List.set_cons_succ]
  refine wpAnyH_done (by kernel_rfl) ?_ _
  go_wp2_with fail
  go_ret
  exact ⟨by rw [HE.out]; rfl, B5.out⟩
end Go.Proofs.YtofjnmeblmbnmaaDoor
