/-
  A drawn tube.
-/
import Derived.Test.YtlkccijlbeibjaaQTurns3
import Derived.Test.YtlkccijlbeibjaaQTurns13
namespace Go.Proofs.Ytlkccijlbeibjaa
open Go.RowKit
theorem ring_mod {a q n : Int} (ha : 0 ≤ a) (han : a < n) (hq : 1 ≤ q) (hqn : q < n) : (a + q).tmod n = if a + q < n then a + q else a + q - n := by
  rw [Int.tmod_eq_emod_of_nonneg (by omega)]
  split
  · rename_i h; exact Int.emod_eq_of_lt (by omega) h
  · rename_i h
    rw [show a + q = (a + q - n) + n by omega, Int.add_emod_right, Int.emod_eq_of_lt (by omega) (by omega)]; omega
theorem Tube_inf : (Try.prog.info? 111).map (fun i => (i.zero, i.size, i.bytes)) = some (some (.agg #[.int .i64 0, .int .i64 0, .int .i64 0]), 3, 24) := by kernel_rfl
set_option maxRecDepth 100000 in
set_option maxHeartbeats 4000000 in
theorem newTube_any (b : Nat) (bs : List Int) (N n : Int) (w : World) (hbs : BsOk bs) (hN : N ≤ 1099510000000) (hn : 2 ≤ n) (hn2 : n ≤ 10) (h : SrcAt b bs N w) :
    Calls Try.prog 143 #[.pointer (some ⟨b, 0, none⟩), .int .i64 n] w fun e w' => ∃ t : T3, e = .returned (.agg #[.int .i64 t.a, .int .i64 t.b, .int .i64 t.c]) ∧ OkTube n t ∧ SrcAt b bs (N + 10) w' ∧ Only b (b + 1) w w' := by
  have hbl := h.lt
  have HP := hide fun M n W (hM : M ≤ 1099511000000) (hW : SrcAt b bs M W) => pick_any b bs M n W hbs hM hW
  have X0 := hide (BoxN.new w #[.int .i64 0, .int .i64 0, .int .i64 0] 111)
  have S0 := hide (h.alloc (.cells #[.int .i64 0, .int .i64 0, .int .i64 0] 111))
  have O0 : Hid (Only b (b + 1) w (w.alloc (.cells #[.int .i64 0, .int .i64 0, .int .i64 0] 111))) := only_of_below ((Below.refl _ _).alloc (Nat.le_refl _) _)
  have z0 : w.heap.size + 1 ≤ (w.alloc (.cells #[.int .i64 0, .int .i64 0, .int .i64 0] 111)).heap.size := by simp
  have C0 := hide (HP.out N n _ (by omega) S0.out)
  clear h
  go_enter Try.func143, Try.ntmps143
  go_upto_region 2 with (go_at_call 94; (with_reducible refine (C0.out).mono ?_); rintro e w1 ⟨a, rfl, ⟨ha0, ha1', _⟩, hs1, ho1⟩; have ha1 := ha1' (by omega); have X1 := hide (X0.out.only ho1 (.inr (by omega))); have z1 := ho1.size; have O1 := hide (only_trans O0.out ho1); have S1 := hide hs1; clear hs1 ho1 C0 X0 S0 O0 ha1')
  have X2 := hide (X1.out.alloc (.cells #[.int .i64 a, .int .i64 0, .int .i64 0] 111))
  have Y2 := hide (BoxN.new w1 #[.int .i64 a, .int .i64 0, .int .i64 0] 111)
  have S2 := hide (S1.out.alloc (.cells #[.int .i64 a, .int .i64 0, .int .i64 0] 111))
  have O2 := hide (only_alloc O1.out (.cells #[.int .i64 a, .int .i64 0, .int .i64 0] 111))
  have z2 : w1.heap.size + 1 ≤ (w1.alloc (.cells #[.int .i64 a, .int .i64 0, .int .i64 0] 111)).heap.size := by simp
  have zz : w.heap.size < w1.heap.size := by omega
  clear X1 S1 O1
  generalize hgt : w1.heap.size = gt at *
  generalize w1.alloc (.cells #[.int .i64 a, .int .i64 0, .int .i64 0] 111) = w2 at *
  clear hgt
  have e0 : w2.drew.cell? ⟨gt, 0, none⟩ = some (.int .i64 a) := Y2.out.cell 0
  have X3 : Hid (BoxN w2.drew w.heap.size #[.int .i64 0, .int .i64 0, .int .i64 0] 111) := X2.out
  have Y3 : Hid (BoxN w2.drew gt #[.int .i64 a, .int .i64 0, .int .i64 0] 111) := Y2.out
  have S3 : Hid (SrcAt b bs (N + 2) w2.drew) := S2.out.below (B := b + 1) (Below.refl _ _).drew (Nat.lt_succ_self b)
  have O3 : Hid (Only b (b + 1) w w2.drew) := only_trans O2.out (only_of_below (Below.refl _ w2).drew)
  have z3 : gt + 1 ≤ w2.drew.heap.size := z2
  clear X2 Y2 S2 O2 z2
  refine wp_region_held_drew (S := fun W => W.cell? ⟨gt, 0, none⟩ = some (.int .i64 a)) (by kernel_rfl) (e0) (fun hHeld => ?_)
  generalize w2.drew = wd at *
  have HC := hide (HP.out (N + 2) (n - 1) wd (by omega) S3.out)
  have hwa : IntKind.i64.wrap (a + 1) = a + 1 := by rw [IntKind.wrap_i64] <;> omega
  have hwn : IntKind.i64.wrap (n - 1) = n - 1 := by rw [IntKind.wrap_i64] <;> omega
  have hn0 : n ≠ 0 := by omega
  refine wpAnyH_take (i := 0) (v := ?_) rfl (by kernel_rfl) (by kernel_rfl) (by kernel_rfl) (fun _ _ _ h => h) (Or.inl ⟨by rfl, ?_⟩) (by assumption) ?_
  rotate_left 1
  · (intro w hSw; (try dsimp only at hSw); go_simp; try with_reducible rfl)
  try simp only [Act.put, List.getElem_toArray, List.getElem_cons_succ, List.getElem_cons_zero, List.setIfInBounds_toArray, List.set_cons_zero, List.set_cons_succ]
  refine wpAnyH_take (i := 1) (v := ?_) rfl (by kernel_rfl) (by kernel_rfl) (by kernel_rfl) (fun _ _ _ h => h) (Or.inl ⟨by rfl, ?_⟩) (by assumption) ?_
  rotate_left 1
  · (intro w hSw; (try dsimp only at hSw); go_simp; try with_reducible rfl)
  try simp only [Act.put, List.getElem_toArray, List.getElem_cons_succ, List.getElem_cons_zero, List.setIfInBounds_toArray, List.set_cons_zero, List.set_cons_succ]
  refine wpAnyH_take (i := 2) (v := ?_) rfl (by kernel_rfl) (by kernel_rfl) (by kernel_rfl) (fun _ _ _ h => h) (Or.inl ⟨by rfl, ?_⟩) (by assumption) ?_
  rotate_left 1
  · (intro w hSw; (try dsimp only at hSw); go_simp; try with_reducible rfl)
  try simp only [Act.put, List.getElem_toArray, List.getElem_cons_succ, List.getElem_cons_zero, List.setIfInBounds_toArray, List.set_cons_zero, List.set_cons_succ]
  refine wpAnyH_take (i := 3) (v := ?_) rfl (by kernel_rfl) (by kernel_rfl) (by kernel_rfl) (fun _ _ _ h => h) (Or.inl ⟨by rfl, ?_⟩) (by assumption) ?_
  rotate_left 1
  · (intro w hSw; (try dsimp only at hSw); go_simp; try with_reducible rfl)
  try simp only [Act.put, List.getElem_toArray, List.getElem_cons_succ, List.getElem_cons_zero, List.setIfInBounds_toArray, List.set_cons_zero, List.set_cons_succ]
  refine wpAnyH_take (i := 4) (v := ?_) rfl (by kernel_rfl) (by kernel_rfl) (by kernel_rfl) (fun _ _ _ h => h) (Or.inl ⟨by rfl, ?_⟩) (by assumption) ?_
  rotate_left 1
  · (intro w hSw; (try dsimp only at hSw); go_simp; try with_reducible rfl)
  try simp only [Act.put, List.getElem_toArray, List.getElem_cons_succ, List.getElem_cons_zero, List.setIfInBounds_toArray, List.set_cons_zero, List.set_cons_succ]
  refine wpAnyH_take (i := 5) (v := ?_) rfl (by kernel_rfl) (by kernel_rfl) (by kernel_rfl) (fun _ _ _ h => h) (Or.inl ⟨by rfl, ?_⟩) (by assumption) ?_
  rotate_left 1
  · (intro w hSw; (try dsimp only at hSw); go_simp; try with_reducible rfl)
  try simp only [Act.put, List.getElem_toArray, List.getElem_cons_succ, List.getElem_cons_zero, List.setIfInBounds_toArray, List.set_cons_zero, List.set_cons_succ]
  refine wpAnyH_take (i := 8) (v := ?_) rfl (by kernel_rfl) (by kernel_rfl) (by kernel_rfl) (fun _ _ _ h => h) (Or.inl ⟨by rfl, ?_⟩) (by assumption) ?_
  rotate_left 1
  · (intro w hSw; (try dsimp only at hSw); go_simp; try with_reducible rfl)
  try simp only [Act.put, List.getElem_toArray, List.getElem_cons_succ, List.getElem_cons_zero, List.setIfInBounds_toArray, List.set_cons_zero, List.set_cons_succ]
  refine wpAnyH_ready (rs := [6]) (by kernel_rfl) (by simp) ?_
  refine AllReadyH.cons rfl (fun K hK => ?_) AllReadyH.nil
  try simp only [Act.put, List.getElem_toArray, List.getElem_cons_succ, List.getElem_cons_zero, List.setIfInBounds_toArray, List.set_cons_zero, List.set_cons_succ]
  go_simp
  go_at_call 94
  refine (HC.out).mono ?_
  rintro e w4 ⟨q, rfl, ⟨hq0, hq1', _⟩, hs4, ho4⟩
  have hq1 := hq1' (by omega)
  have X4 := hide (X3.out.only ho4 (.inr (by omega)))
  have Y4 := hide (Y3.out.only ho4 (.inr (by omega)))
  have g0 : w4.cell? ⟨gt, 0, none⟩ = some (.int .i64 a) := Y4.out.cell 0
  have g1 : w4.cell? ⟨gt, 1, none⟩ = some (.int .i64 0) := Y4.out.cell 1
  have gf := Y4.out.fro 1
  have z4 := ho4.size
  have O4 := hide (only_trans O3.out ho4)
  have hring := ring_mod (a := a) (q := 1 + q) (n := n) ha0 (by omega) (by omega) (by omega)
  rw [show a + (1 + q) = a + 1 + q by omega] at hring
  have hwq : IntKind.i64.wrap (a + 1 + q) = a + 1 + q := by rw [IntKind.wrap_i64] <;> omega
  obtain ⟨v, hv⟩ : ∃ v, (a + 1 + q).tmod n = v := ⟨_, rfl⟩
  rw [hv] at hring
  have hv0 : 0 ≤ v ∧ v ≤ n - 1 ∧ v ≠ a := by split at hring <;> omega
  have hwv : IntKind.i64.wrap v = v := by rw [IntKind.wrap_i64] <;> omega
  have HV0 := hide hv0
  have HRG := hide hring
  clear hring hv0
  dsimp only
  refine hK.out _ _ (g0) (fun hHeld => ?_)
  clear hK K
  try simp only [Act.put, List.getElem_toArray, List.getElem_cons_succ, List.getElem_cons_zero, List.setIfInBounds_toArray, List.set_cons_zero, List.set_cons_succ]
  refine wpAnyH_take (i := 7) (v := ?_) rfl (by kernel_rfl) (by kernel_rfl) (by kernel_rfl) (fun _ _ _ h => h) (Or.inl ⟨by rfl, ?_⟩) (by assumption) ?_
  rotate_left 1
  · (intro w hSw; (try dsimp only at hSw); go_simp; try with_reducible rfl)
  try simp only [Act.put, List.getElem_toArray, List.getElem_cons_succ, List.getElem_cons_zero, List.setIfInBounds_toArray, List.set_cons_zero, List.set_cons_succ]
  refine wpAnyH_take (i := 9) (v := ?_) rfl (by kernel_rfl) (by kernel_rfl) (by kernel_rfl) (fun _ _ _ h => h) (Or.inl ⟨by rfl, ?_⟩) (by assumption) ?_
  rotate_left 1
  · (intro w hSw; (try dsimp only at hSw); go_simp; try with_reducible rfl)
  try simp only [Act.put, List.getElem_toArray, List.getElem_cons_succ, List.getElem_cons_zero, List.setIfInBounds_toArray, List.set_cons_zero, List.set_cons_succ]
  refine wpAnyH_take (i := 10) (v := ?_) rfl (by kernel_rfl) (by kernel_rfl) (by kernel_rfl) (fun _ _ _ h => h) (Or.inl ⟨by rfl, ?_⟩) (by assumption) ?_
  rotate_left 1
  · (intro w hSw; (try dsimp only at hSw); go_simp; try with_reducible rfl)
  try simp only [Act.put, List.getElem_toArray, List.getElem_cons_succ, List.getElem_cons_zero, List.setIfInBounds_toArray, List.set_cons_zero, List.set_cons_succ]
  refine wpAnyH_ready (rs := [11]) (by kernel_rfl) (by simp) ?_
  refine AllReadyH.cons rfl (fun K hK => ?_) AllReadyH.nil
  try simp only [Act.put, List.getElem_toArray, List.getElem_cons_succ, List.getElem_cons_zero, List.setIfInBounds_toArray, List.set_cons_zero, List.set_cons_succ]
  go_simp
  have Y5 := hide (Y4.out.set 1 (.int .i64 v))
  have X5 := hide (X4.out.other (b' := gt) (by omega) 1 (.int .i64 v))
  have S5 := hide (hs4.set ⟨gt, 1, none⟩ (.int .i64 v) (by dsimp only; omega))
  have O5 := hide (only_setNew O4.out ⟨gt, 1, none⟩ (.int .i64 v) (by dsimp only; omega))
  have g5 : (w4.setCell ⟨gt, 1, none⟩ (.int .i64 v)).cell? ⟨gt, 0, none⟩ = some (.int .i64 a) := Y5.out.cell 0
  have z5 : gt + 1 ≤ (w4.setCell ⟨gt, 1, none⟩ (.int .i64 v)).heap.size := by simp [World.setCell]; omega
  refine hK.out _ _ (g5) (fun hHeld => ?_)
  clear hK K
  try simp only [Act.put, List.getElem_toArray, List.getElem_cons_succ, List.getElem_cons_zero, List.setIfInBounds_toArray, List.set_cons_zero, List.set_cons_succ]
  refine wpAnyH_done (by kernel_rfl) ?_ _
  clear g0 g1 gf g5 X4 Y4 O4 hs4 ho4 hwa hwn hwq hwv
  generalize w4.setCell ⟨gt, 1, none⟩ (.int .i64 v) = w5 at *
  have HC5 := hide (HP.out (N + 2 + 2) 20 w5 (by omega) S5.out)
  go_upto_region 4 with (go_at_call 94; (with_reducible refine (HC5.out).mono ?_); rintro e w6 ⟨u, rfl, ⟨hu0, hu1', _⟩, hs6, ho6⟩; have hu1 := hu1' (by omega); have X6 := hide (X5.out.only ho6 (.inr (by omega))); have Y6 := hide (Y5.out.only ho6 (.inr (by omega))); have y6 : w6.cell? ⟨gt, 2, none⟩ = some (.int .i64 0) := Y6.out.cell 2; have f6 := Y6.out.fro 2; have O6 := hide (only_trans O5.out ho6); have S6 := hide hs6; clear hs6 ho6 hu1')
  have Y7 : Hid (BoxN (w6.setCell ⟨gt, 2, none⟩ (.int .i64 (10 * (1 + u)))) gt #[.int .i64 a, .int .i64 v, .int .i64 (10 * (1 + u))] 111) := Y6.out.set 2 (.int .i64 (10 * (1 + u)))
  have X7 := hide (X6.out.other (b' := gt) (by omega) 2 (.int .i64 (10 * (1 + u))))
  have S7 := hide (S6.out.set ⟨gt, 2, none⟩ (.int .i64 (10 * (1 + u))) (by dsimp only; omega))
  have O7 := hide (only_setNew O6.out ⟨gt, 2, none⟩ (.int .i64 (10 * (1 + u))) (by dsimp only; omega))
  clear X5 Y5 S5 O5 X6 Y6 y6 f6 S6 O6 HC5
  generalize w6.setCell ⟨gt, 2, none⟩ (.int .i64 (10 * (1 + u))) = w9 at *
  have l0 : w9.cell? ⟨gt, 0, none⟩ = some (.int .i64 a) := Y7.out.cell 0
  have l1 : w9.cell? ⟨gt, 1, none⟩ = some (.int .i64 v) := Y7.out.cell 1
  have l2 : w9.cell? ⟨gt, 2, none⟩ = some (.int .i64 (10 * (1 + u))) := Y7.out.cell 2
  have T0 := hide (X7.out.set 0 (.int .i64 a))
  have T1 := hide (T0.out.set 1 (.int .i64 v))
  have T2 := hide (T1.out.set 2 (.int .i64 (10 * (1 + u))))
  have m0 : w9.cell? ⟨w.heap.size, 0, none⟩ = some (.int .i64 0) := X7.out.cell 0
  have n0 := X7.out.fro 0
  have m1 : (w9.setCell ⟨w.heap.size, 0, none⟩ (.int .i64 a)).cell? ⟨w.heap.size, 1, none⟩ = some (.int .i64 0) := T0.out.cell 1
  have n1 := T0.out.fro 1
  have m2 : ((w9.setCell ⟨w.heap.size, 0, none⟩ (.int .i64 a)).setCell ⟨w.heap.size, 1, none⟩ (.int .i64 v)).cell? ⟨w.heap.size, 2, none⟩ = some (.int .i64 0) := T1.out.cell 2
  have n2 := T1.out.fro 2
  go_wp2_with fail
  have q0 : (((w9.setCell ⟨w.heap.size, 0, none⟩ (.int .i64 a)).setCell ⟨w.heap.size, 1, none⟩ (.int .i64 v)).setCell ⟨w.heap.size, 2, none⟩ (.int .i64 (10 * (1 + u)))).cell? ⟨w.heap.size, 0, none⟩ = some (.int .i64 a) := T2.out.cell 0
  have q1 : (((w9.setCell ⟨w.heap.size, 0, none⟩ (.int .i64 a)).setCell ⟨w.heap.size, 1, none⟩ (.int .i64 v)).setCell ⟨w.heap.size, 2, none⟩ (.int .i64 (10 * (1 + u)))).cell? ⟨w.heap.size, 1, none⟩ = some (.int .i64 v) := T2.out.cell 1
  have q2 : (((w9.setCell ⟨w.heap.size, 0, none⟩ (.int .i64 a)).setCell ⟨w.heap.size, 1, none⟩ (.int .i64 v)).setCell ⟨w.heap.size, 2, none⟩ (.int .i64 (10 * (1 + u)))).cell? ⟨w.heap.size, 2, none⟩ = some (.int .i64 (10 * (1 + u))) := T2.out.cell 2
  obtain ⟨hv0, hv1, hv2⟩ := HV0.out
  refine bodyPost_ret (v := .agg #[.int .i64 a, .int .i64 v, .int .i64 (10 * (1 + u))]) (by simp [results, Try.results143, go_sem, q0, q1, q2]) rfl ⟨⟨a, v, 10 * (1 + u)⟩, rfl, ⟨⟨ha0, by dsimp only; omega⟩, ⟨hv0, hv1⟩, (fun h => hv2 h.symm), by dsimp only; omega, by dsimp only; omega⟩, ?_, ?_⟩
  · exact (((S7.out.set ⟨w.heap.size, 0, none⟩ (.int .i64 a) hbl).set ⟨w.heap.size, 1, none⟩ (.int .i64 v) hbl).set ⟨w.heap.size, 2, none⟩ (.int .i64 (10 * (1 + u))) hbl).more (by omega)
  · exact only_setNew (only_setNew (only_setNew O7.out ⟨w.heap.size, 0, none⟩ (.int .i64 a) (Nat.le_refl _)) ⟨w.heap.size, 1, none⟩ (.int .i64 v) (Nat.le_refl _)) ⟨w.heap.size, 2, none⟩ (.int .i64 (10 * (1 + u))) (Nat.le_refl _)
end Go.Proofs.Ytlkccijlbeibjaa
