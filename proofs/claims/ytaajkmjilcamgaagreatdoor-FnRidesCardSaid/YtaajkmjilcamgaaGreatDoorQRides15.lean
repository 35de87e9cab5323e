/-
  Draws of rides, of rides with a number of ticks, and of texts of rides.
-/
import Derived.Test.YtaajkmjilcamgaaGreatDoorQRides6
import Derived.Test.YtaajkmjilcamgaaGreatDoorQRides11
import Derived.Test.YtaajkmjilcamgaaGreatDoorQRides14
import Derived.Test.YtaajkmjilcamgaaGreatDoorQRides10
import Derived.Deep.DeepCutAuto
import Derived.Deep.RegionHeld3
namespace Go.Proofs.YtaajkmjilcamgaaGreatDoor
open Go.RowKit
theorem rideB_size {x : T4} (h : okR x = true) : (rideB x).size ≤ 100 := by
  obtain ⟨h1, h2, h3, h4⟩ := okR_iff.1 h
  have s1 := decB_size (n := x.a) (by omega) (by omega)
  have s2 := decB_size (n := x.b) (by omega) (by omega)
  have s3 := decB_size (n := x.c) (by omega) (by omega)
  have s4 := decB_size (n := x.d) (by omega) (by omega)
  unfold rideB
  rw [if_pos h]
  unfold textR
  simp only [ByteArray.size_append]
  have e1 : (⟨#[109, 32]⟩ : ByteArray).size = 2 := rfl
  have e2 : (⟨#[103, 32]⟩ : ByteArray).size = 2 := rfl
  have e3 : (⟨#[112, 32]⟩ : ByteArray).size = 2 := rfl
  have e4 : (⟨#[98]⟩ : ByteArray).size = 1 := rfl
  omega
def spoilL : List ByteArray := [⟨#[32]⟩, ⟨#[48]⟩, ⟨#[45]⟩, ⟨#[120]⟩, ⟨#[49]⟩, ⟨#[57]⟩, ⟨#[46]⟩]
set_option maxRecDepth 100000 in
set_option maxHeartbeats 4000000 in
theorem l01Spoil_any (b : Nat) (bs : List Int) (N : Int) (t : ByteArray) (w : World) (hbs : BsOk bs) (hN : N ≤ 1099510000000) (h : SrcAt b bs N w) (ht : t.size ≤ 1000) :
    Calls Tryz.prog 64 #[.pointer (some ⟨b, 0, none⟩), .string t] w fun e w' => ∃ s : ByteArray, e = .returned (.string s) ∧ s.size ≤ 1001 ∧ SrcAt b bs (N + 10) w' ∧ Only b (b + 1) w w' := by
  have hbl := h.lt
  have HP := hide fun M n W (hM : M ≤ 1099511000000) (hW : SrcAt b bs M W) => pick_any b bs M n W hbs hM hW
  have HTX := hide fun M W (hM : M ≤ 1099511000000) (hW : SrcAt b bs M W) => (show Calls Tryz.prog 92 #[.pointer (some ⟨b, 0, none⟩), .slice (some ⟨W.heap.size, 0, none⟩) 7 7] (W.alloc (.cells #[.string ⟨#[32]⟩, .string ⟨#[48]⟩, .string ⟨#[45]⟩, .string ⟨#[120]⟩, .string ⟨#[49]⟩, .string ⟨#[57]⟩, .string ⟨#[46]⟩] 9)) fun e w' => ∃ z, e = .returned (.string z) ∧ z ∈ spoilL ∧ SrcAt b bs (M + 2) w' ∧ Only b (b + 1) W w' from textLit_any b bs M spoilL W hbs hM hW (by decide) (by decide))
  have C0 := hide (HP.out N 5 w (by omega) h)
  clear h
  go_enter Tryz.func64, Tryz.ntmps64
  go_upto_region 2 with (go_at_call 68; (with_reducible refine (C0.out).mono ?_); rintro e w1 ⟨z, rfl, ⟨hz0, hz1', _⟩, hs1, ho1⟩)
  have S1 := hide hs1
  have O1 := hide ho1
  have z1 := ho1.size
  clear hs1 ho1 C0 hz1'
  by_cases h0 : z = 0
  · have hB : (z == 0) = true := by simp [h0]
    have H0 := hide h0
    clear h0
    have hw : IntKind.i64.wrap ((t.size : Int) + 1) = (t.size : Int) + 1 := by rw [IntKind.wrap_i64] <;> omega
    have C1 := hide (HP.out (N + 2) ((t.size : Int) + 1) w1 (by omega) S1.out)
    go_upto_region 4 with (go_at_call 68; (with_reducible refine (C1.out).mono ?_); rintro e w2 ⟨at_, rfl, ⟨ha0, ha1', _⟩, hs2, ho2⟩)
    obtain ⟨k, rfl⟩ := Int.eq_ofNat_of_zero_le ha0
    have hk : k ≤ t.size := by have := ha1' (by omega); omega
    have S2 := hide (show SrcAt b bs (N + 2 + 2) w2.drew from hs2)
    have O2 := hide (show Only b (b + 1) w w2.drew from only_trans O1.out ho2)
    have hki : (k : Int) ≤ (t.size : Int) := by omega
    have hk0 : (0 : Int) ≤ (k : Int) := by omega
    clear ha1' hs2 ho2 C1 S1 O1 ha0 hw
    refine wp_region_held_drew (S := fun W => True) (by kernel_rfl) (trivial) (fun hHeld => ?_)
    generalize w2.drew = wd at *
    refine wpAnyH_take (i := 0) (v := ?_) rfl (by kernel_rfl) (by kernel_rfl) (by kernel_rfl) (fun _ _ _ h => h) (Or.inl ⟨by rfl, ?_⟩) (by assumption) ?_
    rotate_left 1
    · (intro w hSw; (try dsimp only at hSw); go_simp; try with_reducible rfl)
    try simp only [Act.put, List.getElem_toArray, List.getElem_cons_succ, List.getElem_cons_zero, List.setIfInBounds_toArray, List.set_cons_zero, List.set_cons_succ]
    refine wpAnyH_take (i := 1) (v := ?_) rfl (by kernel_rfl) (by kernel_rfl) (by kernel_rfl) (fun _ _ _ h => h) (Or.inl ⟨by rfl, ?_⟩) (by assumption) ?_
    rotate_left 1
    · (intro w hSw; (try dsimp only at hSw); go_simp; try with_reducible rfl)
    try simp only [Act.put, List.getElem_toArray, List.getElem_cons_succ, List.getElem_cons_zero, List.setIfInBounds_toArray, List.set_cons_zero, List.set_cons_succ]
    refine wpAnyH_take (i := 2) (v := ?_) rfl (by kernel_rfl) (by kernel_rfl) (by kernel_rfl) (fun _ _ _ h => h) (Or.inl ⟨by rfl, ?_⟩) (by assumption) ?_
    rotate_left 1
    · (intro w hSw; (try dsimp only at hSw); go_simp; try with_reducible rfl)
    try simp only [Act.put, List.getElem_toArray, List.getElem_cons_succ, List.getElem_cons_zero, List.setIfInBounds_toArray, List.set_cons_zero, List.set_cons_succ]
    refine wpAnyH_take (i := 3) (v := ?_) rfl (by kernel_rfl) (by kernel_rfl) (by kernel_rfl) (fun _ _ _ h => h) (Or.inl ⟨by rfl, ?_⟩) (by assumption) ?_
    rotate_left 1
    · (intro w hSw; (try dsimp only at hSw); go_simp; try with_reducible rfl)
    try simp only [Act.put, List.getElem_toArray, List.getElem_cons_succ, List.getElem_cons_zero, List.setIfInBounds_toArray, List.set_cons_zero, List.set_cons_succ]
    refine wpAnyH_take (i := 7) (v := ?_) rfl (by kernel_rfl) (by kernel_rfl) (by kernel_rfl) (fun _ _ _ h => h) (Or.inl ⟨by rfl, ?_⟩) (by assumption) ?_
    rotate_left 1
    · (intro w hSw; (try dsimp only at hSw); go_simp; try with_reducible rfl)
    try simp only [Act.put, List.getElem_toArray, List.getElem_cons_succ, List.getElem_cons_zero, List.setIfInBounds_toArray, List.set_cons_zero, List.set_cons_succ]
    refine wpAnyH_take (i := 8) (v := ?_) rfl (by kernel_rfl) (by kernel_rfl) (by kernel_rfl) (fun _ _ _ h => h) (Or.inl ⟨by rfl, ?_⟩) (by assumption) ?_
    rotate_left 1
    · (intro w hSw; (try dsimp only at hSw); go_simp; try with_reducible rfl)
    try simp only [Act.put, List.getElem_toArray, List.getElem_cons_succ, List.getElem_cons_zero, List.setIfInBounds_toArray, List.set_cons_zero, List.set_cons_succ]
    refine wpAnyH_take (i := 9) (v := ?_) rfl (by kernel_rfl) (by kernel_rfl) (by kernel_rfl) (fun _ _ _ h => h) (Or.inl ⟨by rfl, ?_⟩) (by assumption) ?_
    rotate_left 1
    · (intro w hSw; (try dsimp only at hSw); go_simp; try with_reducible rfl)
    try simp only [Act.put, List.getElem_toArray, List.getElem_cons_succ, List.getElem_cons_zero, List.setIfInBounds_toArray, List.set_cons_zero, List.set_cons_succ]
    refine wpAnyH_ready (rs := [4]) (by kernel_rfl) (by simp) ?_
    refine AllReadyH.cons rfl (fun K hK => ?_) AllReadyH.nil
    try simp only [Act.put, List.getElem_toArray, List.getElem_cons_succ, List.getElem_cons_zero, List.setIfInBounds_toArray, List.set_cons_zero, List.set_cons_succ]
    go_simp
    refine hK.out _ _ (trivial) (fun hHeld => ?_)
    clear hK K
    try simp only [Act.put, List.getElem_toArray, List.getElem_cons_succ, List.getElem_cons_zero, List.setIfInBounds_toArray, List.set_cons_zero, List.set_cons_succ]
    have hza : (t.extract 0 k).size ≤ t.size := by rw [ByteArray.size_extract]; omega
    have hzb : (t.extract k t.size).size ≤ t.size := by rw [ByteArray.size_extract]; omega
    have hzc : (t.extract 0 k).size + (t.extract k t.size).size = t.size := by rw [ByteArray.size_extract, ByteArray.size_extract]; omega
    generalize t.extract 0 k = ta at *
    generalize t.extract k t.size = tb at *
    refine wpAnyH_ready (rs := [5]) (by kernel_rfl) (by simp) ?_
    refine AllReadyH.cons rfl (fun K hK => ?_) AllReadyH.nil
    try simp only [Act.put, List.getElem_toArray, List.getElem_cons_succ, List.getElem_cons_zero, List.setIfInBounds_toArray, List.set_cons_zero, List.set_cons_succ]
    go_simp
    go_at_call 92
    refine (HTX.out (N + 2 + 2) _ (by omega) S2.out).mono ?_
    rintro e w5 ⟨y, rfl, hy, hs5, ho5⟩
    have hy1 : y.size = 1 := by
      unfold spoilL at hy
      simp only [List.mem_cons, List.not_mem_nil, or_false] at hy
      rcases hy with rfl | rfl | rfl | rfl | rfl | rfl | rfl <;> rfl
    have c1 : ¬ 9223372036854775807 < ta.size + 1 := by omega
    have c2 : ¬ 9223372036854775807 < ta.size + 1 + tb.size := by omega
    dsimp only
    refine hK.out _ _ (trivial) (fun hHeld => ?_)
    clear hK K
    try simp only [Act.put, List.getElem_toArray, List.getElem_cons_succ, List.getElem_cons_zero, List.setIfInBounds_toArray, List.set_cons_zero, List.set_cons_succ]
    refine wpAnyH_take (i := 6) (v := ?_) rfl (by kernel_rfl) (by kernel_rfl) (by kernel_rfl) (fun _ _ _ h => h) (Or.inl ⟨by rfl, ?_⟩) (by assumption) ?_
    rotate_left 1
    · (intro w hSw; (try dsimp only at hSw); go_simp; try with_reducible rfl)
    try simp only [Act.put, List.getElem_toArray, List.getElem_cons_succ, List.getElem_cons_zero, List.setIfInBounds_toArray, List.set_cons_zero, List.set_cons_succ]
    refine wpAnyH_take (i := 10) (v := ?_) rfl (by kernel_rfl) (by kernel_rfl) (by kernel_rfl) (fun _ _ _ h => h) (Or.inl ⟨by rfl, ?_⟩) (by assumption) ?_
    rotate_left 1
    · (intro w hSw; (try dsimp only at hSw); go_simp; try with_reducible rfl)
    try simp only [Act.put, List.getElem_toArray, List.getElem_cons_succ, List.getElem_cons_zero, List.setIfInBounds_toArray, List.set_cons_zero, List.set_cons_succ]
    refine wpAnyH_take (i := 11) (v := ?_) rfl (by kernel_rfl) (by kernel_rfl) (by kernel_rfl) (fun _ _ _ h => h) (Or.inl ⟨by rfl, ?_⟩) (by assumption) ?_
    rotate_left 1
    · (intro w hSw; (try dsimp only at hSw); go_simp; try with_reducible rfl)
    try simp only [Act.put, List.getElem_toArray, List.getElem_cons_succ, List.getElem_cons_zero, List.setIfInBounds_toArray, List.set_cons_zero, List.set_cons_succ]
    refine wpAnyH_done (by kernel_rfl) ?_ _
    go_wp2_with fail
    go_ret
    refine ⟨ta ++ y ++ tb, rfl, ?_, hs5.more (by omega), only_trans O2.out ho5⟩
    rw [ByteArray.size_append, ByteArray.size_append]
    omega
  have hB : (z == 0) = false := by simp [h0]
  have H0 := hide h0
  clear h0
  by_cases h1 : z = 1
  case neg =>
    have hB1 : (z == 1) = false := by simp [h1]
    have H1 := hide h1
    clear h1
    go_wp2_with fail
    go_ret
    exact ⟨t, rfl, by omega, S1.out.more (by omega), O1.out⟩
  have hB1 : (z == 1) = true := by simp [h1]
  have H1 := hide h1
  clear h1
  by_cases he : t.size = 0
  · obtain rfl : t = ⟨#[]⟩ := ByteArray.ext (Array.eq_empty_of_size_eq_zero he)
    clear he
    go_wp2_with fail
    go_ret
    exact ⟨⟨#[]⟩, rfl, by decide, S1.out.more (by omega), O1.out⟩
  have hne : (t.toList == (⟨#[]⟩ : ByteArray).toList) = false := by
    rw [beq_eq_false_iff_ne, Lib.toList_data, Lib.toList_data]
    intro e
    have := congrArg List.length e
    rw [← Lib.size_eq] at this
    exact he this
  have hne1 : ¬ t.toList = [] := fun e => by rw [e] at hne; simp at hne
  have hne2 : t.toList.isEmpty = false := by cases h : t.toList with | nil => exact absurd h hne1 | cons a b => rfl
  have C1 := hide (HP.out (N + 2) (t.size : Int) w1 (by omega) S1.out)
  go_upto_region 8 with (go_at_call 68; (with_reducible refine (C1.out).mono ?_); rintro e w2 ⟨at_, rfl, ⟨ha0, ha1', _⟩, hs2, ho2⟩)
  obtain ⟨k, rfl⟩ := Int.eq_ofNat_of_zero_le ha0
  have hk : k < t.size := by have := ha1' (by omega); omega
  have S2 := hide hs2
  have O2 := hide (only_trans O1.out ho2)
  have hki : (k : Int) ≤ (t.size : Int) := by omega
  have hkj : (k : Int) + 1 ≤ (t.size : Int) := by omega
  have hk0 : (0 : Int) ≤ (k : Int) := by omega
  have hk1 : (0 : Int) ≤ (k : Int) + 1 := by omega
  have hw : IntKind.i64.wrap ((k : Int) + 1) = (k : Int) + 1 := by rw [IntKind.wrap_i64] <;> omega
  have hza : (t.extract 0 k).size ≤ t.size := by rw [ByteArray.size_extract]; omega
  have hzb : (t.extract (k + 1) t.size).size ≤ t.size := by rw [ByteArray.size_extract]; omega
  have hzc : (t.extract 0 k).size + (t.extract (k + 1) t.size).size ≤ t.size := by rw [ByteArray.size_extract, ByteArray.size_extract]; omega
  have c1 : ¬ 9223372036854775807 < (t.extract 0 k).size + (t.extract (k + 1) t.size).size := by omega
  have c2 : ¬ 9223372036854775807 < k + (t.size - (k + 1)) := by omega
  clear ha1' hs2 ho2 C1 S1 O1 ha0 hne hne1 hne2 he
  go_quiet (fail)
  have S3 := hide (show SrcAt b bs (N + 2 + 2) (w2.drewN nq) from S2.out)
  have O3 := hide (show Only b (b + 1) w (w2.drewN nq) from O2.out)
  generalize w2.drewN nq = w3 at *
  go_wp2_with fail
  go_ret
  refine ⟨t.extract 0 k ++ t.extract (k + 1) t.size, rfl, ?_, S3.out.more (by omega), O3.out⟩
  rw [ByteArray.size_append]
  omega
set_option maxRecDepth 100000 in
set_option maxHeartbeats 4000000 in
theorem drawTicksOfRide_any (bs : List Int) (A : Option Addr) (c : Nat) (w : World) (hbs : BsOk bs) (h1 : RdB w w.heap.size A bs) :
    Calls Tryz.prog 15 #[.slice A bs.length c] w fun e w' => ∃ x : T4, e = .returned (.agg #[.int .i64 x.a, .int .i64 x.b, .int .i64 x.c, .int .i64 x.d]) ∧ Below w.heap.size w w' := by
  have Y0 := hide (BoxN.new w #[.int .i64 0, .int .i64 0, .int .i64 0, .int .i64 0] 44)
  have B0 := hide (show Below w.heap.size w (w.alloc (.cells #[.int .i64 0, .int .i64 0, .int .i64 0, .int .i64 0] 44)) from (Below.refl _ _).alloc (Nat.le_refl _) _)
  have hz0 : (w.alloc (.cells #[.int .i64 0, .int .i64 0, .int .i64 0, .int .i64 0] 44)).heap.size = w.heap.size + 1 := by simp
  have HF := hide (l00From_any bs A c (w.alloc (.cells #[.int .i64 0, .int .i64 0, .int .i64 0, .int .i64 0] 44)) hbs.1 ((RdB.below h1 B0.out).more B0.out.size))
  rw [hz0] at HF
  have HA := hide fun b W (hW : SrcAt b bs 0 W) => anyRide_any b bs 0 W hbs (by omega) hW
  clear h1 hz0
  go_enter Tryz.func15, Tryz.ntmps15
  go_upto_region 1 with fail
  generalize w.alloc (.cells #[.int .i64 0, .int .i64 0, .int .i64 0, .int .i64 0] 44) = w1 at *
  go_wp2_with (first | (go_at_call 35; (with_reducible refine (HF.out).mono ?_); rintro e w2 ⟨rfl, hs2, hz2, hb2⟩; have Y2 := hide (Y0.out.below hb2 (by omega)); have B2 := hide (B0.out.trans (hb2.mono (by omega))); have HZ2 := hide hz2; clear hz2) | (go_at_call 48; (with_reducible refine (HA.out _ _ hs2).mono ?_); rintro e wZ ⟨x, rfl, hs3, ho3⟩; have Y8 := hide (Y2.out.only ho3 (.inl (by omega))); have B8 := hide (B2.out.trans (ho3.below (by omega) (by have := HZ2.out; omega))); have T1 := hide (Y8.out.set 0 (.int .i64 x.a)); have T2 := hide (T1.out.set 1 (.int .i64 x.b)); have T3 := hide (T2.out.set 2 (.int .i64 x.c)); have T4 := hide (T3.out.set 3 (.int .i64 x.d)); have m0 : wZ.cell? ⟨w.heap.size, 0, none⟩ = some (.int .i64 0) := Y8.out.cell 0; have n0 := Y8.out.fro 0; have m1 : (wZ.setCell ⟨w.heap.size, 0, none⟩ (.int .i64 x.a)).cell? ⟨w.heap.size, 1, none⟩ = some (.int .i64 0) := T1.out.cell 1; have n1 := T1.out.fro 1; have m2 : ((wZ.setCell ⟨w.heap.size, 0, none⟩ (.int .i64 x.a)).setCell ⟨w.heap.size, 1, none⟩ (.int .i64 x.b)).cell? ⟨w.heap.size, 2, none⟩ = some (.int .i64 0) := T2.out.cell 2; have n2 := T2.out.fro 2; have m3 : (((wZ.setCell ⟨w.heap.size, 0, none⟩ (.int .i64 x.a)).setCell ⟨w.heap.size, 1, none⟩ (.int .i64 x.b)).setCell ⟨w.heap.size, 2, none⟩ (.int .i64 x.c)).cell? ⟨w.heap.size, 3, none⟩ = some (.int .i64 0) := T3.out.cell 3; have n3 := T3.out.fro 3))
  have q0 : ((((wZ.setCell ⟨w.heap.size, 0, none⟩ (.int .i64 x.a)).setCell ⟨w.heap.size, 1, none⟩ (.int .i64 x.b)).setCell ⟨w.heap.size, 2, none⟩ (.int .i64 x.c)).setCell ⟨w.heap.size, 3, none⟩ (.int .i64 x.d)).cell? ⟨w.heap.size, 0, none⟩ = some (.int .i64 x.a) := T4.out.cell 0
  have q1 : ((((wZ.setCell ⟨w.heap.size, 0, none⟩ (.int .i64 x.a)).setCell ⟨w.heap.size, 1, none⟩ (.int .i64 x.b)).setCell ⟨w.heap.size, 2, none⟩ (.int .i64 x.c)).setCell ⟨w.heap.size, 3, none⟩ (.int .i64 x.d)).cell? ⟨w.heap.size, 1, none⟩ = some (.int .i64 x.b) := T4.out.cell 1
  have q2 : ((((wZ.setCell ⟨w.heap.size, 0, none⟩ (.int .i64 x.a)).setCell ⟨w.heap.size, 1, none⟩ (.int .i64 x.b)).setCell ⟨w.heap.size, 2, none⟩ (.int .i64 x.c)).setCell ⟨w.heap.size, 3, none⟩ (.int .i64 x.d)).cell? ⟨w.heap.size, 2, none⟩ = some (.int .i64 x.c) := T4.out.cell 2
  have q3 : ((((wZ.setCell ⟨w.heap.size, 0, none⟩ (.int .i64 x.a)).setCell ⟨w.heap.size, 1, none⟩ (.int .i64 x.b)).setCell ⟨w.heap.size, 2, none⟩ (.int .i64 x.c)).setCell ⟨w.heap.size, 3, none⟩ (.int .i64 x.d)).cell? ⟨w.heap.size, 3, none⟩ = some (.int .i64 x.d) := T4.out.cell 3
  refine bodyPost_ret (v := .agg #[.int .i64 x.a, .int .i64 x.b, .int .i64 x.c, .int .i64 x.d]) (by simp [results, Tryz.results15, go_sem, q0, q1, q2, q3]) rfl ⟨x, rfl, ?_⟩
  exact (((B8.out.setCell (p := ⟨w.heap.size, 0, none⟩) (Nat.le_refl _) _).setCell (p := ⟨w.heap.size, 1, none⟩) (Nat.le_refl _) _).setCell (p := ⟨w.heap.size, 2, none⟩) (Nat.le_refl _) _).setCell (p := ⟨w.heap.size, 3, none⟩) (Nat.le_refl _) _
set_option maxRecDepth 100000 in
set_option maxHeartbeats 4000000 in
theorem drawRideText_any (bs : List Int) (A : Option Addr) (c : Nat) (w : World) (hbs : BsOk bs) (h1 : RdB w w.heap.size A bs) :
    Calls Tryz.prog 26 #[.slice A bs.length c] w fun e w' => ∃ x : T4, e = .returned (.agg #[.int .i64 x.a, .int .i64 x.b, .int .i64 x.c, .int .i64 x.d]) ∧ Below w.heap.size w w' := by
  have Y0 := hide (BoxN.new w #[.int .i64 0, .int .i64 0, .int .i64 0, .int .i64 0] 44)
  have B0 := hide (show Below w.heap.size w (w.alloc (.cells #[.int .i64 0, .int .i64 0, .int .i64 0, .int .i64 0] 44)) from (Below.refl _ _).alloc (Nat.le_refl _) _)
  have hz0 : (w.alloc (.cells #[.int .i64 0, .int .i64 0, .int .i64 0, .int .i64 0] 44)).heap.size = w.heap.size + 1 := by simp
  have HF := hide (l00From_any bs A c (w.alloc (.cells #[.int .i64 0, .int .i64 0, .int .i64 0, .int .i64 0] 44)) hbs.1 ((RdB.below h1 B0.out).more B0.out.size))
  rw [hz0] at HF
  have HA := hide fun b W (hW : SrcAt b bs 0 W) => anyRide_any b bs 0 W hbs (by omega) hW
  clear h1 hz0
  go_enter Tryz.func26, Tryz.ntmps26
  go_upto_region 1 with fail
  generalize w.alloc (.cells #[.int .i64 0, .int .i64 0, .int .i64 0, .int .i64 0] 44) = w1 at *
  go_wp2_with (first | (go_at_call 35; (with_reducible refine (HF.out).mono ?_); rintro e w2 ⟨rfl, hs2, hz2, hb2⟩; have Y2 := hide (Y0.out.below hb2 (by omega)); have B2 := hide (B0.out.trans (hb2.mono (by omega))); have HZ2 := hide hz2; clear hz2) | (go_at_call 48; (with_reducible refine (HA.out _ _ hs2).mono ?_); rintro e wZ ⟨x, rfl, hs3, ho3⟩; have Y8 := hide (Y2.out.only ho3 (.inl (by omega))); have B8 := hide (B2.out.trans (ho3.below (by omega) (by have := HZ2.out; omega))); have T1 := hide (Y8.out.set 0 (.int .i64 x.a)); have T2 := hide (T1.out.set 1 (.int .i64 x.b)); have T3 := hide (T2.out.set 2 (.int .i64 x.c)); have T4 := hide (T3.out.set 3 (.int .i64 x.d)); have m0 : wZ.cell? ⟨w.heap.size, 0, none⟩ = some (.int .i64 0) := Y8.out.cell 0; have n0 := Y8.out.fro 0; have m1 : (wZ.setCell ⟨w.heap.size, 0, none⟩ (.int .i64 x.a)).cell? ⟨w.heap.size, 1, none⟩ = some (.int .i64 0) := T1.out.cell 1; have n1 := T1.out.fro 1; have m2 : ((wZ.setCell ⟨w.heap.size, 0, none⟩ (.int .i64 x.a)).setCell ⟨w.heap.size, 1, none⟩ (.int .i64 x.b)).cell? ⟨w.heap.size, 2, none⟩ = some (.int .i64 0) := T2.out.cell 2; have n2 := T2.out.fro 2; have m3 : (((wZ.setCell ⟨w.heap.size, 0, none⟩ (.int .i64 x.a)).setCell ⟨w.heap.size, 1, none⟩ (.int .i64 x.b)).setCell ⟨w.heap.size, 2, none⟩ (.int .i64 x.c)).cell? ⟨w.heap.size, 3, none⟩ = some (.int .i64 0) := T3.out.cell 3; have n3 := T3.out.fro 3))
  have q0 : ((((wZ.setCell ⟨w.heap.size, 0, none⟩ (.int .i64 x.a)).setCell ⟨w.heap.size, 1, none⟩ (.int .i64 x.b)).setCell ⟨w.heap.size, 2, none⟩ (.int .i64 x.c)).setCell ⟨w.heap.size, 3, none⟩ (.int .i64 x.d)).cell? ⟨w.heap.size, 0, none⟩ = some (.int .i64 x.a) := T4.out.cell 0
  have q1 : ((((wZ.setCell ⟨w.heap.size, 0, none⟩ (.int .i64 x.a)).setCell ⟨w.heap.size, 1, none⟩ (.int .i64 x.b)).setCell ⟨w.heap.size, 2, none⟩ (.int .i64 x.c)).setCell ⟨w.heap.size, 3, none⟩ (.int .i64 x.d)).cell? ⟨w.heap.size, 1, none⟩ = some (.int .i64 x.b) := T4.out.cell 1
  have q2 : ((((wZ.setCell ⟨w.heap.size, 0, none⟩ (.int .i64 x.a)).setCell ⟨w.heap.size, 1, none⟩ (.int .i64 x.b)).setCell ⟨w.heap.size, 2, none⟩ (.int .i64 x.c)).setCell ⟨w.heap.size, 3, none⟩ (.int .i64 x.d)).cell? ⟨w.heap.size, 2, none⟩ = some (.int .i64 x.c) := T4.out.cell 2
  have q3 : ((((wZ.setCell ⟨w.heap.size, 0, none⟩ (.int .i64 x.a)).setCell ⟨w.heap.size, 1, none⟩ (.int .i64 x.b)).setCell ⟨w.heap.size, 2, none⟩ (.int .i64 x.c)).setCell ⟨w.heap.size, 3, none⟩ (.int .i64 x.d)).cell? ⟨w.heap.size, 3, none⟩ = some (.int .i64 x.d) := T4.out.cell 3
  refine bodyPost_ret (v := .agg #[.int .i64 x.a, .int .i64 x.b, .int .i64 x.c, .int .i64 x.d]) (by simp [results, Tryz.results26, go_sem, q0, q1, q2, q3]) rfl ⟨x, rfl, ?_⟩
  exact (((B8.out.setCell (p := ⟨w.heap.size, 0, none⟩) (Nat.le_refl _) _).setCell (p := ⟨w.heap.size, 1, none⟩) (Nat.le_refl _) _).setCell (p := ⟨w.heap.size, 2, none⟩) (Nat.le_refl _) _).setCell (p := ⟨w.heap.size, 3, none⟩) (Nat.le_refl _) _
set_option maxRecDepth 100000 in
set_option maxHeartbeats 4000000 in
theorem l03Both_any (bs : List Int) (A : Option Addr) (c : Nat) (w : World) (hbs : BsOk bs) (h1 : RdB w w.heap.size A bs) :
    Calls Tryz.prog 57 #[.slice A bs.length c] w fun e w' => ∃ (x : T4) (t : Int), e = .returned (.tuple #[.agg #[.int .i64 x.a, .int .i64 x.b, .int .i64 x.c, .int .i64 x.d], .int .i64 t]) ∧ Below w.heap.size w w' := by
  have Y0 := hide (BoxN.new w #[.int .i64 0, .int .i64 0, .int .i64 0, .int .i64 0] 44)
  have B0 := hide (show Below w.heap.size w (w.alloc (.cells #[.int .i64 0, .int .i64 0, .int .i64 0, .int .i64 0] 44)) from (Below.refl _ _).alloc (Nat.le_refl _) _)
  have hz0 : (w.alloc (.cells #[.int .i64 0, .int .i64 0, .int .i64 0, .int .i64 0] 44)).heap.size = w.heap.size + 1 := by simp
  have HF := hide (l00From_any bs A c (w.alloc (.cells #[.int .i64 0, .int .i64 0, .int .i64 0, .int .i64 0] 44)) hbs.1 ((RdB.below h1 B0.out).more B0.out.size))
  rw [hz0] at HF
  have HA := hide fun b W (hW : SrcAt b bs 0 W) => anyRide_any b bs 0 W hbs (by omega) hW
  have HK := hide fun b W (hW : SrcAt b bs (0 + 100) W) => rideTicks_any b bs (0 + 100) W hbs (by omega) hW
  clear h1 hz0
  go_enter Tryz.func57, Tryz.ntmps57
  go_upto_region 1 with fail
  generalize w.alloc (.cells #[.int .i64 0, .int .i64 0, .int .i64 0, .int .i64 0] 44) = w1 at *
  go_upto_region 2 with (go_at_call 35; (with_reducible refine (HF.out).mono ?_); rintro e w2 ⟨rfl, hs2, hz2, hb2⟩; have HZ2 := hide hz2; clear hz2)
  have Y2 := hide (Y0.out.below hb2 (by omega))
  have B2 := hide (B0.out.trans (hb2.mono (by omega)))
  have S2 := hide hs2
  clear hs2 hb2 HF Y0 B0
  go_upto_region 3 with (go_at_call 48; (with_reducible refine (HA.out _ _ S2.out).mono ?_); rintro e w3 ⟨x, rfl, hs3, ho3⟩; have Y3 := hide (Y2.out.only ho3 (.inl (by omega))); have B3 := hide (B2.out.trans (ho3.below (by omega) (by have := HZ2.out; omega))); have S3 := hide hs3; have hz3 := Nat.le_trans (Nat.le_of_eq HZ2.out.symm) ho3.size; clear hs3 ho3 S2 Y2 B2)
  have X4 := hide (BoxN.new w3 #[.int .i64 x.a, .int .i64 x.b, .int .i64 x.c, .int .i64 x.d] 44)
  have Y4 := hide (Y3.out.alloc (.cells #[.int .i64 x.a, .int .i64 x.b, .int .i64 x.c, .int .i64 x.d] 44))
  have S4 := hide (S3.out.alloc (.cells #[.int .i64 x.a, .int .i64 x.b, .int .i64 x.c, .int .i64 x.d] 44))
  have B4 := hide (B3.out.alloc B3.out.size (.cells #[.int .i64 x.a, .int .i64 x.b, .int .i64 x.c, .int .i64 x.d] 44))
  have hz4 : w3.heap.size < (w3.alloc (.cells #[.int .i64 x.a, .int .i64 x.b, .int .i64 x.c, .int .i64 x.d] 44)).heap.size := by simp
  generalize w3.alloc (.cells #[.int .i64 x.a, .int .i64 x.b, .int .i64 x.c, .int .i64 x.d] 44) = w4 at *
  generalize hgx : w3.heap.size = gx at *
  clear hgx Y3 S3 B3
  have X5 : Hid (BoxN w4.drew gx #[.int .i64 x.a, .int .i64 x.b, .int .i64 x.c, .int .i64 x.d] 44) := X4.out
  have Y5 : Hid (BoxN w4.drew w.heap.size #[.int .i64 0, .int .i64 0, .int .i64 0, .int .i64 0] 44) := Y4.out
  have S5 : Hid (SrcAt (w.heap.size + 1) bs (0 + 100) w4.drew) := S4.out
  have B5 : Hid (Below w.heap.size w w4.drew) := B4.out.drew
  have hz5 : gx < w4.drew.heap.size := hz4
  clear X4 Y4 S4 B4 hz4
  refine wp_region_held_drew (S := fun W => W.cell? ⟨gx, 0, none⟩ = some (.int .i64 x.a) ∧ W.cell? ⟨gx, 1, none⟩ = some (.int .i64 x.b) ∧ W.cell? ⟨gx, 2, none⟩ = some (.int .i64 x.c) ∧ W.cell? ⟨gx, 3, none⟩ = some (.int .i64 x.d)) (by kernel_rfl) (⟨X5.out.cell 0, X5.out.cell 1, X5.out.cell 2, X5.out.cell 3⟩) (fun hHeld => ?_)
  generalize w4.drew = wd at *
  refine wpAnyH_take (i := 0) (v := ?_) rfl (by kernel_rfl) (by kernel_rfl) (by kernel_rfl) (fun _ _ _ h => h) (Or.inl ⟨by rfl, ?_⟩) (by assumption) ?_
  rotate_left 1
  · (intro w hSw; (try dsimp only at hSw); go_simp; try with_reducible rfl)
  try simp only [Act.put, List.getElem_toArray, List.getElem_cons_succ, List.getElem_cons_zero, List.setIfInBounds_toArray, List.set_cons_zero, List.set_cons_succ]
  refine wpAnyH_take (i := 1) (v := ?_) rfl (by kernel_rfl) (by kernel_rfl) (by kernel_rfl) (fun _ _ _ h => h) (Or.inl ⟨by rfl, ?_⟩) (by assumption) ?_
  rotate_left 1
  · (intro w hSw; (try dsimp only at hSw); go_simp; try with_reducible rfl)
  try simp only [Act.put, List.getElem_toArray, List.getElem_cons_succ, List.getElem_cons_zero, List.setIfInBounds_toArray, List.set_cons_zero, List.set_cons_succ]
  refine wpAnyH_ready (rs := [2]) (by kernel_rfl) (by simp) ?_
  refine AllReadyH.cons rfl (fun K hK => ?_) AllReadyH.nil
  try simp only [Act.put, List.getElem_toArray, List.getElem_cons_succ, List.getElem_cons_zero, List.setIfInBounds_toArray, List.set_cons_zero, List.set_cons_succ]
  go_simp
  go_at_call 90
  refine (HK.out _ _ S5.out).mono ?_
  rintro e wZ ⟨tk, rfl, hs6, ho6⟩
  have X6 := hide (X5.out.only ho6 (.inr (by omega)))
  have Y8 := hide (Y5.out.only ho6 (.inl (by omega)))
  have B8 := hide (B5.out.trans (ho6.below (by omega) (by omega)))
  have T1 := hide (Y8.out.set 0 (.int .i64 x.a))
  have T2 := hide (T1.out.set 1 (.int .i64 x.b))
  have T3 := hide (T2.out.set 2 (.int .i64 x.c))
  have T4 := hide (T3.out.set 3 (.int .i64 x.d))
  have m0 : wZ.cell? ⟨w.heap.size, 0, none⟩ = some (.int .i64 0) := Y8.out.cell 0
  have n0 := Y8.out.fro 0
  have m1 : (wZ.setCell ⟨w.heap.size, 0, none⟩ (.int .i64 x.a)).cell? ⟨w.heap.size, 1, none⟩ = some (.int .i64 0) := T1.out.cell 1
  have n1 := T1.out.fro 1
  have m2 : ((wZ.setCell ⟨w.heap.size, 0, none⟩ (.int .i64 x.a)).setCell ⟨w.heap.size, 1, none⟩ (.int .i64 x.b)).cell? ⟨w.heap.size, 2, none⟩ = some (.int .i64 0) := T2.out.cell 2
  have n2 := T2.out.fro 2
  have m3 : (((wZ.setCell ⟨w.heap.size, 0, none⟩ (.int .i64 x.a)).setCell ⟨w.heap.size, 1, none⟩ (.int .i64 x.b)).setCell ⟨w.heap.size, 2, none⟩ (.int .i64 x.c)).cell? ⟨w.heap.size, 3, none⟩ = some (.int .i64 0) := T3.out.cell 3
  have n3 := T3.out.fro 3
  have XE := hide ((((X6.out.other (b' := w.heap.size) (by omega) 0 (.int .i64 x.a)).other (b' := w.heap.size) (by omega) 1 (.int .i64 x.b)).other (b' := w.heap.size) (by omega) 2 (.int .i64 x.c)).other (b' := w.heap.size) (by omega) 3 (.int .i64 x.d))
  dsimp only
  refine hK.out _ _ (⟨X6.out.cell 0, X6.out.cell 1, X6.out.cell 2, X6.out.cell 3⟩) (fun hHeld => ?_)
  clear hK K
  try simp only [Act.put, List.getElem_toArray, List.getElem_cons_succ, List.getElem_cons_zero, List.setIfInBounds_toArray, List.set_cons_zero, List.set_cons_succ]
  refine wpAnyH_ready (rs := [3]) (by kernel_rfl) (by simp) ?_
  refine AllReadyH.cons rfl (fun K hK => ?_) AllReadyH.nil
  try simp only [Act.put, List.getElem_toArray, List.getElem_cons_succ, List.getElem_cons_zero, List.setIfInBounds_toArray, List.set_cons_zero, List.set_cons_succ]
  go_simp
  refine hK.out _ _ (⟨XE.out.cell 0, XE.out.cell 1, XE.out.cell 2, XE.out.cell 3⟩) (fun hHeld => ?_)
  clear hK K
  try simp only [Act.put, List.getElem_toArray, List.getElem_cons_succ, List.getElem_cons_zero, List.setIfInBounds_toArray, List.set_cons_zero, List.set_cons_succ]
  refine wpAnyH_take (i := 4) (v := ?_) rfl (by kernel_rfl) (by kernel_rfl) (by kernel_rfl) (fun _ _ _ h => h) (Or.inl ⟨by rfl, ?_⟩) (by assumption) ?_
  rotate_left 1
  · (intro w hSw; (try dsimp only at hSw); go_simp; try with_reducible rfl)
  try simp only [Act.put, List.getElem_toArray, List.getElem_cons_succ, List.getElem_cons_zero, List.setIfInBounds_toArray, List.set_cons_zero, List.set_cons_succ]
  refine wpAnyH_done (by kernel_rfl) ?_ _
  go_wp2_with fail
  have q0 : ((((wZ.setCell ⟨w.heap.size, 0, none⟩ (.int .i64 x.a)).setCell ⟨w.heap.size, 1, none⟩ (.int .i64 x.b)).setCell ⟨w.heap.size, 2, none⟩ (.int .i64 x.c)).setCell ⟨w.heap.size, 3, none⟩ (.int .i64 x.d)).cell? ⟨w.heap.size, 0, none⟩ = some (.int .i64 x.a) := T4.out.cell 0
  have q1 : ((((wZ.setCell ⟨w.heap.size, 0, none⟩ (.int .i64 x.a)).setCell ⟨w.heap.size, 1, none⟩ (.int .i64 x.b)).setCell ⟨w.heap.size, 2, none⟩ (.int .i64 x.c)).setCell ⟨w.heap.size, 3, none⟩ (.int .i64 x.d)).cell? ⟨w.heap.size, 1, none⟩ = some (.int .i64 x.b) := T4.out.cell 1
  have q2 : ((((wZ.setCell ⟨w.heap.size, 0, none⟩ (.int .i64 x.a)).setCell ⟨w.heap.size, 1, none⟩ (.int .i64 x.b)).setCell ⟨w.heap.size, 2, none⟩ (.int .i64 x.c)).setCell ⟨w.heap.size, 3, none⟩ (.int .i64 x.d)).cell? ⟨w.heap.size, 2, none⟩ = some (.int .i64 x.c) := T4.out.cell 2
  have q3 : ((((wZ.setCell ⟨w.heap.size, 0, none⟩ (.int .i64 x.a)).setCell ⟨w.heap.size, 1, none⟩ (.int .i64 x.b)).setCell ⟨w.heap.size, 2, none⟩ (.int .i64 x.c)).setCell ⟨w.heap.size, 3, none⟩ (.int .i64 x.d)).cell? ⟨w.heap.size, 3, none⟩ = some (.int .i64 x.d) := T4.out.cell 3
  refine bodyPost_ret (v := .tuple #[.agg #[.int .i64 x.a, .int .i64 x.b, .int .i64 x.c, .int .i64 x.d], .int .i64 tk]) (by simp [results, Tryz.results57, go_sem, q0, q1, q2, q3]) rfl ⟨x, tk, rfl, ?_⟩
  exact (((B8.out.setCell (p := ⟨w.heap.size, 0, none⟩) (Nat.le_refl _) _).setCell (p := ⟨w.heap.size, 1, none⟩) (Nat.le_refl _) _).setCell (p := ⟨w.heap.size, 2, none⟩) (Nat.le_refl _) _).setCell (p := ⟨w.heap.size, 3, none⟩) (Nat.le_refl _) _
set_option maxRecDepth 100000 in
set_option maxHeartbeats 4000000 in
theorem drawPressureFor_any (bs : List Int) (A : Option Addr) (c : Nat) (w : World) (hbs : BsOk bs) (h1 : RdB w w.heap.size A bs) :
    Calls Tryz.prog 20 #[.slice A bs.length c] w fun e w' => ∃ (x : T4) (t : Int), e = .returned (.tuple #[.agg #[.int .i64 x.a, .int .i64 x.b, .int .i64 x.c, .int .i64 x.d], .int .i64 t]) ∧ Below w.heap.size w w' := by
  have Y0 := hide (BoxN.new w #[.int .i64 0, .int .i64 0, .int .i64 0, .int .i64 0] 44)
  have B0 := hide (show Below w.heap.size w (w.alloc (.cells #[.int .i64 0, .int .i64 0, .int .i64 0, .int .i64 0] 44)) from (Below.refl _ _).alloc (Nat.le_refl _) _)
  have HF := hide (l03Both_any bs A c (w.alloc (.cells #[.int .i64 0, .int .i64 0, .int .i64 0, .int .i64 0] 44)) hbs ((RdB.below h1 B0.out).more B0.out.size))
  clear h1
  go_enter Tryz.func20, Tryz.ntmps20
  go_upto_region 1 with fail
  generalize w.alloc (.cells #[.int .i64 0, .int .i64 0, .int .i64 0, .int .i64 0] 44) = w1 at *
  go_wp2_with (go_at_call 57; (with_reducible refine (HF.out).mono ?_); rintro e wZ ⟨x, tk, rfl, hb2⟩; have Y8 := hide (Y0.out.below hb2 Y0.out.lt); have B8 := hide (B0.out.trans (hb2.mono B0.out.size)); have T1 := hide (Y8.out.set 0 (.int .i64 x.a)); have T2 := hide (T1.out.set 1 (.int .i64 x.b)); have T3 := hide (T2.out.set 2 (.int .i64 x.c)); have T4 := hide (T3.out.set 3 (.int .i64 x.d)); have m0 : wZ.cell? ⟨w.heap.size, 0, none⟩ = some (.int .i64 0) := Y8.out.cell 0; have n0 := Y8.out.fro 0; have m1 : (wZ.setCell ⟨w.heap.size, 0, none⟩ (.int .i64 x.a)).cell? ⟨w.heap.size, 1, none⟩ = some (.int .i64 0) := T1.out.cell 1; have n1 := T1.out.fro 1; have m2 : ((wZ.setCell ⟨w.heap.size, 0, none⟩ (.int .i64 x.a)).setCell ⟨w.heap.size, 1, none⟩ (.int .i64 x.b)).cell? ⟨w.heap.size, 2, none⟩ = some (.int .i64 0) := T2.out.cell 2; have n2 := T2.out.fro 2; have m3 : (((wZ.setCell ⟨w.heap.size, 0, none⟩ (.int .i64 x.a)).setCell ⟨w.heap.size, 1, none⟩ (.int .i64 x.b)).setCell ⟨w.heap.size, 2, none⟩ (.int .i64 x.c)).cell? ⟨w.heap.size, 3, none⟩ = some (.int .i64 0) := T3.out.cell 3; have n3 := T3.out.fro 3)
  have q0 : ((((wZ.setCell ⟨w.heap.size, 0, none⟩ (.int .i64 x.a)).setCell ⟨w.heap.size, 1, none⟩ (.int .i64 x.b)).setCell ⟨w.heap.size, 2, none⟩ (.int .i64 x.c)).setCell ⟨w.heap.size, 3, none⟩ (.int .i64 x.d)).cell? ⟨w.heap.size, 0, none⟩ = some (.int .i64 x.a) := T4.out.cell 0
  have q1 : ((((wZ.setCell ⟨w.heap.size, 0, none⟩ (.int .i64 x.a)).setCell ⟨w.heap.size, 1, none⟩ (.int .i64 x.b)).setCell ⟨w.heap.size, 2, none⟩ (.int .i64 x.c)).setCell ⟨w.heap.size, 3, none⟩ (.int .i64 x.d)).cell? ⟨w.heap.size, 1, none⟩ = some (.int .i64 x.b) := T4.out.cell 1
  have q2 : ((((wZ.setCell ⟨w.heap.size, 0, none⟩ (.int .i64 x.a)).setCell ⟨w.heap.size, 1, none⟩ (.int .i64 x.b)).setCell ⟨w.heap.size, 2, none⟩ (.int .i64 x.c)).setCell ⟨w.heap.size, 3, none⟩ (.int .i64 x.d)).cell? ⟨w.heap.size, 2, none⟩ = some (.int .i64 x.c) := T4.out.cell 2
  have q3 : ((((wZ.setCell ⟨w.heap.size, 0, none⟩ (.int .i64 x.a)).setCell ⟨w.heap.size, 1, none⟩ (.int .i64 x.b)).setCell ⟨w.heap.size, 2, none⟩ (.int .i64 x.c)).setCell ⟨w.heap.size, 3, none⟩ (.int .i64 x.d)).cell? ⟨w.heap.size, 3, none⟩ = some (.int .i64 x.d) := T4.out.cell 3
  refine bodyPost_ret (v := .tuple #[.agg #[.int .i64 x.a, .int .i64 x.b, .int .i64 x.c, .int .i64 x.d], .int .i64 tk]) (by simp [results, Tryz.results20, go_sem, q0, q1, q2, q3]) rfl ⟨x, tk, rfl, ?_⟩
  exact (((B8.out.setCell (p := ⟨w.heap.size, 0, none⟩) (Nat.le_refl _) _).setCell (p := ⟨w.heap.size, 1, none⟩) (Nat.le_refl _) _).setCell (p := ⟨w.heap.size, 2, none⟩) (Nat.le_refl _) _).setCell (p := ⟨w.heap.size, 3, none⟩) (Nat.le_refl _) _
set_option maxRecDepth 100000 in
set_option maxHeartbeats 4000000 in
theorem drawHeaviestFor_any (bs : List Int) (A : Option Addr) (c : Nat) (w : World) (hbs : BsOk bs) (h1 : RdB w w.heap.size A bs) :
    Calls Tryz.prog 23 #[.slice A bs.length c] w fun e w' => ∃ (x : T4) (t : Int), e = .returned (.tuple #[.agg #[.int .i64 x.a, .int .i64 x.b, .int .i64 x.c, .int .i64 x.d], .int .i64 t]) ∧ Below w.heap.size w w' := by
  have Y0 := hide (BoxN.new w #[.int .i64 0, .int .i64 0, .int .i64 0, .int .i64 0] 44)
  have B0 := hide (show Below w.heap.size w (w.alloc (.cells #[.int .i64 0, .int .i64 0, .int .i64 0, .int .i64 0] 44)) from (Below.refl _ _).alloc (Nat.le_refl _) _)
  have HF := hide (l03Both_any bs A c (w.alloc (.cells #[.int .i64 0, .int .i64 0, .int .i64 0, .int .i64 0] 44)) hbs ((RdB.below h1 B0.out).more B0.out.size))
  clear h1
  go_enter Tryz.func23, Tryz.ntmps23
  go_upto_region 1 with fail
  generalize w.alloc (.cells #[.int .i64 0, .int .i64 0, .int .i64 0, .int .i64 0] 44) = w1 at *
  go_wp2_with (go_at_call 57; (with_reducible refine (HF.out).mono ?_); rintro e wZ ⟨x, tk, rfl, hb2⟩; have Y8 := hide (Y0.out.below hb2 Y0.out.lt); have B8 := hide (B0.out.trans (hb2.mono B0.out.size)); have T1 := hide (Y8.out.set 0 (.int .i64 x.a)); have T2 := hide (T1.out.set 1 (.int .i64 x.b)); have T3 := hide (T2.out.set 2 (.int .i64 x.c)); have T4 := hide (T3.out.set 3 (.int .i64 x.d)); have m0 : wZ.cell? ⟨w.heap.size, 0, none⟩ = some (.int .i64 0) := Y8.out.cell 0; have n0 := Y8.out.fro 0; have m1 : (wZ.setCell ⟨w.heap.size, 0, none⟩ (.int .i64 x.a)).cell? ⟨w.heap.size, 1, none⟩ = some (.int .i64 0) := T1.out.cell 1; have n1 := T1.out.fro 1; have m2 : ((wZ.setCell ⟨w.heap.size, 0, none⟩ (.int .i64 x.a)).setCell ⟨w.heap.size, 1, none⟩ (.int .i64 x.b)).cell? ⟨w.heap.size, 2, none⟩ = some (.int .i64 0) := T2.out.cell 2; have n2 := T2.out.fro 2; have m3 : (((wZ.setCell ⟨w.heap.size, 0, none⟩ (.int .i64 x.a)).setCell ⟨w.heap.size, 1, none⟩ (.int .i64 x.b)).setCell ⟨w.heap.size, 2, none⟩ (.int .i64 x.c)).cell? ⟨w.heap.size, 3, none⟩ = some (.int .i64 0) := T3.out.cell 3; have n3 := T3.out.fro 3)
  have q0 : ((((wZ.setCell ⟨w.heap.size, 0, none⟩ (.int .i64 x.a)).setCell ⟨w.heap.size, 1, none⟩ (.int .i64 x.b)).setCell ⟨w.heap.size, 2, none⟩ (.int .i64 x.c)).setCell ⟨w.heap.size, 3, none⟩ (.int .i64 x.d)).cell? ⟨w.heap.size, 0, none⟩ = some (.int .i64 x.a) := T4.out.cell 0
  have q1 : ((((wZ.setCell ⟨w.heap.size, 0, none⟩ (.int .i64 x.a)).setCell ⟨w.heap.size, 1, none⟩ (.int .i64 x.b)).setCell ⟨w.heap.size, 2, none⟩ (.int .i64 x.c)).setCell ⟨w.heap.size, 3, none⟩ (.int .i64 x.d)).cell? ⟨w.heap.size, 1, none⟩ = some (.int .i64 x.b) := T4.out.cell 1
  have q2 : ((((wZ.setCell ⟨w.heap.size, 0, none⟩ (.int .i64 x.a)).setCell ⟨w.heap.size, 1, none⟩ (.int .i64 x.b)).setCell ⟨w.heap.size, 2, none⟩ (.int .i64 x.c)).setCell ⟨w.heap.size, 3, none⟩ (.int .i64 x.d)).cell? ⟨w.heap.size, 2, none⟩ = some (.int .i64 x.c) := T4.out.cell 2
  have q3 : ((((wZ.setCell ⟨w.heap.size, 0, none⟩ (.int .i64 x.a)).setCell ⟨w.heap.size, 1, none⟩ (.int .i64 x.b)).setCell ⟨w.heap.size, 2, none⟩ (.int .i64 x.c)).setCell ⟨w.heap.size, 3, none⟩ (.int .i64 x.d)).cell? ⟨w.heap.size, 3, none⟩ = some (.int .i64 x.d) := T4.out.cell 3
  refine bodyPost_ret (v := .tuple #[.agg #[.int .i64 x.a, .int .i64 x.b, .int .i64 x.c, .int .i64 x.d], .int .i64 tk]) (by simp [results, Tryz.results23, go_sem, q0, q1, q2, q3]) rfl ⟨x, tk, rfl, ?_⟩
  exact (((B8.out.setCell (p := ⟨w.heap.size, 0, none⟩) (Nat.le_refl _) _).setCell (p := ⟨w.heap.size, 1, none⟩) (Nat.le_refl _) _).setCell (p := ⟨w.heap.size, 2, none⟩) (Nat.le_refl _) _).setCell (p := ⟨w.heap.size, 3, none⟩) (Nat.le_refl _) _
set_option maxRecDepth 100000 in
set_option maxHeartbeats 4000000 in
theorem drawReadRide_any (bs : List Int) (A : Option Addr) (c : Nat) (w : World) (hbs : BsOk bs) (h1 : RdB w w.heap.size A bs) :
    Calls Tryz.prog 29 #[.slice A bs.length c] w fun e w' => ∃ s : ByteArray, e = .returned (.string s) ∧ s.size ≤ 1001 ∧ Below w.heap.size w w' := by
  have HF := hide (l00From_any bs A c w hbs.1 h1)
  have HN := hide fun W (hW : SrcAt w.heap.size bs 0 W) => newRideOk_any w.heap.size bs 0 W hbs (by omega) hW
  have HT := hide fun (x : T4) g W (hok : okR x = true) (hX : BoxN W g #[.int .i64 x.a, .int .i64 x.b, .int .i64 x.c, .int .i64 x.d] 44) => (show Calls Tryz.prog 62 #[.pointer (some ⟨g, 0, none⟩)] W fun e w' => e = .returned (.string (rideB x)) ∧ Below W.heap.size W w' from l03Text_any x.a x.b x.c x.d g W hok hX)
  have HO := hide fun W (hW : SrcAt w.heap.size bs (0 + 10) W) => one_any w.heap.size bs (0 + 10) 3 W hbs (by omega) hW
  have HS := hide fun t W (ht : t.size ≤ 1000) (hW : SrcAt w.heap.size bs (0 + 10 + 2) W) => l01Spoil_any w.heap.size bs (0 + 10 + 2) t W hbs (by omega) hW ht
  clear h1
  go_enter Tryz.func29, Tryz.ntmps29
  go_upto_region 2 with (go_at_call 35; (with_reducible refine (HF.out).mono ?_); rintro e w1 ⟨rfl, hs1, hz1, hb1⟩; have HZ1 := hide hz1; clear hz1)
  have S1 := hide hs1
  have B1 := hide hb1
  clear hs1 hb1 HF
  go_upto_region 3 with (go_at_call 61; (with_reducible refine (HN.out _ S1.out).mono ?_); rintro e w2 ⟨x, rfl, hs2, ho2, hok⟩)
  have HOK := hide hok
  have hz2 : w.heap.size + 1 ≤ w2.heap.size := Nat.le_trans (Nat.le_of_eq HZ1.out.symm) ho2.size
  have B2 := hide (B1.out.trans (ho2.below (Nat.le_refl _) (by have := HZ1.out; omega)))
  have X3 := hide (BoxN.new w2 #[.int .i64 x.a, .int .i64 x.b, .int .i64 x.c, .int .i64 x.d] 44)
  have S3 := hide (hs2.alloc (.cells #[.int .i64 x.a, .int .i64 x.b, .int .i64 x.c, .int .i64 x.d] 44))
  have B3 := hide (B2.out.alloc B2.out.size (.cells #[.int .i64 x.a, .int .i64 x.b, .int .i64 x.c, .int .i64 x.d] 44))
  have hz3 : w2.heap.size ≤ (w2.alloc (.cells #[.int .i64 x.a, .int .i64 x.b, .int .i64 x.c, .int .i64 x.d] 44)).heap.size := by simp
  clear hs2 ho2 hok B2
  generalize w2.alloc (.cells #[.int .i64 x.a, .int .i64 x.b, .int .i64 x.c, .int .i64 x.d] 44) = w3 at *
  generalize w2.heap.size = gx at *
  have hrs := rideB_size HOK.out
  have HT2 := hide (HT.out x gx w3 HOK.out X3.out)
  clear HT
  generalize rideB x = tx at *
  go_upto_if 12 with (first | (go_at_call 62; (with_reducible refine (HT2.out).mono ?_); rintro e w4 ⟨rfl, hb4⟩; have S4 := hide (SrcAt.below S3.out hb4 (by omega)); have B4 := hide (B3.out.trans (hb4.mono B3.out.size)); have hz4 := hb4.size; clear hb4) | (go_at_call 63; (with_reducible refine (HO.out _ S4.out).mono ?_); rintro e w5 ⟨v, rfl, hs5, ho5⟩; have S5 := hide hs5; have B5 := hide (B4.out.trans (ho5.below (Nat.le_refl _) (by omega))); have hz5 := ho5.size; clear hs5 ho5))
  cases v
  · go_wp2_with fail
    go_ret
    exact ⟨tx, rfl, by omega, B5.out⟩
  · go_wp2_with (go_at_call 64; (with_reducible refine (HS.out _ _ (by omega) S5.out).mono ?_); rintro e w6 ⟨s, rfl, hs6, _, ho6⟩)
    go_ret
    exact ⟨s, rfl, hs6, B5.out.trans (ho6.below (Nat.le_refl _) (by omega))⟩
end Go.Proofs.YtaajkmjilcamgaaGreatDoor
