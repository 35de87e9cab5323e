/-
  Zones: ways are drawn, changes are drawn and spoilt.
  Zones: what the laws draw.
  Zones: what LevelAt and TicksAbove draw.
  Zones: what ChangeText and AddChange draw.
-/
import Derived.Test.YtofjnmeblmbnmaaDoorQLevels11
import Derived.Deep.DeepCutAuto
import Derived.Test.YtofjnmeblmbnmaaDoorQLevels14
namespace Go.Proofs.YtofjnmeblmbnmaaDoor
open Go.RowKit
end Go.Proofs.YtofjnmeblmbnmaaDoor
namespace Go.Proofs.YtofjnmeblmbnmaaDoor
open Go.RowKit
end Go.Proofs.YtofjnmeblmbnmaaDoor
namespace Go.Proofs.YtofjnmeblmbnmaaDoor
open Go.RowKit
set_option maxRecDepth 100000 in
set_option maxHeartbeats 4000000 in
theorem drawLevelAt_any (bs : List Int) (A : Option Addr) (c : Nat) (w : World) (hbs : BsOk bs) (h1 : RdB w w.heap.size A bs) :
    Calls Tryd.prog 24 #[.slice A bs.length c] w fun e w' => ∃ (x : TZ) (A1 : Option Addr) (c1 : Nat) (A2 : Option Addr) (c2 : Nat) (zn tk : Int), e = .returned (.tuple #[.agg #[.int .i64 x.z, .slice A1 x.of.length c1, .slice A2 x.ch.length c2], .int .i64 zn, .int .i64 tk]) ∧ ((-1 ≤ zn ∧ zn ≤ 9) ∧ (-9223372036854775808 ≤ tk ∧ tk ≤ 10001)) ∧ RdI w' w'.heap.size A1 x.of ∧ Rd3 w' w'.heap.size A2 x.ch ∧ ZBt x ∧ Below w.heap.size w w' := by
  have hbA : Below w.heap.size w (w.alloc (.cells #[.int .i64 0, .slice none 0 0, .slice none 0 0] 47)) := (Below.refl _ _).alloc (Nat.le_refl _) _
  have X0 := hide (BoxN.new w #[.int .i64 0, .slice none 0 0, .slice none 0 0] 47)
  have hz0a : (w.alloc (.cells #[.int .i64 0, .slice none 0 0, .slice none 0 0] 47)).heap.size = w.heap.size + 1 := by simp
  have z0a := Nat.le_of_eq hz0a
  have z0b := Nat.le_of_eq hz0a.symm
  have HF := hide (l00From_any bs A c _ hbs.1 ((h1.below hbA).more hbA.size))
  have HBA := hide hbA
  clear h1 hbA hz0a
  go_enter Tryd.func24, Tryd.ntmps24
  go_upto_region 1 with fail
  generalize w.alloc (.cells #[.int .i64 0, .slice none 0 0, .slice none 0 0] 47) = w0 at *
  have HBT := hide fun W (hW : SrcAt w0.heap.size bs 0 W) => bentZones_any w0.heap.size bs 0 W hbs (by omega) hW
  go_upto_region 3 with (first | (go_at_call 54; (with_reducible refine (HF.out).mono ?_); rintro e w1 ⟨rfl, hs1, hz1, hb1⟩; have HS1 := hide hs1; have hz1a := Nat.le_of_eq hz1; have hz1b := Nat.le_of_eq hz1.symm; have X1 := hide (X0.out.below hb1 (by omega)); have BW1 := hide (HBA.out.trans (hb1.mono HBA.out.size)); clear hs1 hb1 hz1) | (go_at_call 70; (with_reducible refine (HBT.out _ HS1.out).mono ?_); rintro e w2 ⟨x, A1, c1, A2, c2, rfl, hbt, ro, rc, ap, hs2, ho2⟩))
  have hz2 := ho2.size
  have HBX := hide hbt
  have hxz1 := hbt.1.1
  have hxz9 := hbt.1.2
  have hxo := hbt.2.1.1
  have XR3 := hide ((X1.out.only ho2 (.inl (by omega))).alloc (.cells #[.int .i64 x.z, .slice A1 x.of.length c1, .slice A2 x.ch.length c2] 47))
  have XZ3 := hide (BoxN.new w2 #[.int .i64 x.z, .slice A1 x.of.length c1, .slice A2 x.ch.length c2] 47)
  have RO3 := hide (ro.alloc (.cells #[.int .i64 x.z, .slice A1 x.of.length c1, .slice A2 x.ch.length c2] 47))
  have RC3 := hide (rc.alloc (.cells #[.int .i64 x.z, .slice A1 x.of.length c1, .slice A2 x.ch.length c2] 47))
  have BW3 := hide ((BW1.out.trans (ho2.below (B := w.heap.size) (by omega) BW1.out.size)).alloc (by have := BW1.out.size; omega) (.cells #[.int .i64 x.z, .slice A1 x.of.length c1, .slice A2 x.ch.length c2] 47))
  have S3 := hide ((hs2.alloc (.cells #[.int .i64 x.z, .slice A1 x.of.length c1, .slice A2 x.ch.length c2] 47)).more (N' := 500) (by omega))
  have hz3 : w2.heap.size + 1 ≤ (w2.alloc (.cells #[.int .i64 x.z, .slice A1 x.of.length c1, .slice A2 x.ch.length c2] 47)).heap.size := by simp
  clear hbt ro rc ap hs2 ho2 X0 X1 HF HBA HBT HS1 BW1
  generalize w2.alloc (.cells #[.int .i64 x.z, .slice A1 x.of.length c1, .slice A2 x.ch.length c2] 47) = w3 at *
  generalize w2.heap.size = gz at *
  have HC3 := hide (drawZone_any w0.heap.size bs 500 x.z (.slice A1 x.of.length c1) (.slice A2 x.ch.length c2) gz w3 hbs (by omega) S3.out XZ3.out (by omega) ⟨hxz1, hxz9⟩)
  go_upto_region 4 with (go_at_call 71; (with_reducible refine (HC3.out).mono ?_); rintro e w4 ⟨zn, rfl, hzn, hs4, ho4⟩)
  have S4 := hide hs4
  have XR4 := hide (XR3.out.only ho4 (.inl (by omega)))
  have XZ4 := hide (XZ3.out.only ho4 (.inr (by omega)))
  have RO4 := hide (row_only RO3.out ho4 (by omega))
  have RC4 := hide (row_only RC3.out ho4 (by omega))
  have BW4 := hide (BW3.out.trans (ho4.below (B := w.heap.size) (by omega) BW3.out.size))
  have hz4 := ho4.size
  clear hs4 ho4 HC3 XR3 XZ3 RO3 RC3 BW3 S3
  go_wp2_with fail
  have XRd : Hid (BoxN w4.drew w.heap.size #[.int .i64 0, .slice none 0 0, .slice none 0 0] 47) := XR4.out
  have XZd : Hid (BoxN w4.drew gz #[.int .i64 x.z, .slice A1 x.of.length c1, .slice A2 x.ch.length c2] 47) := XZ4.out
  have ROd : Hid (w4.drew.ownsRow w1.heap.size 2 1 (.slice A1 x.of.length c1) x.of.length (x.of.map (Value.int .i64))) := RO4.out
  have RCd : Hid (w4.drew.ownsRow w1.heap.size 41 3 (.slice A2 x.ch.length c2) x.ch.length (x.ch.flatMap T3.cells)) := RC4.out
  have BWd := hide BW4.out.drew
  have Sd : Hid (SrcAt w0.heap.size bs (500 + 4) w4.drew) := S4.out.below (B := w0.heap.size + 1) (Below.refl _ _).drew (Nat.lt_succ_self _)
  have hzd : gz + 1 ≤ w4.drew.heap.size := XZd.out.lt
  have e0 : w4.drew.cell? ⟨gz, 0, none⟩ = some (.int .i64 x.z) := XZd.out.cell 0
  have e1 : w4.drew.cell? ⟨gz, 1, none⟩ = some (.slice A1 x.of.length c1) := XZd.out.cell 1
  have e2 : w4.drew.cell? ⟨gz, 2, none⟩ = some (.slice A2 x.ch.length c2) := XZd.out.cell 2
  clear XR4 XZ4 RO4 RC4 BW4 S4
  refine wp_region_held_drew (S := fun W => W.cell? ⟨gz, 0, none⟩ = some (.int .i64 x.z) ∧ W.cell? ⟨gz, 1, none⟩ = some (.slice A1 x.of.length c1) ∧ W.cell? ⟨gz, 2, none⟩ = some (.slice A2 x.ch.length c2)) (by kernel_rfl) (⟨e0, e1, e2⟩) (fun hHeld => ?_)
  generalize w4.drew = wd at *
  have HC := hide (drawTick_any w0.heap.size bs (500 + 4) wd hbs (by omega) Sd.out)
  refine wpAnyH_take (i := 0) (v := ?_) rfl (by kernel_rfl) (by kernel_rfl) (by kernel_rfl) (fun _ _ _ h => h) (Or.inl ⟨by rfl, ?_⟩) (by assumption) ?_
  rotate_left 1
  · (intro w hSw; (try dsimp only at hSw); go_simp; try with_reducible rfl)
  try simp only [Act.put, List.getElem_toArray, List.getElem_cons_succ, List.getElem_cons_zero, List.setIfInBounds_toArray, List.set_cons_zero, List.set_cons_succ]
  refine wpAnyH_take (i := 1) (v := ?_) rfl (by kernel_rfl) (by kernel_rfl) (by kernel_rfl) (fun _ _ _ h => h) (Or.inl ⟨by rfl, ?_⟩) (by assumption) ?_
  rotate_left 1
  · (intro w hSw; (try dsimp only at hSw); go_simp; try with_reducible rfl)
  try simp only [Act.put, List.getElem_toArray, List.getElem_cons_succ, List.getElem_cons_zero, List.setIfInBounds_toArray, List.set_cons_zero, List.set_cons_succ]
  refine wpAnyH_take (i := 2) (v := ?_) rfl (by kernel_rfl) (by kernel_rfl) (by kernel_rfl) (fun _ _ _ h => h) (Or.inl ⟨by rfl, ?_⟩) (by assumption) ?_
  rotate_left 1
  · (intro w hSw; (try dsimp only at hSw); go_simp; try with_reducible rfl)
  try simp only [Act.put, List.getElem_toArray, List.getElem_cons_succ, List.getElem_cons_zero, List.setIfInBounds_toArray, List.set_cons_zero, List.set_cons_succ]
  refine wpAnyH_ready (rs := [3]) (by kernel_rfl) (by simp) ?_
  refine AllReadyH.cons rfl (fun K hK => ?_) AllReadyH.nil
  try simp only [Act.put, List.getElem_toArray, List.getElem_cons_succ, List.getElem_cons_zero, List.setIfInBounds_toArray, List.set_cons_zero, List.set_cons_succ]
  go_simp
  go_at_call 72
  refine (HC.out).mono ?_
  rintro e w5 ⟨z, rfl, hzb, hs5, ho5⟩
  have XR5 := hide (XRd.out.only ho5 (.inl (by omega)))
  have XZ5 := hide (XZd.out.only ho5 (.inr (by omega)))
  have RO5 := hide (row_only ROd.out ho5 (by omega))
  have RC5 := hide (row_only RCd.out ho5 (by omega))
  have BW5 := hide (BWd.out.trans (ho5.below (B := w.heap.size) (by omega) BWd.out.size))
  have hz5 := ho5.size
  dsimp only
  refine hK.out _ _ (⟨(XZ5.out.cell 0).trans rfl, (XZ5.out.cell 1).trans rfl, (XZ5.out.cell 2).trans rfl⟩) (fun hHeld => ?_)
  clear hK K
  try simp only [Act.put, List.getElem_toArray, List.getElem_cons_succ, List.getElem_cons_zero, List.setIfInBounds_toArray, List.set_cons_zero, List.set_cons_succ]
  have T1 := hide (XR5.out.set 0 (.int .i64 x.z))
  have T2 := hide (T1.out.set 1 (.slice A1 x.of.length c1))
  have T3' := hide (T2.out.set 2 (.slice A2 x.ch.length c2))
  have m0 : w5.cell? ⟨w.heap.size, 0, none⟩ = some (.int .i64 0) := XR5.out.cell 0
  have n0 := XR5.out.fro 0
  have m1 : (w5.setCell ⟨w.heap.size, 0, none⟩ (.int .i64 x.z)).cell? ⟨w.heap.size, 1, none⟩ = some (.slice none 0 0) := T1.out.cell 1
  have n1 := T1.out.fro 1
  have m2 : ((w5.setCell ⟨w.heap.size, 0, none⟩ (.int .i64 x.z)).setCell ⟨w.heap.size, 1, none⟩ (.slice A1 x.of.length c1)).cell? ⟨w.heap.size, 2, none⟩ = some (.slice none 0 0) := T2.out.cell 2
  have n2 := T2.out.fro 2
  have q0 : (((w5.setCell ⟨w.heap.size, 0, none⟩ (.int .i64 x.z)).setCell ⟨w.heap.size, 1, none⟩ (.slice A1 x.of.length c1)).setCell ⟨w.heap.size, 2, none⟩ (.slice A2 x.ch.length c2)).cell? ⟨w.heap.size, 0, none⟩ = some (.int .i64 x.z) := T3'.out.cell 0
  have q1 : (((w5.setCell ⟨w.heap.size, 0, none⟩ (.int .i64 x.z)).setCell ⟨w.heap.size, 1, none⟩ (.slice A1 x.of.length c1)).setCell ⟨w.heap.size, 2, none⟩ (.slice A2 x.ch.length c2)).cell? ⟨w.heap.size, 1, none⟩ = some (.slice A1 x.of.length c1) := T3'.out.cell 1
  have q2 : (((w5.setCell ⟨w.heap.size, 0, none⟩ (.int .i64 x.z)).setCell ⟨w.heap.size, 1, none⟩ (.slice A1 x.of.length c1)).setCell ⟨w.heap.size, 2, none⟩ (.slice A2 x.ch.length c2)).cell? ⟨w.heap.size, 2, none⟩ = some (.slice A2 x.ch.length c2) := T3'.out.cell 2
  have XZs := hide (((XZ5.out.other (b' := w.heap.size) (by omega) 0 (.int .i64 x.z)).other (b' := w.heap.size) (by omega) 1 (.slice A1 x.of.length c1)).other (b' := w.heap.size) (by omega) 2 (.slice A2 x.ch.length c2))
  refine wpAnyH_ready (rs := [4]) (by kernel_rfl) (by simp) ?_
  refine AllReadyH.cons rfl (fun K hK => ?_) AllReadyH.nil
  try simp only [Act.put, List.getElem_toArray, List.getElem_cons_succ, List.getElem_cons_zero, List.setIfInBounds_toArray, List.set_cons_zero, List.set_cons_succ]
  go_simp
  refine hK.out _ _ (⟨(XZs.out.cell 0).trans rfl, (XZs.out.cell 1).trans rfl, (XZs.out.cell 2).trans rfl⟩) (fun hHeld => ?_)
  clear hK K
  try simp only [Act.put, List.getElem_toArray, List.getElem_cons_succ, List.getElem_cons_zero, List.setIfInBounds_toArray, List.set_cons_zero, List.set_cons_succ]
  refine wpAnyH_take (i := 5) (v := ?_) rfl (by kernel_rfl) (by kernel_rfl) (by kernel_rfl) (fun _ _ _ h => h) (Or.inl ⟨by rfl, ?_⟩) (by assumption) ?_
  rotate_left 1
  · (intro w hSw; (try dsimp only at hSw); go_simp; try with_reducible rfl)
  try simp only [Act.put, List.getElem_toArray, List.getElem_cons_succ, List.getElem_cons_zero, List.setIfInBounds_toArray, List.set_cons_zero, List.set_cons_succ]
  refine wpAnyH_take (i := 6) (v := ?_) rfl (by kernel_rfl) (by kernel_rfl) (by kernel_rfl) (fun _ _ _ h => h) (Or.inl ⟨by rfl, ?_⟩) (by assumption) ?_
  rotate_left 1
  · (intro w hSw; (try dsimp only at hSw); go_simp; try with_reducible rfl)
  try simp only [Act.put, List.getElem_toArray, List.getElem_cons_succ, List.getElem_cons_zero, List.setIfInBounds_toArray, List.set_cons_zero, List.set_cons_succ]
  refine wpAnyH_done (by kernel_rfl) ?_ _
  go_wp2_with fail
  have K1 := (((RO5.out.kept (grown_setCell w5 ⟨w.heap.size, 0, none⟩ (.int .i64 x.z)) (.inr fun e => by have := (RO5.out.lt _ e).1; (try dsimp only at this); omega)).kept (grown_setCell _ ⟨w.heap.size, 1, none⟩ (.slice A1 x.of.length c1)) (.inr fun e => by have := (RO5.out.lt _ e).1; (try dsimp only at this); omega)).kept (grown_setCell _ ⟨w.heap.size, 2, none⟩ (.slice A2 x.ch.length c2)) (.inr fun e => by have := (RO5.out.lt _ e).1; (try dsimp only at this); omega))
  have K2 := (((RC5.out.kept (grown_setCell w5 ⟨w.heap.size, 0, none⟩ (.int .i64 x.z)) (.inr fun e => by have := (RC5.out.lt _ e).1; (try dsimp only at this); omega)).kept (grown_setCell _ ⟨w.heap.size, 1, none⟩ (.slice A1 x.of.length c1)) (.inr fun e => by have := (RC5.out.lt _ e).1; (try dsimp only at this); omega)).kept (grown_setCell _ ⟨w.heap.size, 2, none⟩ (.slice A2 x.ch.length c2)) (.inr fun e => by have := (RC5.out.lt _ e).1; (try dsimp only at this); omega))
  refine bodyPost_ret (v := .tuple #[.agg #[.int .i64 x.z, .slice A1 x.of.length c1, .slice A2 x.ch.length c2], .int .i64 zn, .int .i64 z]) (by simp [results, Tryd.results24, go_sem, q0, q1, q2]) rfl ⟨x, A1, c1, A2, c2, zn, z, rfl, ⟨hzn, hzb⟩, RdI.of_own K1, Rd.of_own K2, HBX.out, ?_⟩
  exact (((BW5.out.setCell (p := ⟨w.heap.size, 0, none⟩) (Nat.le_refl _) _).setCell (p := ⟨w.heap.size, 1, none⟩) (Nat.le_refl _) _).setCell (p := ⟨w.heap.size, 2, none⟩) (Nat.le_refl _) _)
set_option maxRecDepth 100000 in
set_option maxHeartbeats 4000000 in
theorem drawTicksAbove_any (bs : List Int) (A : Option Addr) (c : Nat) (w : World) (hbs : BsOk bs) (h1 : RdB w w.heap.size A bs) :
    Calls Tryd.prog 27 #[.slice A bs.length c] w fun e w' => ∃ (x : TZ) (A1 : Option Addr) (c1 : Nat) (A2 : Option Addr) (c2 : Nat) (zn ls tk : Int), e = .returned (.tuple #[.agg #[.int .i64 x.z, .slice A1 x.of.length c1, .slice A2 x.ch.length c2], .int .i64 zn, .int .i64 ls, .int .i64 tk]) ∧ ((-1 ≤ zn ∧ zn ≤ 9) ∧ (-101 ≤ ls ∧ ls ≤ 101) ∧ (-9223372036854775808 ≤ tk ∧ tk ≤ 10001)) ∧ RdI w' w'.heap.size A1 x.of ∧ Rd3 w' w'.heap.size A2 x.ch ∧ ZBt x ∧ Below w.heap.size w w' := by
  have hbA : Below w.heap.size w (w.alloc (.cells #[.int .i64 0, .slice none 0 0, .slice none 0 0] 47)) := (Below.refl _ _).alloc (Nat.le_refl _) _
  have X0 := hide (BoxN.new w #[.int .i64 0, .slice none 0 0, .slice none 0 0] 47)
  have hz0a : (w.alloc (.cells #[.int .i64 0, .slice none 0 0, .slice none 0 0] 47)).heap.size = w.heap.size + 1 := by simp
  have z0a := Nat.le_of_eq hz0a
  have z0b := Nat.le_of_eq hz0a.symm
  have HF := hide (l00From_any bs A c _ hbs.1 ((h1.below hbA).more hbA.size))
  have HBA := hide hbA
  clear h1 hbA hz0a
  go_enter Tryd.func27, Tryd.ntmps27
  go_upto_region 1 with fail
  generalize w.alloc (.cells #[.int .i64 0, .slice none 0 0, .slice none 0 0] 47) = w0 at *
  have HBT := hide fun W (hW : SrcAt w0.heap.size bs 0 W) => bentZones_any w0.heap.size bs 0 W hbs (by omega) hW
  go_upto_region 3 with (first | (go_at_call 54; (with_reducible refine (HF.out).mono ?_); rintro e w1 ⟨rfl, hs1, hz1, hb1⟩; have HS1 := hide hs1; have hz1a := Nat.le_of_eq hz1; have hz1b := Nat.le_of_eq hz1.symm; have X1 := hide (X0.out.below hb1 (by omega)); have BW1 := hide (HBA.out.trans (hb1.mono HBA.out.size)); clear hs1 hb1 hz1) | (go_at_call 70; (with_reducible refine (HBT.out _ HS1.out).mono ?_); rintro e w2 ⟨x, A1, c1, A2, c2, rfl, hbt, ro, rc, ap, hs2, ho2⟩))
  have hz2 := ho2.size
  have HBX := hide hbt
  have hxz1 := hbt.1.1
  have hxz9 := hbt.1.2
  have hxo := hbt.2.1.1
  have XR3 := hide ((X1.out.only ho2 (.inl (by omega))).alloc (.cells #[.int .i64 x.z, .slice A1 x.of.length c1, .slice A2 x.ch.length c2] 47))
  have XZ3 := hide (BoxN.new w2 #[.int .i64 x.z, .slice A1 x.of.length c1, .slice A2 x.ch.length c2] 47)
  have RO3 := hide (ro.alloc (.cells #[.int .i64 x.z, .slice A1 x.of.length c1, .slice A2 x.ch.length c2] 47))
  have RC3 := hide (rc.alloc (.cells #[.int .i64 x.z, .slice A1 x.of.length c1, .slice A2 x.ch.length c2] 47))
  have BW3 := hide ((BW1.out.trans (ho2.below (B := w.heap.size) (by omega) BW1.out.size)).alloc (by have := BW1.out.size; omega) (.cells #[.int .i64 x.z, .slice A1 x.of.length c1, .slice A2 x.ch.length c2] 47))
  have S3 := hide ((hs2.alloc (.cells #[.int .i64 x.z, .slice A1 x.of.length c1, .slice A2 x.ch.length c2] 47)).more (N' := 500) (by omega))
  have hz3 : w2.heap.size + 1 ≤ (w2.alloc (.cells #[.int .i64 x.z, .slice A1 x.of.length c1, .slice A2 x.ch.length c2] 47)).heap.size := by simp
  clear hbt ro rc ap hs2 ho2 X0 X1 HF HBA HBT HS1 BW1
  generalize w2.alloc (.cells #[.int .i64 x.z, .slice A1 x.of.length c1, .slice A2 x.ch.length c2] 47) = w3 at *
  generalize w2.heap.size = gz at *
  have HC3 := hide (drawZone_any w0.heap.size bs 500 x.z (.slice A1 x.of.length c1) (.slice A2 x.ch.length c2) gz w3 hbs (by omega) S3.out XZ3.out (by omega) ⟨hxz1, hxz9⟩)
  go_upto_region 4 with (go_at_call 71; (with_reducible refine (HC3.out).mono ?_); rintro e w4 ⟨zn, rfl, hzn, hs4, ho4⟩)
  have S4 := hide hs4
  have XR4 := hide (XR3.out.only ho4 (.inl (by omega)))
  have XZ4 := hide (XZ3.out.only ho4 (.inr (by omega)))
  have RO4 := hide (row_only RO3.out ho4 (by omega))
  have RC4 := hide (row_only RC3.out ho4 (by omega))
  have BW4 := hide (BW3.out.trans (ho4.below (B := w.heap.size) (by omega) BW3.out.size))
  have hz4 := ho4.size
  clear hs4 ho4 HC3 XR3 XZ3 RO3 RC3 BW3 S3
  have HC4 := hide (drawLeast_any w0.heap.size bs (500 + 4) w4 hbs (by omega) S4.out)
  go_upto_region 5 with (go_at_call 77; (with_reducible refine (HC4.out).mono ?_); rintro e w5 ⟨ls, rfl, hls, hs5, ho5⟩)
  have S5 := hide hs5
  have XR5 := hide (XR4.out.only ho5 (.inl (by omega)))
  have XZ5 := hide (XZ4.out.only ho5 (.inr (by omega)))
  have RO5 := hide (row_only RO4.out ho5 (by omega))
  have RC5 := hide (row_only RC4.out ho5 (by omega))
  have BW5 := hide (BW4.out.trans (ho5.below (B := w.heap.size) (by omega) BW4.out.size))
  have hz5 := ho5.size
  clear hs5 ho5 HC4 XR4 XZ4 RO4 RC4 BW4 S4
  go_wp2_with fail
  have XRd : Hid (BoxN w5.drew w.heap.size #[.int .i64 0, .slice none 0 0, .slice none 0 0] 47) := XR5.out
  have XZd : Hid (BoxN w5.drew gz #[.int .i64 x.z, .slice A1 x.of.length c1, .slice A2 x.ch.length c2] 47) := XZ5.out
  have ROd : Hid (w5.drew.ownsRow w1.heap.size 2 1 (.slice A1 x.of.length c1) x.of.length (x.of.map (Value.int .i64))) := RO5.out
  have RCd : Hid (w5.drew.ownsRow w1.heap.size 41 3 (.slice A2 x.ch.length c2) x.ch.length (x.ch.flatMap T3.cells)) := RC5.out
  have BWd := hide BW5.out.drew
  have Sd : Hid (SrcAt w0.heap.size bs (500 + 4 + 4) w5.drew) := S5.out.below (B := w0.heap.size + 1) (Below.refl _ _).drew (Nat.lt_succ_self _)
  have hzd : gz + 1 ≤ w5.drew.heap.size := XZd.out.lt
  have e0 : w5.drew.cell? ⟨gz, 0, none⟩ = some (.int .i64 x.z) := XZd.out.cell 0
  have e1 : w5.drew.cell? ⟨gz, 1, none⟩ = some (.slice A1 x.of.length c1) := XZd.out.cell 1
  have e2 : w5.drew.cell? ⟨gz, 2, none⟩ = some (.slice A2 x.ch.length c2) := XZd.out.cell 2
  clear XR5 XZ5 RO5 RC5 BW5 S5
  refine wp_region_held_drew (S := fun W => W.cell? ⟨gz, 0, none⟩ = some (.int .i64 x.z) ∧ W.cell? ⟨gz, 1, none⟩ = some (.slice A1 x.of.length c1) ∧ W.cell? ⟨gz, 2, none⟩ = some (.slice A2 x.ch.length c2)) (by kernel_rfl) (⟨e0, e1, e2⟩) (fun hHeld => ?_)
  generalize w5.drew = wd at *
  have HC := hide (drawTick_any w0.heap.size bs (500 + 4 + 4) wd hbs (by omega) Sd.out)
  refine wpAnyH_take (i := 0) (v := ?_) rfl (by kernel_rfl) (by kernel_rfl) (by kernel_rfl) (fun _ _ _ h => h) (Or.inl ⟨by rfl, ?_⟩) (by assumption) ?_
  rotate_left 1
  · (intro w hSw; (try dsimp only at hSw); go_simp; try with_reducible rfl)
  try simp only [Act.put, List.getElem_toArray, List.getElem_cons_succ, List.getElem_cons_zero, List.setIfInBounds_toArray, List.set_cons_zero, List.set_cons_succ]
  refine wpAnyH_take (i := 1) (v := ?_) rfl (by kernel_rfl) (by kernel_rfl) (by kernel_rfl) (fun _ _ _ h => h) (Or.inl ⟨by rfl, ?_⟩) (by assumption) ?_
  rotate_left 1
  · (intro w hSw; (try dsimp only at hSw); go_simp; try with_reducible rfl)
  try simp only [Act.put, List.getElem_toArray, List.getElem_cons_succ, List.getElem_cons_zero, List.setIfInBounds_toArray, List.set_cons_zero, List.set_cons_succ]
  refine wpAnyH_take (i := 2) (v := ?_) rfl (by kernel_rfl) (by kernel_rfl) (by kernel_rfl) (fun _ _ _ h => h) (Or.inl ⟨by rfl, ?_⟩) (by assumption) ?_
  rotate_left 1
  · (intro w hSw; (try dsimp only at hSw); go_simp; try with_reducible rfl)
  try simp only [Act.put, List.getElem_toArray, List.getElem_cons_succ, List.getElem_cons_zero, List.setIfInBounds_toArray, List.set_cons_zero, List.set_cons_succ]
  refine wpAnyH_take (i := 3) (v := ?_) rfl (by kernel_rfl) (by kernel_rfl) (by kernel_rfl) (fun _ _ _ h => h) (Or.inl ⟨by rfl, ?_⟩) (by assumption) ?_
  rotate_left 1
  · (intro w hSw; (try dsimp only at hSw); go_simp; try with_reducible rfl)
  try simp only [Act.put, List.getElem_toArray, List.getElem_cons_succ, List.getElem_cons_zero, List.setIfInBounds_toArray, List.set_cons_zero, List.set_cons_succ]
  refine wpAnyH_ready (rs := [4]) (by kernel_rfl) (by simp) ?_
  refine AllReadyH.cons rfl (fun K hK => ?_) AllReadyH.nil
  try simp only [Act.put, List.getElem_toArray, List.getElem_cons_succ, List.getElem_cons_zero, List.setIfInBounds_toArray, List.set_cons_zero, List.set_cons_succ]
  go_simp
  go_at_call 72
  refine (HC.out).mono ?_
  rintro e w6 ⟨z, rfl, hzb, hs6, ho6⟩
  have XR6 := hide (XRd.out.only ho6 (.inl (by omega)))
  have XZ6 := hide (XZd.out.only ho6 (.inr (by omega)))
  have RO6 := hide (row_only ROd.out ho6 (by omega))
  have RC6 := hide (row_only RCd.out ho6 (by omega))
  have BW6 := hide (BWd.out.trans (ho6.below (B := w.heap.size) (by omega) BWd.out.size))
  have hz6 := ho6.size
  dsimp only
  refine hK.out _ _ (⟨(XZ6.out.cell 0).trans rfl, (XZ6.out.cell 1).trans rfl, (XZ6.out.cell 2).trans rfl⟩) (fun hHeld => ?_)
  clear hK K
  try simp only [Act.put, List.getElem_toArray, List.getElem_cons_succ, List.getElem_cons_zero, List.setIfInBounds_toArray, List.set_cons_zero, List.set_cons_succ]
  have T1 := hide (XR6.out.set 0 (.int .i64 x.z))
  have T2 := hide (T1.out.set 1 (.slice A1 x.of.length c1))
  have T3' := hide (T2.out.set 2 (.slice A2 x.ch.length c2))
  have m0 : w6.cell? ⟨w.heap.size, 0, none⟩ = some (.int .i64 0) := XR6.out.cell 0
  have n0 := XR6.out.fro 0
  have m1 : (w6.setCell ⟨w.heap.size, 0, none⟩ (.int .i64 x.z)).cell? ⟨w.heap.size, 1, none⟩ = some (.slice none 0 0) := T1.out.cell 1
  have n1 := T1.out.fro 1
  have m2 : ((w6.setCell ⟨w.heap.size, 0, none⟩ (.int .i64 x.z)).setCell ⟨w.heap.size, 1, none⟩ (.slice A1 x.of.length c1)).cell? ⟨w.heap.size, 2, none⟩ = some (.slice none 0 0) := T2.out.cell 2
  have n2 := T2.out.fro 2
  have q0 : (((w6.setCell ⟨w.heap.size, 0, none⟩ (.int .i64 x.z)).setCell ⟨w.heap.size, 1, none⟩ (.slice A1 x.of.length c1)).setCell ⟨w.heap.size, 2, none⟩ (.slice A2 x.ch.length c2)).cell? ⟨w.heap.size, 0, none⟩ = some (.int .i64 x.z) := T3'.out.cell 0
  have q1 : (((w6.setCell ⟨w.heap.size, 0, none⟩ (.int .i64 x.z)).setCell ⟨w.heap.size, 1, none⟩ (.slice A1 x.of.length c1)).setCell ⟨w.heap.size, 2, none⟩ (.slice A2 x.ch.length c2)).cell? ⟨w.heap.size, 1, none⟩ = some (.slice A1 x.of.length c1) := T3'.out.cell 1
  have q2 : (((w6.setCell ⟨w.heap.size, 0, none⟩ (.int .i64 x.z)).setCell ⟨w.heap.size, 1, none⟩ (.slice A1 x.of.length c1)).setCell ⟨w.heap.size, 2, none⟩ (.slice A2 x.ch.length c2)).cell? ⟨w.heap.size, 2, none⟩ = some (.slice A2 x.ch.length c2) := T3'.out.cell 2
  have XZs := hide (((XZ6.out.other (b' := w.heap.size) (by omega) 0 (.int .i64 x.z)).other (b' := w.heap.size) (by omega) 1 (.slice A1 x.of.length c1)).other (b' := w.heap.size) (by omega) 2 (.slice A2 x.ch.length c2))
  refine wpAnyH_ready (rs := [5]) (by kernel_rfl) (by simp) ?_
  refine AllReadyH.cons rfl (fun K hK => ?_) AllReadyH.nil
  try simp only [Act.put, List.getElem_toArray, List.getElem_cons_succ, List.getElem_cons_zero, List.setIfInBounds_toArray, List.set_cons_zero, List.set_cons_succ]
  go_simp
  refine hK.out _ _ (⟨(XZs.out.cell 0).trans rfl, (XZs.out.cell 1).trans rfl, (XZs.out.cell 2).trans rfl⟩) (fun hHeld => ?_)
  clear hK K
  try simp only [Act.put, List.getElem_toArray, List.getElem_cons_succ, List.getElem_cons_zero, List.setIfInBounds_toArray, List.set_cons_zero, List.set_cons_succ]
  refine wpAnyH_take (i := 6) (v := ?_) rfl (by kernel_rfl) (by kernel_rfl) (by kernel_rfl) (fun _ _ _ h => h) (Or.inl ⟨by rfl, ?_⟩) (by assumption) ?_
  rotate_left 1
  · (intro w hSw; (try dsimp only at hSw); go_simp; try with_reducible rfl)
  try simp only [Act.put, List.getElem_toArray, List.getElem_cons_succ, List.getElem_cons_zero, List.setIfInBounds_toArray, List.set_cons_zero, List.set_cons_succ]
  refine wpAnyH_take (i := 7) (v := ?_) rfl (by kernel_rfl) (by kernel_rfl) (by kernel_rfl) (fun _ _ _ h => h) (Or.inl ⟨by rfl, ?_⟩) (by assumption) ?_
  rotate_left 1
  · (intro w hSw; (try dsimp only at hSw); go_simp; try with_reducible rfl)
  try simp only [Act.put, List.getElem_toArray, List.getElem_cons_succ, List.getElem_cons_zero, List.setIfInBounds_toArray, List.set_cons_zero, List.set_cons_succ]
  refine wpAnyH_take (i := 8) (v := ?_) rfl (by kernel_rfl) (by kernel_rfl) (by kernel_rfl) (fun _ _ _ h => h) (Or.inl ⟨by rfl, ?_⟩) (by assumption) ?_
  rotate_left 1
  · (intro w hSw; (try dsimp only at hSw); go_simp; try with_reducible rfl)
  try simp only [Act.put, List.getElem_toArray, List.getElem_cons_succ, List.getElem_cons_zero, List.setIfInBounds_toArray, List.set_cons_zero, List.set_cons_succ]
  refine wpAnyH_done (by kernel_rfl) ?_ _
  go_wp2_with fail
  have K1 := (((RO6.out.kept (grown_setCell w6 ⟨w.heap.size, 0, none⟩ (.int .i64 x.z)) (.inr fun e => by have := (RO6.out.lt _ e).1; (try dsimp only at this); omega)).kept (grown_setCell _ ⟨w.heap.size, 1, none⟩ (.slice A1 x.of.length c1)) (.inr fun e => by have := (RO6.out.lt _ e).1; (try dsimp only at this); omega)).kept (grown_setCell _ ⟨w.heap.size, 2, none⟩ (.slice A2 x.ch.length c2)) (.inr fun e => by have := (RO6.out.lt _ e).1; (try dsimp only at this); omega))
  have K2 := (((RC6.out.kept (grown_setCell w6 ⟨w.heap.size, 0, none⟩ (.int .i64 x.z)) (.inr fun e => by have := (RC6.out.lt _ e).1; (try dsimp only at this); omega)).kept (grown_setCell _ ⟨w.heap.size, 1, none⟩ (.slice A1 x.of.length c1)) (.inr fun e => by have := (RC6.out.lt _ e).1; (try dsimp only at this); omega)).kept (grown_setCell _ ⟨w.heap.size, 2, none⟩ (.slice A2 x.ch.length c2)) (.inr fun e => by have := (RC6.out.lt _ e).1; (try dsimp only at this); omega))
  refine bodyPost_ret (v := .tuple #[.agg #[.int .i64 x.z, .slice A1 x.of.length c1, .slice A2 x.ch.length c2], .int .i64 zn, .int .i64 ls, .int .i64 z]) (by simp [results, Tryd.results27, go_sem, q0, q1, q2]) rfl ⟨x, A1, c1, A2, c2, zn, ls, z, rfl, ⟨hzn, hls, hzb⟩, RdI.of_own K1, Rd.of_own K2, HBX.out, ?_⟩
  exact (((BW6.out.setCell (p := ⟨w.heap.size, 0, none⟩) (Nat.le_refl _) _).setCell (p := ⟨w.heap.size, 1, none⟩) (Nat.le_refl _) _).setCell (p := ⟨w.heap.size, 2, none⟩) (Nat.le_refl _) _)
end Go.Proofs.YtofjnmeblmbnmaaDoor
namespace Go.Proofs.YtofjnmeblmbnmaaDoor
open Go.RowKit
theorem box_row {W : World} {g base : Nat} {x y z : Value} {e : TypeId} (h : BoxN W g #[x, y, z] e) (hb : base ≤ g) : W.ownsRow base e 3 (.slice (some ⟨g, 0, none⟩) 1 1) 1 [x, y, z] :=
  ⟨rfl, .inr ⟨g, 1, #[x, y, z], rfl, hb, h, Nat.le_refl _, by decide, rfl, rfl⟩⟩
theorem set_nil {W : World} {B g : Nat} {a : World} (h : Below B a W) (j : Nat) (v : Value) (hg : B ≤ g) : Below B a (W.setCell ⟨g, j, none⟩ v) := h.setCell (p := ⟨g, j, none⟩) hg v
/-- A drawn change in a box of its own, beside the box of the result. -/
structure ChS (b : Nat) (bs : List Int) (N : Int) (w : World) (gr gc : Nat) (W : World) (t : T3) : Prop where
  r : BoxN W gr #[.int .i64 0, .int .i64 0, .int .i64 0] 41
  c : BoxN W gc #[.int .i64 t.a, .int .i64 t.b, .int .i64 t.c] 41
  src : SrcAt b bs N W
  bel : Below w.heap.size w W
  ok : CDr t
  lt : w.heap.size ≤ gr ∧ gr < b ∧ b < gc
theorem ChS.spoil {b : Nat} {bs : List Int} {N : Int} {w : World} {gr gc : Nat} {W w1 : World} {t : T3} {j : Nat} {z : Int} (h : ChS b bs N w gr gc W t) (hs : SrcAt b bs (N + 4) w1) (ho : Only b (b + 1) W w1)
    (hj : (j = 0 ∧ -9223372036854775808 ≤ z ∧ z ≤ 10001) ∨ (j = 1 ∧ -1 ≤ z ∧ z ≤ 8) ∨ (j = 2 ∧ -101 ≤ z ∧ z ≤ 101)) : ∃ t', ChS b bs (N + 4) w gr gc (w1.setCell ⟨gc, j, none⟩ (.int .i64 z)) t' := by
  have hlt := h.lt
  have hr := h.r.only ho (.inl (by omega))
  have hc := h.c.only ho (.inr (by omega))
  have hb : Below w.heap.size w w1 := h.bel.trans (ho.below (B := w.heap.size) (by omega) h.bel.size)
  have hok := h.ok
  unfold CDr at hok
  rcases hj with ⟨rfl, h1, h2⟩ | ⟨rfl, h1, h2⟩ | ⟨rfl, h1, h2⟩
  · exact ⟨⟨z, t.b, t.c⟩, hr.other (by omega) _ _, hc.set 0 (.int .i64 z), hs.set _ _ (by dsimp only; omega), set_nil hb _ _ (by omega), by unfold CDr; dsimp only; omega, hlt⟩
  · exact ⟨⟨t.a, z, t.c⟩, hr.other (by omega) _ _, hc.set 1 (.int .i64 z), hs.set _ _ (by dsimp only; omega), set_nil hb _ _ (by omega), by unfold CDr; dsimp only; omega, hlt⟩
  · exact ⟨⟨t.a, t.b, z⟩, hr.other (by omega) _ _, hc.set 2 (.int .i64 z), hs.set _ _ (by dsimp only; omega), set_nil hb _ _ (by omega), by unfold CDr; dsimp only; omega, hlt⟩
/-- A change in a box of its own is spoilt. -/
theorem spoilBox_any (b : Nat) (bs : List Int) (N : Int) (g : Nat) (t : T3) (w : World) (hbs : BsOk bs) (hN : N ≤ 1099509000000) (h : SrcAt b bs N w) (hb : b < g) (hx : BoxN w g #[.int .i64 t.a, .int .i64 t.b, .int .i64 t.c] 41) :
    Calls Tryd.prog 82 #[.pointer (some ⟨b, 0, none⟩), .pointer (some ⟨g, 0, none⟩)] w fun e w' => e = .returned (.tuple #[]) ∧ ∃ (w1 : World) (j : Nat) (z : Int), ((j = 0 ∧ -9223372036854775808 ≤ z ∧ z ≤ 10001) ∨ (j = 1 ∧ -1 ≤ z ∧ z ≤ 8) ∨ (j = 2 ∧ -101 ≤ z ∧ z ≤ 101)) ∧ SrcAt b bs (N + 4) w1 ∧ Only b (b + 1) w w1 ∧ w' = w1.setCell ⟨g, j, none⟩ (.int .i64 z) := by
  have hc := spoil_any b bs N g 0 1 1 (b + 1) [t] w hbs hN h (Nat.le_refl _) (by decide) rfl (box_row hx hb)
  rw [Nat.zero_mul] at hc
  refine hc.mono fun e w' ⟨he, w1, j, z, h1, h2, h3, h4⟩ => ⟨he, w1, j, z, h1, h2, h3, ?_⟩
  rw [Nat.zero_add] at h4
  exact h4
set_option maxRecDepth 100000 in
set_option maxHeartbeats 4000000 in
theorem drawChangeText_any (bs : List Int) (A : Option Addr) (c : Nat) (w : World) (hbs : BsOk bs) (h1 : RdB w w.heap.size A bs) :
    Calls Tryd.prog 36 #[.slice A bs.length c] w fun e w' => ∃ t : T3, e = .returned (.agg #[.int .i64 t.a, .int .i64 t.b, .int .i64 t.c]) ∧ CDr t ∧ Below w.heap.size w w' := by
  have hbA : Below w.heap.size w (w.alloc (.cells #[.int .i64 0, .int .i64 0, .int .i64 0] 41)) := (Below.refl _ _).alloc (Nat.le_refl _) _
  have X0 := hide (BoxN.new w #[.int .i64 0, .int .i64 0, .int .i64 0] 41)
  have hz0a : (w.alloc (.cells #[.int .i64 0, .int .i64 0, .int .i64 0] 41)).heap.size = w.heap.size + 1 := by simp
  have z0a := Nat.le_of_eq hz0a
  have z0b := Nat.le_of_eq hz0a.symm
  have HF := hide (l00From_any bs A c _ hbs.1 ((h1.below hbA).more hbA.size))
  have HBA := hide hbA
  clear h1 hbA hz0a
  go_enter Tryd.func36, Tryd.ntmps36
  go_upto_region 1 with fail
  generalize w.alloc (.cells #[.int .i64 0, .int .i64 0, .int .i64 0] 41) = w0 at *
  have HCH := hide fun W (hW : SrcAt w0.heap.size bs 0 W) => drawChange_any w0.heap.size bs 0 8 W hbs (by omega) hW (by omega) (by omega)
  go_upto_region 3 with (first | (go_at_call 54; (with_reducible refine (HF.out).mono ?_); rintro e w1 ⟨rfl, hs1, hz1, hb1⟩; have HS1 := hide hs1; have hz1a := Nat.le_of_eq hz1; have hz1b := Nat.le_of_eq hz1.symm; have X1 := hide (X0.out.below hb1 (by omega)); have BW1 := hide (HBA.out.trans (hb1.mono HBA.out.size)); clear hs1 hb1 hz1) | (go_at_call 80; (with_reducible refine (HCH.out _ HS1.out).mono ?_); rintro e w2 ⟨t, rfl, hok, hs2, ho2⟩))
  have hz2 := ho2.size
  have C3 : Hid (ChS w0.heap.size bs (0 + 6) w w.heap.size w2.heap.size (w2.alloc (.cells #[.int .i64 t.a, .int .i64 t.b, .int .i64 t.c] 41)) t) := hide ⟨(X1.out.only ho2 (.inl (by omega))).alloc _, BoxN.new w2 _ _, hs2.alloc _, (BW1.out.trans (ho2.below (B := w.heap.size) (by omega) BW1.out.size)).alloc (by have := BW1.out.size; omega) _, hok, by omega, by omega, by omega⟩
  clear hok hs2 ho2 X0 X1 HF HBA HCH HS1 BW1
  generalize w2.alloc (.cells #[.int .i64 t.a, .int .i64 t.b, .int .i64 t.c] 41) = w3 at *
  generalize w2.heap.size = gc at *
  have HO1 := hide fun M n W (hM : M ≤ 1099511000000) (hW : SrcAt w0.heap.size bs M W) => one_any w0.heap.size bs M n W hbs hM hW
  go_upto_if 10 with (go_at_call 56; (with_reducible refine (HO1.out (0 + 6) 4 _ (by omega) C3.out.src).mono ?_); rintro e w4 ⟨v, rfl, hs4, ho4⟩)
  have hl3 := C3.out.lt
  have C4 : Hid (ChS w0.heap.size bs (0 + 6 + 2) w w.heap.size gc w4 t) := hide ⟨C3.out.r.only ho4 (.inl (by omega)), C3.out.c.only ho4 (.inr (by omega)), hs4, C3.out.bel.trans (ho4.below (B := w.heap.size) (by omega) C3.out.bel.size), C3.out.ok, hl3⟩
  clear hs4 ho4 C3
  go_cut [] (fun wx => ∃ t', ChS w0.heap.size bs (0 + 6 + 2 + 4) w w.heap.size gc wx t')
  case first =>
    cases v
    · go_wp2_with fail
      go_meet
      exact ⟨t, C4.out.r, C4.out.c, C4.out.src.more (by omega), C4.out.bel, C4.out.ok, C4.out.lt⟩
    · have HSP := hide (spoilBox_any w0.heap.size bs (0 + 6 + 2) gc t w4 hbs (by omega) C4.out.src (by omega) C4.out.c)
      go_wp2_with (go_at_call 82; (with_reducible refine (HSP.out).mono ?_); rintro e w5 ⟨rfl, w6, j, z, hj, hs6, ho6, rfl⟩)
      go_meet
      exact C4.out.spoil hs6 ho6 hj
  case rest =>
    obtain ⟨t', hc5⟩ := hcut
    have C5 := hide hc5
    clear hc5 C4
    have k0 := C5.out.c.cell 0
    have k1 := C5.out.c.cell 1
    have k2 := C5.out.c.cell 2
    have T1 := hide (C5.out.r.set 0 (.int .i64 t'.a))
    have T2 := hide (T1.out.set 1 (.int .i64 t'.b))
    have T3' := hide (T2.out.set 2 (.int .i64 t'.c))
    have m0 := C5.out.r.cell 0
    have n0 := C5.out.r.fro 0
    have m1 := T1.out.cell 1
    have n1 := T1.out.fro 1
    have m2 := T2.out.cell 2
    have n2 := T2.out.fro 2
    have q0 := T3'.out.cell 0
    have q1 := T3'.out.cell 1
    have q2 := T3'.out.cell 2
    go_wp2_with fail
    refine bodyPost_ret (v := .agg #[.int .i64 t'.a, .int .i64 t'.b, .int .i64 t'.c]) (by simp [results, Tryd.results36, go_sem, q0, q1, q2]) rfl ⟨t', rfl, C5.out.ok, ?_⟩
    exact set_nil (set_nil (set_nil C5.out.bel 0 _ (Nat.le_refl _)) 1 _ (Nat.le_refl _)) 2 _ (Nat.le_refl _)
end Go.Proofs.YtofjnmeblmbnmaaDoor
