/-
  Zones: what the laws draw.
-/
import Derived.Test.YtklfjekpeoigoaaQPressed24
import Derived.Test.YtklfjekpeoigoaaQPressed25
namespace Go.Proofs.Ytklfjekpeoigoaa
open Go.RowKit
set_option maxRecDepth 100000 in
set_option maxHeartbeats 4000000 in
theorem drawTubesOfZone_any (bs : List Int) (A : Option Addr) (c : Nat) (w : World) (hbs : BsOk bs) (h1 : RdB w w.heap.size A bs) :
    Calls Try.prog 110 #[.slice A bs.length c] w fun e w' => ∃ (x : TZ) (A1 : Option Addr) (c1 : Nat) (A2 : Option Addr) (c2 : Nat) (z : Int), e = .returned (.tuple #[.agg #[.int .i64 x.z, .slice A1 x.of.length c1, .slice A2 x.ch.length c2], .int .i64 z]) ∧ (-1 ≤ z ∧ z ≤ 9) ∧ RdI w' w'.heap.size A1 x.of ∧ Rd3 w' w'.heap.size A2 x.ch ∧ ZBt x ∧ Below w.heap.size w w' := by
  have hbA : Below w.heap.size w (w.alloc (.cells #[.int .i64 0, .slice none 0 0, .slice none 0 0] 114)) := (Below.refl _ _).alloc (Nat.le_refl _) _
  have X0 := hide (BoxN.new w #[.int .i64 0, .slice none 0 0, .slice none 0 0] 114)
  have hz0a : (w.alloc (.cells #[.int .i64 0, .slice none 0 0, .slice none 0 0] 114)).heap.size = w.heap.size + 1 := by simp
  have z0a := Nat.le_of_eq hz0a
  have z0b := Nat.le_of_eq hz0a.symm
  have HF := hide (l00From_any bs A c _ hbs.1 ((h1.below hbA).more hbA.size))
  have HBA := hide hbA
  clear h1 hbA hz0a
  go_enter Try.func110, Try.ntmps110
  go_upto_region 1 with fail
  generalize w.alloc (.cells #[.int .i64 0, .slice none 0 0, .slice none 0 0] 114) = w0 at *
  have HBT := hide fun W (hW : SrcAt w0.heap.size bs 0 W) => bentZones_any w0.heap.size bs 0 W hbs (by omega) hW
  go_upto_region 3 with (first | (go_at_call 130; (with_reducible refine (HF.out).mono ?_); rintro e w1 ⟨rfl, hs1, hz1, hb1⟩; have HS1 := hide hs1; have hz1a := Nat.le_of_eq hz1; have hz1b := Nat.le_of_eq hz1.symm; have X1 := hide (X0.out.below hb1 (by omega)); have BW1 := hide (HBA.out.trans (hb1.mono HBA.out.size)); clear hs1 hb1 hz1) | (go_at_call 216; (with_reducible refine (HBT.out _ HS1.out).mono ?_); rintro e w2 ⟨x, A1, c1, A2, c2, rfl, hbt, ro, rc, ap, hs2, ho2⟩))
  have hz2 := ho2.size
  have HBX := hide hbt
  have hxz1 := hbt.1.1
  have hxz9 := hbt.1.2
  have hxo := hbt.2.1.1
  have XR3 := hide ((X1.out.only ho2 (.inl (by omega))).alloc (.cells #[.int .i64 x.z, .slice A1 x.of.length c1, .slice A2 x.ch.length c2] 114))
  have XZ3 := hide (BoxN.new w2 #[.int .i64 x.z, .slice A1 x.of.length c1, .slice A2 x.ch.length c2] 114)
  have RO3 := hide (ro.alloc (.cells #[.int .i64 x.z, .slice A1 x.of.length c1, .slice A2 x.ch.length c2] 114))
  have RC3 := hide (rc.alloc (.cells #[.int .i64 x.z, .slice A1 x.of.length c1, .slice A2 x.ch.length c2] 114))
  have BW3 := hide ((BW1.out.trans (ho2.below (B := w.heap.size) (by omega) BW1.out.size)).alloc (by have := BW1.out.size; omega) (.cells #[.int .i64 x.z, .slice A1 x.of.length c1, .slice A2 x.ch.length c2] 114))
  have S3 := hide ((hs2.alloc (.cells #[.int .i64 x.z, .slice A1 x.of.length c1, .slice A2 x.ch.length c2] 114)).more (N' := 500) (by omega))
  have hz3 : w2.heap.size + 1 ≤ (w2.alloc (.cells #[.int .i64 x.z, .slice A1 x.of.length c1, .slice A2 x.ch.length c2] 114)).heap.size := by simp
  clear hbt ro rc ap hs2 ho2 X0 X1 HF HBA HBT HS1 BW1
  generalize w2.alloc (.cells #[.int .i64 x.z, .slice A1 x.of.length c1, .slice A2 x.ch.length c2] 114) = w3 at *
  generalize w2.heap.size = gz at *
  go_wp2_with fail
  have XRd : Hid (BoxN w3.drew w.heap.size #[.int .i64 0, .slice none 0 0, .slice none 0 0] 114) := XR3.out
  have XZd : Hid (BoxN w3.drew gz #[.int .i64 x.z, .slice A1 x.of.length c1, .slice A2 x.ch.length c2] 114) := XZ3.out
  have ROd : Hid (w3.drew.ownsRow w1.heap.size 2 1 (.slice A1 x.of.length c1) x.of.length (x.of.map (Value.int .i64))) := RO3.out
  have RCd : Hid (w3.drew.ownsRow w1.heap.size 118 3 (.slice A2 x.ch.length c2) x.ch.length (x.ch.flatMap T3.cells)) := RC3.out
  have BWd := hide BW3.out.drew
  have Sd : Hid (SrcAt w0.heap.size bs 500 w3.drew) := S3.out.below (B := w0.heap.size + 1) (Below.refl _ _).drew (Nat.lt_succ_self _)
  have hzd : gz + 1 ≤ w3.drew.heap.size := XZd.out.lt
  have e0 : w3.drew.cell? ⟨gz, 0, none⟩ = some (.int .i64 x.z) := XZd.out.cell 0
  have e1 : w3.drew.cell? ⟨gz, 1, none⟩ = some (.slice A1 x.of.length c1) := XZd.out.cell 1
  have e2 : w3.drew.cell? ⟨gz, 2, none⟩ = some (.slice A2 x.ch.length c2) := XZd.out.cell 2
  clear XR3 XZ3 RO3 RC3 BW3 S3
  refine wp_region_held_drew (S := fun W => W.cell? ⟨gz, 0, none⟩ = some (.int .i64 x.z) ∧ W.cell? ⟨gz, 1, none⟩ = some (.slice A1 x.of.length c1) ∧ W.cell? ⟨gz, 2, none⟩ = some (.slice A2 x.ch.length c2)) (by kernel_rfl) (⟨e0, e1, e2⟩) (fun hHeld => ?_)
  generalize w3.drew = wd at *
  have HC := hide (drawZone_any w0.heap.size bs 500 x.z (.slice A1 x.of.length c1) (.slice A2 x.ch.length c2) gz wd hbs (by omega) Sd.out XZd.out (by omega) ⟨hxz1, hxz9⟩)
  refine wpAnyH_take (i := 0) (v := ?_) rfl (by kernel_rfl) (by kernel_rfl) (by kernel_rfl) (fun _ _ _ h => h) (Or.inl ⟨by rfl, ?_⟩) (by assumption) ?_
  rotate_left 1
  · (intro w hSw; (try dsimp only at hSw); go_simp; try with_reducible rfl)
  try simp only [Act.put, List.getElem_toArray, List.getElem_cons_succ, List.getElem_cons_zero, List.setIfInBounds_toArray, List.set_cons_zero, List.set_cons_succ]
  refine wpAnyH_take (i := 1) (v := ?_) rfl (by kernel_rfl) (by kernel_rfl) (by kernel_rfl) (fun _ _ _ h => h) (Or.inl ⟨by rfl, ?_⟩) (by assumption) ?_
  rotate_left 1
  · (intro w hSw; (try dsimp only at hSw); go_simp; try with_reducible rfl)
  try simp only [Act.put, List.getElem_toArray, List.getElem_cons_succ, List.getElem_cons_zero, List.setIfInBounds_toArray, List.set_cons_zero, List.set_cons_succ]
  refine wpAnyH_ready (rs := [2]) (by kernel_rfl) (by simp) ?_
  refine AllReadyH.cons rfl (fun K hK => ?_) AllReadyH.nil
  try simp only [Act.put, List.getElem_toArray, List.getElem_cons_succ, List.getElem_cons_zero, List.setIfInBounds_toArray, List.set_cons_zero, List.set_cons_succ]
  go_simp
  go_at_call 217
  refine (HC.out).mono ?_
  rintro e w5 ⟨z, rfl, hzb, hs5, ho5⟩
  have XR5 := hide (XRd.out.only ho5 (.inl (by omega)))
  have XZ5 := hide (XZd.out.only ho5 (.inr (by omega)))
  have RO5 := hide (row_only ROd.out ho5 (by omega))
  have RC5 := hide (row_only RCd.out ho5 (by omega))
  have BW5 := hide (BWd.out.trans (ho5.below (B := w.heap.size) (by omega) BWd.out.size))
  have hz5 := ho5.size
  dsimp only
  refine hK.out _ _ (⟨(XZ5.out.cell 0).trans rfl, (XZ5.out.cell 1).trans rfl, (XZ5.out.cell 2).trans rfl⟩) (fun hHeld => ?_)
  clear hK K
  try simp only [Act.put, List.getElem_toArray, List.getElem_cons_succ, List.getElem_cons_zero, List.setIfInBounds_toArray, List.set_cons_zero, List.set_cons_succ]
  have T1 := hide (XR5.out.set 0 (.int .i64 x.z))
  have T2 := hide (T1.out.set 1 (.slice A1 x.of.length c1))
  have T3' := hide (T2.out.set 2 (.slice A2 x.ch.length c2))
  have m0 : w5.cell? ⟨w.heap.size, 0, none⟩ = some (.int .i64 0) := XR5.out.cell 0
  have n0 := XR5.out.fro 0
  have m1 : (w5.setCell ⟨w.heap.size, 0, none⟩ (.int .i64 x.z)).cell? ⟨w.heap.size, 1, none⟩ = some (.slice none 0 0) := T1.out.cell 1
  have n1 := T1.out.fro 1
  have m2 : ((w5.setCell ⟨w.heap.size, 0, none⟩ (.int .i64 x.z)).setCell ⟨w.heap.size, 1, none⟩ (.slice A1 x.of.length c1)).cell? ⟨w.heap.size, 2, none⟩ = some (.slice none 0 0) := T2.out.cell 2
  have n2 := T2.out.fro 2
  have q0 : (((w5.setCell ⟨w.heap.size, 0, none⟩ (.int .i64 x.z)).setCell ⟨w.heap.size, 1, none⟩ (.slice A1 x.of.length c1)).setCell ⟨w.heap.size, 2, none⟩ (.slice A2 x.ch.length c2)).cell? ⟨w.heap.size, 0, none⟩ = some (.int .i64 x.z) := T3'.out.cell 0
  have q1 : (((w5.setCell ⟨w.heap.size, 0, none⟩ (.int .i64 x.z)).setCell ⟨w.heap.size, 1, none⟩ (.slice A1 x.of.length c1)).setCell ⟨w.heap.size, 2, none⟩ (.slice A2 x.ch.length c2)).cell? ⟨w.heap.size, 1, none⟩ = some (.slice A1 x.of.length c1) := T3'.out.cell 1
  have q2 : (((w5.setCell ⟨w.heap.size, 0, none⟩ (.int .i64 x.z)).setCell ⟨w.heap.size, 1, none⟩ (.slice A1 x.of.length c1)).setCell ⟨w.heap.size, 2, none⟩ (.slice A2 x.ch.length c2)).cell? ⟨w.heap.size, 2, none⟩ = some (.slice A2 x.ch.length c2) := T3'.out.cell 2
  have XZs := hide (((XZ5.out.other (b' := w.heap.size) (by omega) 0 (.int .i64 x.z)).other (b' := w.heap.size) (by omega) 1 (.slice A1 x.of.length c1)).other (b' := w.heap.size) (by omega) 2 (.slice A2 x.ch.length c2))
  refine wpAnyH_ready (rs := [3]) (by kernel_rfl) (by simp) ?_
  refine AllReadyH.cons rfl (fun K hK => ?_) AllReadyH.nil
  try simp only [Act.put, List.getElem_toArray, List.getElem_cons_succ, List.getElem_cons_zero, List.setIfInBounds_toArray, List.set_cons_zero, List.set_cons_succ]
  go_simp
  refine hK.out _ _ (⟨(XZs.out.cell 0).trans rfl, (XZs.out.cell 1).trans rfl, (XZs.out.cell 2).trans rfl⟩) (fun hHeld => ?_)
  clear hK K
  try simp only [Act.put, List.getElem_toArray, List.getElem_cons_succ, List.getElem_cons_zero, List.setIfInBounds_toArray, List.set_cons_zero, List.set_cons_succ]
  refine wpAnyH_take (i := 4) (v := ?_) rfl (by kernel_rfl) (by kernel_rfl) (by kernel_rfl) (fun _ _ _ h => h) (Or.inl ⟨by rfl, ?_⟩) (by assumption) ?_
  rotate_left 1
  · (intro w hSw; (try dsimp only at hSw); go_simp; try with_reducible rfl)
  try simp only [Act.put, List.getElem_toArray, List.getElem_cons_succ, List.getElem_cons_zero, List.setIfInBounds_toArray, List.set_cons_zero, List.set_cons_succ]
  refine wpAnyH_done (by kernel_rfl) ?_ _
  go_wp2_with fail
  have K1 := (((RO5.out.kept (grown_setCell w5 ⟨w.heap.size, 0, none⟩ (.int .i64 x.z)) (.inr fun e => by have := (RO5.out.lt _ e).1; (try dsimp only at this); omega)).kept (grown_setCell _ ⟨w.heap.size, 1, none⟩ (.slice A1 x.of.length c1)) (.inr fun e => by have := (RO5.out.lt _ e).1; (try dsimp only at this); omega)).kept (grown_setCell _ ⟨w.heap.size, 2, none⟩ (.slice A2 x.ch.length c2)) (.inr fun e => by have := (RO5.out.lt _ e).1; (try dsimp only at this); omega))
  have K2 := (((RC5.out.kept (grown_setCell w5 ⟨w.heap.size, 0, none⟩ (.int .i64 x.z)) (.inr fun e => by have := (RC5.out.lt _ e).1; (try dsimp only at this); omega)).kept (grown_setCell _ ⟨w.heap.size, 1, none⟩ (.slice A1 x.of.length c1)) (.inr fun e => by have := (RC5.out.lt _ e).1; (try dsimp only at this); omega)).kept (grown_setCell _ ⟨w.heap.size, 2, none⟩ (.slice A2 x.ch.length c2)) (.inr fun e => by have := (RC5.out.lt _ e).1; (try dsimp only at this); omega))
  refine bodyPost_ret (v := .tuple #[.agg #[.int .i64 x.z, .slice A1 x.of.length c1, .slice A2 x.ch.length c2], .int .i64 z]) (by simp [results, Try.results110, go_sem, q0, q1, q2]) rfl ⟨x, A1, c1, A2, c2, z, rfl, hzb, RdI.of_own K1, Rd.of_own K2, HBX.out, ?_⟩
  exact (((BW5.out.setCell (p := ⟨w.heap.size, 0, none⟩) (Nat.le_refl _) _).setCell (p := ⟨w.heap.size, 1, none⟩) (Nat.le_refl _) _).setCell (p := ⟨w.heap.size, 2, none⟩) (Nat.le_refl _) _)
set_option maxRecDepth 100000 in
set_option maxHeartbeats 4000000 in
theorem drawPushedAt_any (bs : List Int) (A : Option Addr) (c : Nat) (w : World) (hbs : BsOk bs) (h1 : RdB w w.heap.size A bs) :
    Calls Try.prog 107 #[.slice A bs.length c] w fun e w' => ∃ (x : TZ) (A1 : Option Addr) (c1 : Nat) (A2 : Option Addr) (c2 : Nat) (z : Int), e = .returned (.tuple #[.agg #[.int .i64 x.z, .slice A1 x.of.length c1, .slice A2 x.ch.length c2], .int .i64 z]) ∧ (-9223372036854775808 ≤ z ∧ z ≤ 10001) ∧ RdI w' w'.heap.size A1 x.of ∧ Rd3 w' w'.heap.size A2 x.ch ∧ ZBt x ∧ Below w.heap.size w w' := by
  have hbA : Below w.heap.size w (w.alloc (.cells #[.int .i64 0, .slice none 0 0, .slice none 0 0] 114)) := (Below.refl _ _).alloc (Nat.le_refl _) _
  have X0 := hide (BoxN.new w #[.int .i64 0, .slice none 0 0, .slice none 0 0] 114)
  have hz0a : (w.alloc (.cells #[.int .i64 0, .slice none 0 0, .slice none 0 0] 114)).heap.size = w.heap.size + 1 := by simp
  have z0a := Nat.le_of_eq hz0a
  have z0b := Nat.le_of_eq hz0a.symm
  have HF := hide (l00From_any bs A c _ hbs.1 ((h1.below hbA).more hbA.size))
  have HBA := hide hbA
  clear h1 hbA hz0a
  go_enter Try.func107, Try.ntmps107
  go_upto_region 1 with fail
  generalize w.alloc (.cells #[.int .i64 0, .slice none 0 0, .slice none 0 0] 114) = w0 at *
  have HBT := hide fun W (hW : SrcAt w0.heap.size bs 0 W) => bentZones_any w0.heap.size bs 0 W hbs (by omega) hW
  go_upto_region 3 with (first | (go_at_call 130; (with_reducible refine (HF.out).mono ?_); rintro e w1 ⟨rfl, hs1, hz1, hb1⟩; have HS1 := hide hs1; have hz1a := Nat.le_of_eq hz1; have hz1b := Nat.le_of_eq hz1.symm; have X1 := hide (X0.out.below hb1 (by omega)); have BW1 := hide (HBA.out.trans (hb1.mono HBA.out.size)); clear hs1 hb1 hz1) | (go_at_call 216; (with_reducible refine (HBT.out _ HS1.out).mono ?_); rintro e w2 ⟨x, A1, c1, A2, c2, rfl, hbt, ro, rc, ap, hs2, ho2⟩))
  have hz2 := ho2.size
  have HBX := hide hbt
  have hxz1 := hbt.1.1
  have hxz9 := hbt.1.2
  have hxo := hbt.2.1.1
  have XR3 := hide ((X1.out.only ho2 (.inl (by omega))).alloc (.cells #[.int .i64 x.z, .slice A1 x.of.length c1, .slice A2 x.ch.length c2] 114))
  have XZ3 := hide (BoxN.new w2 #[.int .i64 x.z, .slice A1 x.of.length c1, .slice A2 x.ch.length c2] 114)
  have RO3 := hide (ro.alloc (.cells #[.int .i64 x.z, .slice A1 x.of.length c1, .slice A2 x.ch.length c2] 114))
  have RC3 := hide (rc.alloc (.cells #[.int .i64 x.z, .slice A1 x.of.length c1, .slice A2 x.ch.length c2] 114))
  have BW3 := hide ((BW1.out.trans (ho2.below (B := w.heap.size) (by omega) BW1.out.size)).alloc (by have := BW1.out.size; omega) (.cells #[.int .i64 x.z, .slice A1 x.of.length c1, .slice A2 x.ch.length c2] 114))
  have S3 := hide ((hs2.alloc (.cells #[.int .i64 x.z, .slice A1 x.of.length c1, .slice A2 x.ch.length c2] 114)).more (N' := 500) (by omega))
  have hz3 : w2.heap.size + 1 ≤ (w2.alloc (.cells #[.int .i64 x.z, .slice A1 x.of.length c1, .slice A2 x.ch.length c2] 114)).heap.size := by simp
  clear hbt ro rc ap hs2 ho2 X0 X1 HF HBA HBT HS1 BW1
  generalize w2.alloc (.cells #[.int .i64 x.z, .slice A1 x.of.length c1, .slice A2 x.ch.length c2] 114) = w3 at *
  generalize w2.heap.size = gz at *
  go_wp2_with fail
  have XRd : Hid (BoxN w3.drew w.heap.size #[.int .i64 0, .slice none 0 0, .slice none 0 0] 114) := XR3.out
  have XZd : Hid (BoxN w3.drew gz #[.int .i64 x.z, .slice A1 x.of.length c1, .slice A2 x.ch.length c2] 114) := XZ3.out
  have ROd : Hid (w3.drew.ownsRow w1.heap.size 2 1 (.slice A1 x.of.length c1) x.of.length (x.of.map (Value.int .i64))) := RO3.out
  have RCd : Hid (w3.drew.ownsRow w1.heap.size 118 3 (.slice A2 x.ch.length c2) x.ch.length (x.ch.flatMap T3.cells)) := RC3.out
  have BWd := hide BW3.out.drew
  have Sd : Hid (SrcAt w0.heap.size bs 500 w3.drew) := S3.out.below (B := w0.heap.size + 1) (Below.refl _ _).drew (Nat.lt_succ_self _)
  have hzd : gz + 1 ≤ w3.drew.heap.size := XZd.out.lt
  have e0 : w3.drew.cell? ⟨gz, 0, none⟩ = some (.int .i64 x.z) := XZd.out.cell 0
  have e1 : w3.drew.cell? ⟨gz, 1, none⟩ = some (.slice A1 x.of.length c1) := XZd.out.cell 1
  have e2 : w3.drew.cell? ⟨gz, 2, none⟩ = some (.slice A2 x.ch.length c2) := XZd.out.cell 2
  clear XR3 XZ3 RO3 RC3 BW3 S3
  refine wp_region_held_drew (S := fun W => W.cell? ⟨gz, 0, none⟩ = some (.int .i64 x.z) ∧ W.cell? ⟨gz, 1, none⟩ = some (.slice A1 x.of.length c1) ∧ W.cell? ⟨gz, 2, none⟩ = some (.slice A2 x.ch.length c2)) (by kernel_rfl) (⟨e0, e1, e2⟩) (fun hHeld => ?_)
  generalize w3.drew = wd at *
  have HC := hide (drawTick_any w0.heap.size bs 500 wd hbs (by omega) Sd.out)
  refine wpAnyH_take (i := 0) (v := ?_) rfl (by kernel_rfl) (by kernel_rfl) (by kernel_rfl) (fun _ _ _ h => h) (Or.inl ⟨by rfl, ?_⟩) (by assumption) ?_
  rotate_left 1
  · (intro w hSw; (try dsimp only at hSw); go_simp; try with_reducible rfl)
  try simp only [Act.put, List.getElem_toArray, List.getElem_cons_succ, List.getElem_cons_zero, List.setIfInBounds_toArray, List.set_cons_zero, List.set_cons_succ]
  refine wpAnyH_take (i := 1) (v := ?_) rfl (by kernel_rfl) (by kernel_rfl) (by kernel_rfl) (fun _ _ _ h => h) (Or.inl ⟨by rfl, ?_⟩) (by assumption) ?_
  rotate_left 1
  · (intro w hSw; (try dsimp only at hSw); go_simp; try with_reducible rfl)
  try simp only [Act.put, List.getElem_toArray, List.getElem_cons_succ, List.getElem_cons_zero, List.setIfInBounds_toArray, List.set_cons_zero, List.set_cons_succ]
  refine wpAnyH_ready (rs := [2]) (by kernel_rfl) (by simp) ?_
  refine AllReadyH.cons rfl (fun K hK => ?_) AllReadyH.nil
  try simp only [Act.put, List.getElem_toArray, List.getElem_cons_succ, List.getElem_cons_zero, List.setIfInBounds_toArray, List.set_cons_zero, List.set_cons_succ]
  go_simp
  go_at_call 219
  refine (HC.out).mono ?_
  rintro e w5 ⟨z, rfl, hzb, hs5, ho5⟩
  have XR5 := hide (XRd.out.only ho5 (.inl (by omega)))
  have XZ5 := hide (XZd.out.only ho5 (.inr (by omega)))
  have RO5 := hide (row_only ROd.out ho5 (by omega))
  have RC5 := hide (row_only RCd.out ho5 (by omega))
  have BW5 := hide (BWd.out.trans (ho5.below (B := w.heap.size) (by omega) BWd.out.size))
  have hz5 := ho5.size
  dsimp only
  refine hK.out _ _ (⟨(XZ5.out.cell 0).trans rfl, (XZ5.out.cell 1).trans rfl, (XZ5.out.cell 2).trans rfl⟩) (fun hHeld => ?_)
  clear hK K
  try simp only [Act.put, List.getElem_toArray, List.getElem_cons_succ, List.getElem_cons_zero, List.setIfInBounds_toArray, List.set_cons_zero, List.set_cons_succ]
  have T1 := hide (XR5.out.set 0 (.int .i64 x.z))
  have T2 := hide (T1.out.set 1 (.slice A1 x.of.length c1))
  have T3' := hide (T2.out.set 2 (.slice A2 x.ch.length c2))
  have m0 : w5.cell? ⟨w.heap.size, 0, none⟩ = some (.int .i64 0) := XR5.out.cell 0
  have n0 := XR5.out.fro 0
  have m1 : (w5.setCell ⟨w.heap.size, 0, none⟩ (.int .i64 x.z)).cell? ⟨w.heap.size, 1, none⟩ = some (.slice none 0 0) := T1.out.cell 1
  have n1 := T1.out.fro 1
  have m2 : ((w5.setCell ⟨w.heap.size, 0, none⟩ (.int .i64 x.z)).setCell ⟨w.heap.size, 1, none⟩ (.slice A1 x.of.length c1)).cell? ⟨w.heap.size, 2, none⟩ = some (.slice none 0 0) := T2.out.cell 2
  have n2 := T2.out.fro 2
  have q0 : (((w5.setCell ⟨w.heap.size, 0, none⟩ (.int .i64 x.z)).setCell ⟨w.heap.size, 1, none⟩ (.slice A1 x.of.length c1)).setCell ⟨w.heap.size, 2, none⟩ (.slice A2 x.ch.length c2)).cell? ⟨w.heap.size, 0, none⟩ = some (.int .i64 x.z) := T3'.out.cell 0
  have q1 : (((w5.setCell ⟨w.heap.size, 0, none⟩ (.int .i64 x.z)).setCell ⟨w.heap.size, 1, none⟩ (.slice A1 x.of.length c1)).setCell ⟨w.heap.size, 2, none⟩ (.slice A2 x.ch.length c2)).cell? ⟨w.heap.size, 1, none⟩ = some (.slice A1 x.of.length c1) := T3'.out.cell 1
  have q2 : (((w5.setCell ⟨w.heap.size, 0, none⟩ (.int .i64 x.z)).setCell ⟨w.heap.size, 1, none⟩ (.slice A1 x.of.length c1)).setCell ⟨w.heap.size, 2, none⟩ (.slice A2 x.ch.length c2)).cell? ⟨w.heap.size, 2, none⟩ = some (.slice A2 x.ch.length c2) := T3'.out.cell 2
  have XZs := hide (((XZ5.out.other (b' := w.heap.size) (by omega) 0 (.int .i64 x.z)).other (b' := w.heap.size) (by omega) 1 (.slice A1 x.of.length c1)).other (b' := w.heap.size) (by omega) 2 (.slice A2 x.ch.length c2))
  refine wpAnyH_ready (rs := [3]) (by kernel_rfl) (by simp) ?_
  refine AllReadyH.cons rfl (fun K hK => ?_) AllReadyH.nil
  try simp only [Act.put, List.getElem_toArray, List.getElem_cons_succ, List.getElem_cons_zero, List.setIfInBounds_toArray, List.set_cons_zero, List.set_cons_succ]
  go_simp
  refine hK.out _ _ (⟨(XZs.out.cell 0).trans rfl, (XZs.out.cell 1).trans rfl, (XZs.out.cell 2).trans rfl⟩) (fun hHeld => ?_)
  clear hK K
  try simp only [Act.put, List.getElem_toArray, List.getElem_cons_succ, List.getElem_cons_zero, List.setIfInBounds_toArray, List.set_cons_zero, List.set_cons_succ]
  refine wpAnyH_take (i := 4) (v := ?_) rfl (by kernel_rfl) (by kernel_rfl) (by kernel_rfl) (fun _ _ _ h => h) (Or.inl ⟨by rfl, ?_⟩) (by assumption) ?_
  rotate_left 1
  · (intro w hSw; (try dsimp only at hSw); go_simp; try with_reducible rfl)
  try simp only [Act.put, List.getElem_toArray, List.getElem_cons_succ, List.getElem_cons_zero, List.setIfInBounds_toArray, List.set_cons_zero, List.set_cons_succ]
  refine wpAnyH_done (by kernel_rfl) ?_ _
  go_wp2_with fail
  have K1 := (((RO5.out.kept (grown_setCell w5 ⟨w.heap.size, 0, none⟩ (.int .i64 x.z)) (.inr fun e => by have := (RO5.out.lt _ e).1; (try dsimp only at this); omega)).kept (grown_setCell _ ⟨w.heap.size, 1, none⟩ (.slice A1 x.of.length c1)) (.inr fun e => by have := (RO5.out.lt _ e).1; (try dsimp only at this); omega)).kept (grown_setCell _ ⟨w.heap.size, 2, none⟩ (.slice A2 x.ch.length c2)) (.inr fun e => by have := (RO5.out.lt _ e).1; (try dsimp only at this); omega))
  have K2 := (((RC5.out.kept (grown_setCell w5 ⟨w.heap.size, 0, none⟩ (.int .i64 x.z)) (.inr fun e => by have := (RC5.out.lt _ e).1; (try dsimp only at this); omega)).kept (grown_setCell _ ⟨w.heap.size, 1, none⟩ (.slice A1 x.of.length c1)) (.inr fun e => by have := (RC5.out.lt _ e).1; (try dsimp only at this); omega)).kept (grown_setCell _ ⟨w.heap.size, 2, none⟩ (.slice A2 x.ch.length c2)) (.inr fun e => by have := (RC5.out.lt _ e).1; (try dsimp only at this); omega))
  refine bodyPost_ret (v := .tuple #[.agg #[.int .i64 x.z, .slice A1 x.of.length c1, .slice A2 x.ch.length c2], .int .i64 z]) (by simp [results, Try.results107, go_sem, q0, q1, q2]) rfl ⟨x, A1, c1, A2, c2, z, rfl, hzb, RdI.of_own K1, Rd.of_own K2, HBX.out, ?_⟩
  exact (((BW5.out.setCell (p := ⟨w.heap.size, 0, none⟩) (Nat.le_refl _) _).setCell (p := ⟨w.heap.size, 1, none⟩) (Nat.le_refl _) _).setCell (p := ⟨w.heap.size, 2, none⟩) (Nat.le_refl _) _)
set_option maxRecDepth 100000 in
set_option maxHeartbeats 4000000 in
theorem drawZonesCrossed_any (bs : List Int) (A : Option Addr) (c : Nat) (w : World) (hbs : BsOk bs) (h1 : RdB w w.heap.size A bs) :
    Calls Try.prog 113 #[.slice A bs.length c] w fun e w' => ∃ (x : TZ) (A1 : Option Addr) (c1 : Nat) (A2 : Option Addr) (c2 : Nat) (A3 : Option Addr) (c3 : Nat) (l : List Int), e = .returned (.tuple #[.agg #[.int .i64 x.z, .slice A1 x.of.length c1, .slice A2 x.ch.length c2], .slice A3 l.length c3]) ∧ RdI w' w'.heap.size A3 l ∧ (l.length ≤ 26 ∧ ∀ z ∈ l, -1 ≤ z ∧ z ≤ 26) ∧ RdI w' w'.heap.size A1 x.of ∧ Rd3 w' w'.heap.size A2 x.ch ∧ ZBt x ∧ Below w.heap.size w w' := by
  have hbA : Below w.heap.size w (w.alloc (.cells #[.int .i64 0, .slice none 0 0, .slice none 0 0] 114)) := (Below.refl _ _).alloc (Nat.le_refl _) _
  have X0 := hide (BoxN.new w #[.int .i64 0, .slice none 0 0, .slice none 0 0] 114)
  have hz0a : (w.alloc (.cells #[.int .i64 0, .slice none 0 0, .slice none 0 0] 114)).heap.size = w.heap.size + 1 := by simp
  have z0a := Nat.le_of_eq hz0a
  have z0b := Nat.le_of_eq hz0a.symm
  have HF := hide (l00From_any bs A c _ hbs.1 ((h1.below hbA).more hbA.size))
  have HBA := hide hbA
  clear h1 hbA hz0a
  go_enter Try.func113, Try.ntmps113
  go_upto_region 1 with fail
  generalize w.alloc (.cells #[.int .i64 0, .slice none 0 0, .slice none 0 0] 114) = w0 at *
  have HBT := hide fun W (hW : SrcAt w0.heap.size bs 0 W) => bentZones_any w0.heap.size bs 0 W hbs (by omega) hW
  go_upto_region 3 with (first | (go_at_call 130; (with_reducible refine (HF.out).mono ?_); rintro e w1 ⟨rfl, hs1, hz1, hb1⟩; have HS1 := hide hs1; have hz1a := Nat.le_of_eq hz1; have hz1b := Nat.le_of_eq hz1.symm; have X1 := hide (X0.out.below hb1 (by omega)); have BW1 := hide (HBA.out.trans (hb1.mono HBA.out.size)); clear hs1 hb1 hz1) | (go_at_call 216; (with_reducible refine (HBT.out _ HS1.out).mono ?_); rintro e w2 ⟨x, A1, c1, A2, c2, rfl, hbt, ro, rc, ap, hs2, ho2⟩))
  have hz2 := ho2.size
  have HBX := hide hbt
  have hxz1 := hbt.1.1
  have hxz9 := hbt.1.2
  have hxo := hbt.2.1.1
  have XR3 := hide ((X1.out.only ho2 (.inl (by omega))).alloc (.cells #[.int .i64 x.z, .slice A1 x.of.length c1, .slice A2 x.ch.length c2] 114))
  have XZ3 := hide (BoxN.new w2 #[.int .i64 x.z, .slice A1 x.of.length c1, .slice A2 x.ch.length c2] 114)
  have RO3 := hide (ro.alloc (.cells #[.int .i64 x.z, .slice A1 x.of.length c1, .slice A2 x.ch.length c2] 114))
  have RC3 := hide (rc.alloc (.cells #[.int .i64 x.z, .slice A1 x.of.length c1, .slice A2 x.ch.length c2] 114))
  have BW3 := hide ((BW1.out.trans (ho2.below (B := w.heap.size) (by omega) BW1.out.size)).alloc (by have := BW1.out.size; omega) (.cells #[.int .i64 x.z, .slice A1 x.of.length c1, .slice A2 x.ch.length c2] 114))
  have S3 := hide ((hs2.alloc (.cells #[.int .i64 x.z, .slice A1 x.of.length c1, .slice A2 x.ch.length c2] 114)).more (N' := 500) (by omega))
  have hz3 : w2.heap.size + 1 ≤ (w2.alloc (.cells #[.int .i64 x.z, .slice A1 x.of.length c1, .slice A2 x.ch.length c2] 114)).heap.size := by simp
  clear hbt ro rc ap hs2 ho2 X0 X1 HF HBA HBT HS1 BW1
  generalize w2.alloc (.cells #[.int .i64 x.z, .slice A1 x.of.length c1, .slice A2 x.ch.length c2] 114) = w3 at *
  generalize w2.heap.size = gz at *
  go_wp2_with fail
  have XRd : Hid (BoxN w3.drew w.heap.size #[.int .i64 0, .slice none 0 0, .slice none 0 0] 114) := XR3.out
  have XZd : Hid (BoxN w3.drew gz #[.int .i64 x.z, .slice A1 x.of.length c1, .slice A2 x.ch.length c2] 114) := XZ3.out
  have ROd : Hid (w3.drew.ownsRow w1.heap.size 2 1 (.slice A1 x.of.length c1) x.of.length (x.of.map (Value.int .i64))) := RO3.out
  have RCd : Hid (w3.drew.ownsRow w1.heap.size 118 3 (.slice A2 x.ch.length c2) x.ch.length (x.ch.flatMap T3.cells)) := RC3.out
  have BWd := hide BW3.out.drew
  have Sd : Hid (SrcAt w0.heap.size bs 500 w3.drew) := S3.out.below (B := w0.heap.size + 1) (Below.refl _ _).drew (Nat.lt_succ_self _)
  have hzd : gz + 1 ≤ w3.drew.heap.size := XZd.out.lt
  have e0 : w3.drew.cell? ⟨gz, 0, none⟩ = some (.int .i64 x.z) := XZd.out.cell 0
  have e1 : w3.drew.cell? ⟨gz, 1, none⟩ = some (.slice A1 x.of.length c1) := XZd.out.cell 1
  have e2 : w3.drew.cell? ⟨gz, 2, none⟩ = some (.slice A2 x.ch.length c2) := XZd.out.cell 2
  clear XR3 XZ3 RO3 RC3 BW3 S3
  refine wp_region_held_drew (S := fun W => W.cell? ⟨gz, 0, none⟩ = some (.int .i64 x.z) ∧ W.cell? ⟨gz, 1, none⟩ = some (.slice A1 x.of.length c1) ∧ W.cell? ⟨gz, 2, none⟩ = some (.slice A2 x.ch.length c2)) (by kernel_rfl) (⟨e0, e1, e2⟩) (fun hHeld => ?_)
  generalize w3.drew = wd at *
  have HC := hide (drawWayZ_any w0.heap.size bs 500 (.int .i64 x.z) A1 x.of.length c1 (.slice A2 x.ch.length c2) gz wd hbs (by omega) Sd.out XZd.out (by omega) (by omega))
  refine wpAnyH_take (i := 0) (v := ?_) rfl (by kernel_rfl) (by kernel_rfl) (by kernel_rfl) (fun _ _ _ h => h) (Or.inl ⟨by rfl, ?_⟩) (by assumption) ?_
  rotate_left 1
  · (intro w hSw; (try dsimp only at hSw); go_simp; try with_reducible rfl)
  try simp only [Act.put, List.getElem_toArray, List.getElem_cons_succ, List.getElem_cons_zero, List.setIfInBounds_toArray, List.set_cons_zero, List.set_cons_succ]
  refine wpAnyH_take (i := 1) (v := ?_) rfl (by kernel_rfl) (by kernel_rfl) (by kernel_rfl) (fun _ _ _ h => h) (Or.inl ⟨by rfl, ?_⟩) (by assumption) ?_
  rotate_left 1
  · (intro w hSw; (try dsimp only at hSw); go_simp; try with_reducible rfl)
  try simp only [Act.put, List.getElem_toArray, List.getElem_cons_succ, List.getElem_cons_zero, List.setIfInBounds_toArray, List.set_cons_zero, List.set_cons_succ]
  refine wpAnyH_ready (rs := [2]) (by kernel_rfl) (by simp) ?_
  refine AllReadyH.cons rfl (fun K hK => ?_) AllReadyH.nil
  try simp only [Act.put, List.getElem_toArray, List.getElem_cons_succ, List.getElem_cons_zero, List.setIfInBounds_toArray, List.set_cons_zero, List.set_cons_succ]
  go_simp
  go_at_call 226
  refine (HC.out).mono ?_
  rintro e w5 ⟨A3, c3, l, rfl, hrw, hzb, hs5, ho5⟩
  have RW := hide hrw
  have XR5 := hide (XRd.out.only ho5 (.inl (by omega)))
  have XZ5 := hide (XZd.out.only ho5 (.inr (by omega)))
  have RO5 := hide (row_only ROd.out ho5 (by omega))
  have RC5 := hide (row_only RCd.out ho5 (by omega))
  have BW5 := hide (BWd.out.trans (ho5.below (B := w.heap.size) (by omega) BWd.out.size))
  have hz5 := ho5.size
  dsimp only
  refine hK.out _ _ (⟨(XZ5.out.cell 0).trans rfl, (XZ5.out.cell 1).trans rfl, (XZ5.out.cell 2).trans rfl⟩) (fun hHeld => ?_)
  clear hK K
  try simp only [Act.put, List.getElem_toArray, List.getElem_cons_succ, List.getElem_cons_zero, List.setIfInBounds_toArray, List.set_cons_zero, List.set_cons_succ]
  have T1 := hide (XR5.out.set 0 (.int .i64 x.z))
  have T2 := hide (T1.out.set 1 (.slice A1 x.of.length c1))
  have T3' := hide (T2.out.set 2 (.slice A2 x.ch.length c2))
  have m0 : w5.cell? ⟨w.heap.size, 0, none⟩ = some (.int .i64 0) := XR5.out.cell 0
  have n0 := XR5.out.fro 0
  have m1 : (w5.setCell ⟨w.heap.size, 0, none⟩ (.int .i64 x.z)).cell? ⟨w.heap.size, 1, none⟩ = some (.slice none 0 0) := T1.out.cell 1
  have n1 := T1.out.fro 1
  have m2 : ((w5.setCell ⟨w.heap.size, 0, none⟩ (.int .i64 x.z)).setCell ⟨w.heap.size, 1, none⟩ (.slice A1 x.of.length c1)).cell? ⟨w.heap.size, 2, none⟩ = some (.slice none 0 0) := T2.out.cell 2
  have n2 := T2.out.fro 2
  have q0 : (((w5.setCell ⟨w.heap.size, 0, none⟩ (.int .i64 x.z)).setCell ⟨w.heap.size, 1, none⟩ (.slice A1 x.of.length c1)).setCell ⟨w.heap.size, 2, none⟩ (.slice A2 x.ch.length c2)).cell? ⟨w.heap.size, 0, none⟩ = some (.int .i64 x.z) := T3'.out.cell 0
  have q1 : (((w5.setCell ⟨w.heap.size, 0, none⟩ (.int .i64 x.z)).setCell ⟨w.heap.size, 1, none⟩ (.slice A1 x.of.length c1)).setCell ⟨w.heap.size, 2, none⟩ (.slice A2 x.ch.length c2)).cell? ⟨w.heap.size, 1, none⟩ = some (.slice A1 x.of.length c1) := T3'.out.cell 1
  have q2 : (((w5.setCell ⟨w.heap.size, 0, none⟩ (.int .i64 x.z)).setCell ⟨w.heap.size, 1, none⟩ (.slice A1 x.of.length c1)).setCell ⟨w.heap.size, 2, none⟩ (.slice A2 x.ch.length c2)).cell? ⟨w.heap.size, 2, none⟩ = some (.slice A2 x.ch.length c2) := T3'.out.cell 2
  have XZs := hide (((XZ5.out.other (b' := w.heap.size) (by omega) 0 (.int .i64 x.z)).other (b' := w.heap.size) (by omega) 1 (.slice A1 x.of.length c1)).other (b' := w.heap.size) (by omega) 2 (.slice A2 x.ch.length c2))
  refine wpAnyH_ready (rs := [3]) (by kernel_rfl) (by simp) ?_
  refine AllReadyH.cons rfl (fun K hK => ?_) AllReadyH.nil
  try simp only [Act.put, List.getElem_toArray, List.getElem_cons_succ, List.getElem_cons_zero, List.setIfInBounds_toArray, List.set_cons_zero, List.set_cons_succ]
  go_simp
  refine hK.out _ _ (⟨(XZs.out.cell 0).trans rfl, (XZs.out.cell 1).trans rfl, (XZs.out.cell 2).trans rfl⟩) (fun hHeld => ?_)
  clear hK K
  try simp only [Act.put, List.getElem_toArray, List.getElem_cons_succ, List.getElem_cons_zero, List.setIfInBounds_toArray, List.set_cons_zero, List.set_cons_succ]
  refine wpAnyH_take (i := 4) (v := ?_) rfl (by kernel_rfl) (by kernel_rfl) (by kernel_rfl) (fun _ _ _ h => h) (Or.inl ⟨by rfl, ?_⟩) (by assumption) ?_
  rotate_left 1
  · (intro w hSw; (try dsimp only at hSw); go_simp; try with_reducible rfl)
  try simp only [Act.put, List.getElem_toArray, List.getElem_cons_succ, List.getElem_cons_zero, List.setIfInBounds_toArray, List.set_cons_zero, List.set_cons_succ]
  refine wpAnyH_done (by kernel_rfl) ?_ _
  have hzdw : w.heap.size < wd.heap.size := by omega
  have K3 := (((RW.out.kept (grown_setCell w5 ⟨w.heap.size, 0, none⟩ (.int .i64 x.z)) (.inr fun e => by have := (RW.out.lt _ e).1; (try dsimp only at this); omega)).kept (grown_setCell _ ⟨w.heap.size, 1, none⟩ (.slice A1 x.of.length c1)) (.inr fun e => by have := (RW.out.lt _ e).1; (try dsimp only at this); omega)).kept (grown_setCell _ ⟨w.heap.size, 2, none⟩ (.slice A2 x.ch.length c2)) (.inr fun e => by have := (RW.out.lt _ e).1; (try dsimp only at this); omega))
  go_wp2_with fail
  have K1 := (((RO5.out.kept (grown_setCell w5 ⟨w.heap.size, 0, none⟩ (.int .i64 x.z)) (.inr fun e => by have := (RO5.out.lt _ e).1; (try dsimp only at this); omega)).kept (grown_setCell _ ⟨w.heap.size, 1, none⟩ (.slice A1 x.of.length c1)) (.inr fun e => by have := (RO5.out.lt _ e).1; (try dsimp only at this); omega)).kept (grown_setCell _ ⟨w.heap.size, 2, none⟩ (.slice A2 x.ch.length c2)) (.inr fun e => by have := (RO5.out.lt _ e).1; (try dsimp only at this); omega))
  have K2 := (((RC5.out.kept (grown_setCell w5 ⟨w.heap.size, 0, none⟩ (.int .i64 x.z)) (.inr fun e => by have := (RC5.out.lt _ e).1; (try dsimp only at this); omega)).kept (grown_setCell _ ⟨w.heap.size, 1, none⟩ (.slice A1 x.of.length c1)) (.inr fun e => by have := (RC5.out.lt _ e).1; (try dsimp only at this); omega)).kept (grown_setCell _ ⟨w.heap.size, 2, none⟩ (.slice A2 x.ch.length c2)) (.inr fun e => by have := (RC5.out.lt _ e).1; (try dsimp only at this); omega))
  refine bodyPost_ret (v := .tuple #[.agg #[.int .i64 x.z, .slice A1 x.of.length c1, .slice A2 x.ch.length c2], .slice A3 l.length c3]) (by simp [results, Try.results113, go_sem, q0, q1, q2]) rfl ⟨x, A1, c1, A2, c2, A3, c3, l, rfl, RdI.of_own K3, hzb, RdI.of_own K1, Rd.of_own K2, HBX.out, ?_⟩
  exact (((BW5.out.setCell (p := ⟨w.heap.size, 0, none⟩) (Nat.le_refl _) _).setCell (p := ⟨w.heap.size, 1, none⟩) (Nat.le_refl _) _).setCell (p := ⟨w.heap.size, 2, none⟩) (Nat.le_refl _) _)
set_option maxRecDepth 100000 in
set_option maxHeartbeats 4000000 in
theorem drawReadyAt_any (bs : List Int) (A : Option Addr) (c : Nat) (w : World) (hbs : BsOk bs) (h1 : RdB w w.heap.size A bs) :
    Calls Try.prog 104 #[.slice A bs.length c] w fun e w' => ∃ (x : TZ) (A1 : Option Addr) (c1 : Nat) (A2 : Option Addr) (c2 : Nat) (A3 : Option Addr) (c3 : Nat) (l : List Int) (z : Int), e = .returned (.tuple #[.agg #[.int .i64 x.z, .slice A1 x.of.length c1, .slice A2 x.ch.length c2], .slice A3 l.length c3, .int .i64 z]) ∧ RdI w' w'.heap.size A3 l ∧ (l.length ≤ 26 ∧ ∀ z ∈ l, -1 ≤ z ∧ z ≤ 26) ∧ (-9223372036854775808 ≤ z ∧ z ≤ 10001) ∧ RdI w' w'.heap.size A1 x.of ∧ Rd3 w' w'.heap.size A2 x.ch ∧ ZBt x ∧ Below w.heap.size w w' := by
  have hbA : Below w.heap.size w (w.alloc (.cells #[.int .i64 0, .slice none 0 0, .slice none 0 0] 114)) := (Below.refl _ _).alloc (Nat.le_refl _) _
  have X0 := hide (BoxN.new w #[.int .i64 0, .slice none 0 0, .slice none 0 0] 114)
  have hz0a : (w.alloc (.cells #[.int .i64 0, .slice none 0 0, .slice none 0 0] 114)).heap.size = w.heap.size + 1 := by simp
  have z0a := Nat.le_of_eq hz0a
  have z0b := Nat.le_of_eq hz0a.symm
  have HF := hide (l00From_any bs A c _ hbs.1 ((h1.below hbA).more hbA.size))
  have HBA := hide hbA
  clear h1 hbA hz0a
  go_enter Try.func104, Try.ntmps104
  go_upto_region 1 with fail
  generalize w.alloc (.cells #[.int .i64 0, .slice none 0 0, .slice none 0 0] 114) = w0 at *
  have HBT := hide fun W (hW : SrcAt w0.heap.size bs 0 W) => bentZones_any w0.heap.size bs 0 W hbs (by omega) hW
  go_upto_region 3 with (first | (go_at_call 130; (with_reducible refine (HF.out).mono ?_); rintro e w1 ⟨rfl, hs1, hz1, hb1⟩; have HS1 := hide hs1; have hz1a := Nat.le_of_eq hz1; have hz1b := Nat.le_of_eq hz1.symm; have X1 := hide (X0.out.below hb1 (by omega)); have BW1 := hide (HBA.out.trans (hb1.mono HBA.out.size)); clear hs1 hb1 hz1) | (go_at_call 216; (with_reducible refine (HBT.out _ HS1.out).mono ?_); rintro e w2 ⟨x, A1, c1, A2, c2, rfl, hbt, ro, rc, ap, hs2, ho2⟩))
  have hz2 := ho2.size
  have HBX := hide hbt
  have hxz1 := hbt.1.1
  have hxz9 := hbt.1.2
  have hxo := hbt.2.1.1
  have XR3 := hide ((X1.out.only ho2 (.inl (by omega))).alloc (.cells #[.int .i64 x.z, .slice A1 x.of.length c1, .slice A2 x.ch.length c2] 114))
  have XZ3 := hide (BoxN.new w2 #[.int .i64 x.z, .slice A1 x.of.length c1, .slice A2 x.ch.length c2] 114)
  have RO3 := hide (ro.alloc (.cells #[.int .i64 x.z, .slice A1 x.of.length c1, .slice A2 x.ch.length c2] 114))
  have RC3 := hide (rc.alloc (.cells #[.int .i64 x.z, .slice A1 x.of.length c1, .slice A2 x.ch.length c2] 114))
  have BW3 := hide ((BW1.out.trans (ho2.below (B := w.heap.size) (by omega) BW1.out.size)).alloc (by have := BW1.out.size; omega) (.cells #[.int .i64 x.z, .slice A1 x.of.length c1, .slice A2 x.ch.length c2] 114))
  have S3 := hide ((hs2.alloc (.cells #[.int .i64 x.z, .slice A1 x.of.length c1, .slice A2 x.ch.length c2] 114)).more (N' := 500) (by omega))
  have hz3 : w2.heap.size + 1 ≤ (w2.alloc (.cells #[.int .i64 x.z, .slice A1 x.of.length c1, .slice A2 x.ch.length c2] 114)).heap.size := by simp
  clear hbt ro rc ap hs2 ho2 X0 X1 HF HBA HBT HS1 BW1
  generalize w2.alloc (.cells #[.int .i64 x.z, .slice A1 x.of.length c1, .slice A2 x.ch.length c2] 114) = w3 at *
  generalize w2.heap.size = gz at *
  have HC3 := hide (drawWayZ_any w0.heap.size bs 500 (.int .i64 x.z) A1 x.of.length c1 (.slice A2 x.ch.length c2) gz w3 hbs (by omega) S3.out XZ3.out (by omega) (by omega))
  go_upto_region 4 with (go_at_call 226; (with_reducible refine (HC3.out).mono ?_); rintro e w4 ⟨A3, c3, l, rfl, hrw, hlb, hs4, ho4⟩)
  have RW4 := hide hrw
  have S4 := hide hs4
  have XR4 := hide (XR3.out.only ho4 (.inl (by omega)))
  have XZ4 := hide (XZ3.out.only ho4 (.inr (by omega)))
  have RO4 := hide (row_only RO3.out ho4 (by omega))
  have RC4 := hide (row_only RC3.out ho4 (by omega))
  have BW4 := hide (BW3.out.trans (ho4.below (B := w.heap.size) (by omega) BW3.out.size))
  have hz4 := ho4.size
  have hw34 : w.heap.size < w3.heap.size := by omega
  have y0 := (XZ4.out.cell 0).trans rfl
  clear hrw hs4 ho4 HC3 XR3 XZ3 RO3 RC3 BW3 S3
  go_wp2_with fail
  have XRd : Hid (BoxN w4.drew w.heap.size #[.int .i64 0, .slice none 0 0, .slice none 0 0] 114) := XR4.out
  have XZd : Hid (BoxN w4.drew gz #[.int .i64 x.z, .slice A1 x.of.length c1, .slice A2 x.ch.length c2] 114) := XZ4.out
  have ROd : Hid (w4.drew.ownsRow w1.heap.size 2 1 (.slice A1 x.of.length c1) x.of.length (x.of.map (Value.int .i64))) := RO4.out
  have RCd : Hid (w4.drew.ownsRow w1.heap.size 118 3 (.slice A2 x.ch.length c2) x.ch.length (x.ch.flatMap T3.cells)) := RC4.out
  have BWd := hide BW4.out.drew
  have Sd : Hid (SrcAt w0.heap.size bs (500 + 100) w4.drew) := S4.out.below (B := w0.heap.size + 1) (Below.refl _ _).drew (Nat.lt_succ_self _)
  have hzd : gz + 1 ≤ w4.drew.heap.size := XZd.out.lt
  have RWq : Hid (w4.drew.ownsRow w3.heap.size 2 1 (.slice A3 l.length c3) l.length (l.map (Value.int .i64))) := RW4.out
  have e0 : w4.drew.cell? ⟨gz, 0, none⟩ = some (.int .i64 x.z) := XZd.out.cell 0
  have e1 : w4.drew.cell? ⟨gz, 1, none⟩ = some (.slice A1 x.of.length c1) := XZd.out.cell 1
  have e2 : w4.drew.cell? ⟨gz, 2, none⟩ = some (.slice A2 x.ch.length c2) := XZd.out.cell 2
  clear XR4 XZ4 RO4 RC4 BW4 S4 y0
  refine wp_region_held_drew (S := fun W => W.cell? ⟨gz, 0, none⟩ = some (.int .i64 x.z) ∧ W.cell? ⟨gz, 1, none⟩ = some (.slice A1 x.of.length c1) ∧ W.cell? ⟨gz, 2, none⟩ = some (.slice A2 x.ch.length c2)) (by kernel_rfl) (⟨e0, e1, e2⟩) (fun hHeld => ?_)
  generalize w4.drew = wd at *
  have RWd : Hid (wd.ownsRow w3.heap.size 2 1 (.slice A3 l.length c3) l.length (l.map (Value.int .i64))) := RWq
  have HC := hide (drawTick_any w0.heap.size bs (500 + 100) wd hbs (by omega) Sd.out)
  refine wpAnyH_take (i := 0) (v := ?_) rfl (by kernel_rfl) (by kernel_rfl) (by kernel_rfl) (fun _ _ _ h => h) (Or.inl ⟨by rfl, ?_⟩) (by assumption) ?_
  rotate_left 1
  · (intro w hSw; (try dsimp only at hSw); go_simp; try with_reducible rfl)
  try simp only [Act.put, List.getElem_toArray, List.getElem_cons_succ, List.getElem_cons_zero, List.setIfInBounds_toArray, List.set_cons_zero, List.set_cons_succ]
  refine wpAnyH_take (i := 1) (v := ?_) rfl (by kernel_rfl) (by kernel_rfl) (by kernel_rfl) (fun _ _ _ h => h) (Or.inl ⟨by rfl, ?_⟩) (by assumption) ?_
  rotate_left 1
  · (intro w hSw; (try dsimp only at hSw); go_simp; try with_reducible rfl)
  try simp only [Act.put, List.getElem_toArray, List.getElem_cons_succ, List.getElem_cons_zero, List.setIfInBounds_toArray, List.set_cons_zero, List.set_cons_succ]
  refine wpAnyH_take (i := 2) (v := ?_) rfl (by kernel_rfl) (by kernel_rfl) (by kernel_rfl) (fun _ _ _ h => h) (Or.inl ⟨by rfl, ?_⟩) (by assumption) ?_
  rotate_left 1
  · (intro w hSw; (try dsimp only at hSw); go_simp; try with_reducible rfl)
  try simp only [Act.put, List.getElem_toArray, List.getElem_cons_succ, List.getElem_cons_zero, List.setIfInBounds_toArray, List.set_cons_zero, List.set_cons_succ]
  refine wpAnyH_ready (rs := [3]) (by kernel_rfl) (by simp) ?_
  refine AllReadyH.cons rfl (fun K hK => ?_) AllReadyH.nil
  try simp only [Act.put, List.getElem_toArray, List.getElem_cons_succ, List.getElem_cons_zero, List.setIfInBounds_toArray, List.set_cons_zero, List.set_cons_succ]
  go_simp
  go_at_call 219
  refine (HC.out).mono ?_
  rintro e w5 ⟨z, rfl, hzb, hs5, ho5⟩
  have RW := hide (row_only RWd.out ho5 (by omega))
  have XR5 := hide (XRd.out.only ho5 (.inl (by omega)))
  have XZ5 := hide (XZd.out.only ho5 (.inr (by omega)))
  have RO5 := hide (row_only ROd.out ho5 (by omega))
  have RC5 := hide (row_only RCd.out ho5 (by omega))
  have BW5 := hide (BWd.out.trans (ho5.below (B := w.heap.size) (by omega) BWd.out.size))
  have hz5 := ho5.size
  dsimp only
  refine hK.out _ _ (⟨(XZ5.out.cell 0).trans rfl, (XZ5.out.cell 1).trans rfl, (XZ5.out.cell 2).trans rfl⟩) (fun hHeld => ?_)
  clear hK K
  try simp only [Act.put, List.getElem_toArray, List.getElem_cons_succ, List.getElem_cons_zero, List.setIfInBounds_toArray, List.set_cons_zero, List.set_cons_succ]
  have T1 := hide (XR5.out.set 0 (.int .i64 x.z))
  have T2 := hide (T1.out.set 1 (.slice A1 x.of.length c1))
  have T3' := hide (T2.out.set 2 (.slice A2 x.ch.length c2))
  have m0 : w5.cell? ⟨w.heap.size, 0, none⟩ = some (.int .i64 0) := XR5.out.cell 0
  have n0 := XR5.out.fro 0
  have m1 : (w5.setCell ⟨w.heap.size, 0, none⟩ (.int .i64 x.z)).cell? ⟨w.heap.size, 1, none⟩ = some (.slice none 0 0) := T1.out.cell 1
  have n1 := T1.out.fro 1
  have m2 : ((w5.setCell ⟨w.heap.size, 0, none⟩ (.int .i64 x.z)).setCell ⟨w.heap.size, 1, none⟩ (.slice A1 x.of.length c1)).cell? ⟨w.heap.size, 2, none⟩ = some (.slice none 0 0) := T2.out.cell 2
  have n2 := T2.out.fro 2
  have q0 : (((w5.setCell ⟨w.heap.size, 0, none⟩ (.int .i64 x.z)).setCell ⟨w.heap.size, 1, none⟩ (.slice A1 x.of.length c1)).setCell ⟨w.heap.size, 2, none⟩ (.slice A2 x.ch.length c2)).cell? ⟨w.heap.size, 0, none⟩ = some (.int .i64 x.z) := T3'.out.cell 0
  have q1 : (((w5.setCell ⟨w.heap.size, 0, none⟩ (.int .i64 x.z)).setCell ⟨w.heap.size, 1, none⟩ (.slice A1 x.of.length c1)).setCell ⟨w.heap.size, 2, none⟩ (.slice A2 x.ch.length c2)).cell? ⟨w.heap.size, 1, none⟩ = some (.slice A1 x.of.length c1) := T3'.out.cell 1
  have q2 : (((w5.setCell ⟨w.heap.size, 0, none⟩ (.int .i64 x.z)).setCell ⟨w.heap.size, 1, none⟩ (.slice A1 x.of.length c1)).setCell ⟨w.heap.size, 2, none⟩ (.slice A2 x.ch.length c2)).cell? ⟨w.heap.size, 2, none⟩ = some (.slice A2 x.ch.length c2) := T3'.out.cell 2
  have XZs := hide (((XZ5.out.other (b' := w.heap.size) (by omega) 0 (.int .i64 x.z)).other (b' := w.heap.size) (by omega) 1 (.slice A1 x.of.length c1)).other (b' := w.heap.size) (by omega) 2 (.slice A2 x.ch.length c2))
  refine wpAnyH_ready (rs := [4]) (by kernel_rfl) (by simp) ?_
  refine AllReadyH.cons rfl (fun K hK => ?_) AllReadyH.nil
  try simp only [Act.put, List.getElem_toArray, List.getElem_cons_succ, List.getElem_cons_zero, List.setIfInBounds_toArray, List.set_cons_zero, List.set_cons_succ]
  go_simp
  refine hK.out _ _ (⟨(XZs.out.cell 0).trans rfl, (XZs.out.cell 1).trans rfl, (XZs.out.cell 2).trans rfl⟩) (fun hHeld => ?_)
  clear hK K
  try simp only [Act.put, List.getElem_toArray, List.getElem_cons_succ, List.getElem_cons_zero, List.setIfInBounds_toArray, List.set_cons_zero, List.set_cons_succ]
  refine wpAnyH_take (i := 5) (v := ?_) rfl (by kernel_rfl) (by kernel_rfl) (by kernel_rfl) (fun _ _ _ h => h) (Or.inl ⟨by rfl, ?_⟩) (by assumption) ?_
  rotate_left 1
  · (intro w hSw; (try dsimp only at hSw); go_simp; try with_reducible rfl)
  try simp only [Act.put, List.getElem_toArray, List.getElem_cons_succ, List.getElem_cons_zero, List.setIfInBounds_toArray, List.set_cons_zero, List.set_cons_succ]
  refine wpAnyH_take (i := 6) (v := ?_) rfl (by kernel_rfl) (by kernel_rfl) (by kernel_rfl) (fun _ _ _ h => h) (Or.inl ⟨by rfl, ?_⟩) (by assumption) ?_
  rotate_left 1
  · (intro w hSw; (try dsimp only at hSw); go_simp; try with_reducible rfl)
  try simp only [Act.put, List.getElem_toArray, List.getElem_cons_succ, List.getElem_cons_zero, List.setIfInBounds_toArray, List.set_cons_zero, List.set_cons_succ]
  refine wpAnyH_done (by kernel_rfl) ?_ _
  have K3 := (((RW.out.kept (grown_setCell w5 ⟨w.heap.size, 0, none⟩ (.int .i64 x.z)) (.inr fun e => by have := (RW.out.lt _ e).1; (try dsimp only at this); omega)).kept (grown_setCell _ ⟨w.heap.size, 1, none⟩ (.slice A1 x.of.length c1)) (.inr fun e => by have := (RW.out.lt _ e).1; (try dsimp only at this); omega)).kept (grown_setCell _ ⟨w.heap.size, 2, none⟩ (.slice A2 x.ch.length c2)) (.inr fun e => by have := (RW.out.lt _ e).1; (try dsimp only at this); omega))
  go_wp2_with fail
  have K1 := (((RO5.out.kept (grown_setCell w5 ⟨w.heap.size, 0, none⟩ (.int .i64 x.z)) (.inr fun e => by have := (RO5.out.lt _ e).1; (try dsimp only at this); omega)).kept (grown_setCell _ ⟨w.heap.size, 1, none⟩ (.slice A1 x.of.length c1)) (.inr fun e => by have := (RO5.out.lt _ e).1; (try dsimp only at this); omega)).kept (grown_setCell _ ⟨w.heap.size, 2, none⟩ (.slice A2 x.ch.length c2)) (.inr fun e => by have := (RO5.out.lt _ e).1; (try dsimp only at this); omega))
  have K2 := (((RC5.out.kept (grown_setCell w5 ⟨w.heap.size, 0, none⟩ (.int .i64 x.z)) (.inr fun e => by have := (RC5.out.lt _ e).1; (try dsimp only at this); omega)).kept (grown_setCell _ ⟨w.heap.size, 1, none⟩ (.slice A1 x.of.length c1)) (.inr fun e => by have := (RC5.out.lt _ e).1; (try dsimp only at this); omega)).kept (grown_setCell _ ⟨w.heap.size, 2, none⟩ (.slice A2 x.ch.length c2)) (.inr fun e => by have := (RC5.out.lt _ e).1; (try dsimp only at this); omega))
  refine bodyPost_ret (v := .tuple #[.agg #[.int .i64 x.z, .slice A1 x.of.length c1, .slice A2 x.ch.length c2], .slice A3 l.length c3, .int .i64 z]) (by simp [results, Try.results104, go_sem, q0, q1, q2]) rfl ⟨x, A1, c1, A2, c2, A3, c3, l, z, rfl, RdI.of_own K3, hlb, hzb, RdI.of_own K1, Rd.of_own K2, HBX.out, ?_⟩
  exact (((BW5.out.setCell (p := ⟨w.heap.size, 0, none⟩) (Nat.le_refl _) _).setCell (p := ⟨w.heap.size, 1, none⟩) (Nat.le_refl _) _).setCell (p := ⟨w.heap.size, 2, none⟩) (Nat.le_refl _) _)
end Go.Proofs.Ytklfjekpeoigoaa
