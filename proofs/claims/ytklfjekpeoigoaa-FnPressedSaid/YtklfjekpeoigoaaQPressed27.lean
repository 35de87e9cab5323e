/-
  Zones: what FirstAbove draws.
-/
import Derived.Test.YtklfjekpeoigoaaQPressed26
namespace Go.Proofs.Ytklfjekpeoigoaa
open Go.RowKit
set_option maxRecDepth 100000 in
set_option maxHeartbeats 4000000 in
theorem drawFirstAbove_any (bs : List Int) (A : Option Addr) (c : Nat) (w : World) (hbs : BsOk bs) (h1 : RdB w w.heap.size A bs) :
    Calls Try.prog 101 #[.slice A bs.length c] w fun e w' => ∃ (x : TZ) (A1 : Option Addr) (c1 : Nat) (A2 : Option Addr) (c2 : Nat) (zn ls fr tk : Int), e = .returned (.tuple #[.agg #[.int .i64 x.z, .slice A1 x.of.length c1, .slice A2 x.ch.length c2], .int .i64 zn, .int .i64 ls, .int .i64 fr, .int .i64 tk]) ∧ ((-1 ≤ zn ∧ zn ≤ 9) ∧ (-101 ≤ ls ∧ ls ≤ 101) ∧ (-9223372036854775808 ≤ fr ∧ fr ≤ 10001) ∧ (-1 ≤ tk ∧ tk ≤ 10001)) ∧ RdI w' w'.heap.size A1 x.of ∧ Rd3 w' w'.heap.size A2 x.ch ∧ ZBt x ∧ Below w.heap.size w w' := by
  have hbA : Below w.heap.size w (w.alloc (.cells #[.int .i64 0, .slice none 0 0, .slice none 0 0] 114)) := (Below.refl _ _).alloc (Nat.le_refl _) _
  have X0 := hide (BoxN.new w #[.int .i64 0, .slice none 0 0, .slice none 0 0] 114)
  have hz0a : (w.alloc (.cells #[.int .i64 0, .slice none 0 0, .slice none 0 0] 114)).heap.size = w.heap.size + 1 := by simp
  have z0a := Nat.le_of_eq hz0a
  have z0b := Nat.le_of_eq hz0a.symm
  have HF := hide (l00From_any bs A c _ hbs.1 ((h1.below hbA).more hbA.size))
  have HBA := hide hbA
  clear h1 hbA hz0a
  go_enter Try.func101, Try.ntmps101
  go_upto_region 1 with fail
  generalize w.alloc (.cells #[.int .i64 0, .slice none 0 0, .slice none 0 0] 114) = w0 at *
  have HBT := hide fun W (hW : SrcAt w0.heap.size bs 0 W) => bentZones_any w0.heap.size bs 0 W hbs (by omega) hW
  go_upto_region 3 with (first | (go_at_call 130; (with_reducible refine (HF.out).mono ?_); rintro e w1 ⟨rfl, hs1, hz1, hb1⟩; have HS1 := hide hs1; have hz1a := Nat.le_of_eq hz1; have hz1b := Nat.le_of_eq hz1.symm; have X1 := hide (X0.out.below hb1 (by omega)); have BW1 := hide (HBA.out.trans (hb1.mono HBA.out.size)); clear hs1 hb1 hz1) | (go_at_call 216; (with_reducible refine (HBT.out _ HS1.out).mono ?_); rintro e w2 ⟨x, A1, c1, A2, c2, rfl, hbt, ro, rc, ap, hs2, ho2⟩))
  have hz2 := ho2.size
  have HBX := hide hbt
  have hxz1 := hbt.1.1
  have hxz9 := hbt.1.2
  have hxo := hbt.2.1.1
  have XR3 := hide ((X1.out.only ho2 (.inl (by omega))).alloc (.cells #[.int .i64 x.z, .slice A1 x.of.length c1, .slice A2 x.ch.length c2] 114))
  have XZ3 := hide (BoxN.new w2 #[.int .i64 x.z, .slice A1 x.of.length c1, .slice A2 x.ch.length c2] 114)
  have RO3 := hide (ro.alloc (.cells #[.int .i64 x.z, .slice A1 x.of.length c1, .slice A2 x.ch.length c2] 114))
  have RC3 := hide (rc.alloc (.cells #[.int .i64 x.z, .slice A1 x.of.length c1, .slice A2 x.ch.length c2] 114))
  have BW3 := hide ((BW1.out.trans (ho2.below (B := w.heap.size) (by omega) BW1.out.size)).alloc (by have := BW1.out.size; omega) (.cells #[.int .i64 x.z, .slice A1 x.of.length c1, .slice A2 x.ch.length c2] 114))
  have S3 := hide ((hs2.alloc (.cells #[.int .i64 x.z, .slice A1 x.of.length c1, .slice A2 x.ch.length c2] 114)).more (N' := 500) (by omega))
  have hz3 : w2.heap.size + 1 ≤ (w2.alloc (.cells #[.int .i64 x.z, .slice A1 x.of.length c1, .slice A2 x.ch.length c2] 114)).heap.size := by simp
  clear hbt ro rc ap hs2 ho2 X0 X1 HF HBA HBT HS1 BW1
  generalize w2.alloc (.cells #[.int .i64 x.z, .slice A1 x.of.length c1, .slice A2 x.ch.length c2] 114) = w3 at *
  generalize w2.heap.size = gz at *
  have HP := hide fun M n W (hM : M ≤ 1099511000000) (hW : SrcAt w0.heap.size bs M W) => pick_any w0.heap.size bs M n W hbs hM hW
  have HO1 := hide fun M n W (hM : M ≤ 1099511000000) (hW : SrcAt w0.heap.size bs M W) => one_any w0.heap.size bs M n W hbs hM hW
  have HAM := hide fun M g o c xs W (hM : M ≤ 1099511000000) (hW : SrcAt w0.heap.size bs M W) => among_any w0.heap.size bs M g o c xs W hbs hM hW
  have HC3 := hide (drawZone_any w0.heap.size bs 500 x.z (.slice A1 x.of.length c1) (.slice A2 x.ch.length c2) gz w3 hbs (by omega) S3.out XZ3.out (by omega) ⟨hxz1, hxz9⟩)
  go_upto_region 4 with (go_at_call 217; (with_reducible refine (HC3.out).mono ?_); rintro e w4 ⟨zn, rfl, hzn, hs4, ho4⟩)
  have S4 := hide hs4
  have XR4 := hide (XR3.out.only ho4 (.inl (by omega)))
  have XZ4 := hide (XZ3.out.only ho4 (.inr (by omega)))
  have RO4 := hide (row_only RO3.out ho4 (by omega))
  have RC4 := hide (row_only RC3.out ho4 (by omega))
  have BW4 := hide (BW3.out.trans (ho4.below (B := w.heap.size) (by omega) BW3.out.size))
  have hz4 := ho4.size
  clear hs4 ho4 HC3 XR3 XZ3 RO3 RC3 BW3 S3
  have HC4 := hide (drawLeast_any w0.heap.size bs (500 + 4) w4 hbs (by omega) S4.out)
  go_upto_region 5 with (go_at_call 218; (with_reducible refine (HC4.out).mono ?_); rintro e w5 ⟨ls, rfl, hls, hs5, ho5⟩)
  have S5 := hide hs5
  have XR5 := hide (XR4.out.only ho5 (.inl (by omega)))
  have XZ5 := hide (XZ4.out.only ho5 (.inr (by omega)))
  have RO5 := hide (row_only RO4.out ho5 (by omega))
  have RC5 := hide (row_only RC4.out ho5 (by omega))
  have BW5 := hide (BW4.out.trans (ho5.below (B := w.heap.size) (by omega) BW4.out.size))
  have hz5 := ho5.size
  clear hs5 ho5 HC4 XR4 XZ4 RO4 RC4 BW4 S4
  have HC5 := hide (drawTick_any w0.heap.size bs (500 + 4 + 4) w5 hbs (by omega) S5.out)
  go_upto_region 6 with (go_at_call 219; (with_reducible refine (HC5.out).mono ?_); rintro e w6 ⟨fr, rfl, hfr, hs6, ho6⟩)
  have S6 := hide hs6
  have XR6 := hide (XR5.out.only ho6 (.inl (by omega)))
  have XZ6 := hide (XZ5.out.only ho6 (.inr (by omega)))
  have RO6 := hide (row_only RO5.out ho6 (by omega))
  have RC6 := hide (row_only RC5.out ho6 (by omega))
  have BW6 := hide (BW5.out.trans (ho6.below (B := w.heap.size) (by omega) BW5.out.size))
  have hz6 := ho6.size
  clear hs6 ho6 HC5 XR5 XZ5 RO5 RC5 BW5 S5
  go_upto_if 23 with (go_at_call 133; (with_reducible refine (HO1.out (500 + 4 + 4 + 4) 10 _ (by omega) S6.out).mono ?_); rintro e w7 ⟨v, rfl, hs7, ho7⟩)
  have S7 := hide hs7
  have XR7 := hide (XR6.out.only ho7 (.inl (by omega)))
  have XZ7 := hide (XZ6.out.only ho7 (.inr (by omega)))
  have RO7 := hide (row_only RO6.out ho7 (by omega))
  have RC7 := hide (row_only RC6.out ho7 (by omega))
  have BW7 := hide (BW6.out.trans (ho7.below (B := w.heap.size) (by omega) BW6.out.size))
  have hz7 := ho7.size
  clear hs7 ho7 XR6 XZ6 RO6 RC6 BW6 S6
  cases v
  · go_wp2_with fail
    have XRd : Hid (BoxN w7.drew w.heap.size #[.int .i64 0, .slice none 0 0, .slice none 0 0] 114) := XR7.out
    have XZd : Hid (BoxN w7.drew gz #[.int .i64 x.z, .slice A1 x.of.length c1, .slice A2 x.ch.length c2] 114) := XZ7.out
    have ROd : Hid (w7.drew.ownsRow w1.heap.size 2 1 (.slice A1 x.of.length c1) x.of.length (x.of.map (Value.int .i64))) := RO7.out
    have RCd : Hid (w7.drew.ownsRow w1.heap.size 118 3 (.slice A2 x.ch.length c2) x.ch.length (x.ch.flatMap T3.cells)) := RC7.out
    have BWd := hide BW7.out.drew
    have Sd : Hid (SrcAt w0.heap.size bs (500 + 4 + 4 + 4 + 2) w7.drew) := S7.out.below (B := w0.heap.size + 1) (Below.refl _ _).drew (Nat.lt_succ_self _)
    have hzd : gz + 1 ≤ w7.drew.heap.size := XZd.out.lt
    have e0 : w7.drew.cell? ⟨gz, 0, none⟩ = some (.int .i64 x.z) := XZd.out.cell 0
    have e1 : w7.drew.cell? ⟨gz, 1, none⟩ = some (.slice A1 x.of.length c1) := XZd.out.cell 1
    have e2 : w7.drew.cell? ⟨gz, 2, none⟩ = some (.slice A2 x.ch.length c2) := XZd.out.cell 2
    clear XR7 XZ7 RO7 RC7 BW7 S7
    refine wp_region_held_drew (S := fun W => W.cell? ⟨gz, 0, none⟩ = some (.int .i64 x.z) ∧ W.cell? ⟨gz, 1, none⟩ = some (.slice A1 x.of.length c1) ∧ W.cell? ⟨gz, 2, none⟩ = some (.slice A2 x.ch.length c2)) (by kernel_rfl) (⟨e0, e1, e2⟩) (fun hHeld => ?_)
    generalize w7.drew = wd at *
    have HC := hide (HP.out (500 + 4 + 4 + 4 + 2) 20 wd (by omega) Sd.out)
    refine wpAnyH_take (i := 0) (v := ?_) rfl (by kernel_rfl) (by kernel_rfl) (by kernel_rfl) (fun _ _ _ h => h) (Or.inl ⟨by rfl, ?_⟩) (by assumption) ?_
    rotate_left 1
    · (intro w hSw; (try dsimp only at hSw); go_simp; try with_reducible rfl)
    try simp only [Act.put, List.getElem_toArray, List.getElem_cons_succ, List.getElem_cons_zero, List.setIfInBounds_toArray, List.set_cons_zero, List.set_cons_succ]
    refine wpAnyH_take (i := 1) (v := ?_) rfl (by kernel_rfl) (by kernel_rfl) (by kernel_rfl) (fun _ _ _ h => h) (Or.inl ⟨by rfl, ?_⟩) (by assumption) ?_
    rotate_left 1
    · (intro w hSw; (try dsimp only at hSw); go_simp; try with_reducible rfl)
    try simp only [Act.put, List.getElem_toArray, List.getElem_cons_succ, List.getElem_cons_zero, List.setIfInBounds_toArray, List.set_cons_zero, List.set_cons_succ]
    refine wpAnyH_take (i := 2) (v := ?_) rfl (by kernel_rfl) (by kernel_rfl) (by kernel_rfl) (fun _ _ _ h => h) (Or.inl ⟨by rfl, ?_⟩) (by assumption) ?_
    rotate_left 1
    · (intro w hSw; (try dsimp only at hSw); go_simp; try with_reducible rfl)
    try simp only [Act.put, List.getElem_toArray, List.getElem_cons_succ, List.getElem_cons_zero, List.setIfInBounds_toArray, List.set_cons_zero, List.set_cons_succ]
    refine wpAnyH_take (i := 3) (v := ?_) rfl (by kernel_rfl) (by kernel_rfl) (by kernel_rfl) (fun _ _ _ h => h) (Or.inl ⟨by rfl, ?_⟩) (by assumption) ?_
    rotate_left 1
    · (intro w hSw; (try dsimp only at hSw); go_simp; try with_reducible rfl)
    try simp only [Act.put, List.getElem_toArray, List.getElem_cons_succ, List.getElem_cons_zero, List.setIfInBounds_toArray, List.set_cons_zero, List.set_cons_succ]
    refine wpAnyH_take (i := 4) (v := ?_) rfl (by kernel_rfl) (by kernel_rfl) (by kernel_rfl) (fun _ _ _ h => h) (Or.inl ⟨by rfl, ?_⟩) (by assumption) ?_
    rotate_left 1
    · (intro w hSw; (try dsimp only at hSw); go_simp; try with_reducible rfl)
    try simp only [Act.put, List.getElem_toArray, List.getElem_cons_succ, List.getElem_cons_zero, List.setIfInBounds_toArray, List.set_cons_zero, List.set_cons_succ]
    refine wpAnyH_ready (rs := [5]) (by kernel_rfl) (by simp) ?_
    refine AllReadyH.cons rfl (fun K hK => ?_) AllReadyH.nil
    try simp only [Act.put, List.getElem_toArray, List.getElem_cons_succ, List.getElem_cons_zero, List.setIfInBounds_toArray, List.set_cons_zero, List.set_cons_succ]
    go_simp
    go_at_call 134
    refine (HC.out).mono ?_
    rintro e w9 ⟨q, rfl, ⟨hq0, hq1', _⟩, hs9, ho9⟩
    have hq1 := hq1' (by omega)
    have hwq : IntKind.i64.wrap (1 + q) = 1 + q := by rw [IntKind.wrap_i64] <;> omega
    have XR9 := hide (XRd.out.only ho9 (.inl (by omega)))
    have XZ9 := hide (XZd.out.only ho9 (.inr (by omega)))
    have RO9 := hide (row_only ROd.out ho9 (by omega))
    have RC9 := hide (row_only RCd.out ho9 (by omega))
    have BW9 := hide (BWd.out.trans (ho9.below (B := w.heap.size) (by omega) BWd.out.size))
    have hz9 := ho9.size
    dsimp only
    refine hK.out _ _ (⟨(XZ9.out.cell 0).trans rfl, (XZ9.out.cell 1).trans rfl, (XZ9.out.cell 2).trans rfl⟩) (fun hHeld => ?_)
    clear hK K
    try simp only [Act.put, List.getElem_toArray, List.getElem_cons_succ, List.getElem_cons_zero, List.setIfInBounds_toArray, List.set_cons_zero, List.set_cons_succ]
    refine wpAnyH_take (i := 6) (v := ?_) rfl (by kernel_rfl) (by kernel_rfl) (by kernel_rfl) (fun _ _ _ h => h) (Or.inl ⟨by rfl, ?_⟩) (by assumption) ?_
    rotate_left 1
    · (intro w hSw; (try dsimp only at hSw); go_simp; try with_reducible rfl)
    try simp only [Act.put, List.getElem_toArray, List.getElem_cons_succ, List.getElem_cons_zero, List.setIfInBounds_toArray, List.set_cons_zero, List.set_cons_succ]
    have T1 := hide (XR9.out.set 0 (.int .i64 x.z))
    have T2 := hide (T1.out.set 1 (.slice A1 x.of.length c1))
    have T3' := hide (T2.out.set 2 (.slice A2 x.ch.length c2))
    have m0 : w9.cell? ⟨w.heap.size, 0, none⟩ = some (.int .i64 0) := XR9.out.cell 0
    have n0 := XR9.out.fro 0
    have m1 : (w9.setCell ⟨w.heap.size, 0, none⟩ (.int .i64 x.z)).cell? ⟨w.heap.size, 1, none⟩ = some (.slice none 0 0) := T1.out.cell 1
    have n1 := T1.out.fro 1
    have m2 : ((w9.setCell ⟨w.heap.size, 0, none⟩ (.int .i64 x.z)).setCell ⟨w.heap.size, 1, none⟩ (.slice A1 x.of.length c1)).cell? ⟨w.heap.size, 2, none⟩ = some (.slice none 0 0) := T2.out.cell 2
    have n2 := T2.out.fro 2
    have q0 : (((w9.setCell ⟨w.heap.size, 0, none⟩ (.int .i64 x.z)).setCell ⟨w.heap.size, 1, none⟩ (.slice A1 x.of.length c1)).setCell ⟨w.heap.size, 2, none⟩ (.slice A2 x.ch.length c2)).cell? ⟨w.heap.size, 0, none⟩ = some (.int .i64 x.z) := T3'.out.cell 0
    have q1 : (((w9.setCell ⟨w.heap.size, 0, none⟩ (.int .i64 x.z)).setCell ⟨w.heap.size, 1, none⟩ (.slice A1 x.of.length c1)).setCell ⟨w.heap.size, 2, none⟩ (.slice A2 x.ch.length c2)).cell? ⟨w.heap.size, 1, none⟩ = some (.slice A1 x.of.length c1) := T3'.out.cell 1
    have q2 : (((w9.setCell ⟨w.heap.size, 0, none⟩ (.int .i64 x.z)).setCell ⟨w.heap.size, 1, none⟩ (.slice A1 x.of.length c1)).setCell ⟨w.heap.size, 2, none⟩ (.slice A2 x.ch.length c2)).cell? ⟨w.heap.size, 2, none⟩ = some (.slice A2 x.ch.length c2) := T3'.out.cell 2
    have XZs := hide (((XZ9.out.other (b' := w.heap.size) (by omega) 0 (.int .i64 x.z)).other (b' := w.heap.size) (by omega) 1 (.slice A1 x.of.length c1)).other (b' := w.heap.size) (by omega) 2 (.slice A2 x.ch.length c2))
    refine wpAnyH_ready (rs := [7]) (by kernel_rfl) (by simp) ?_
    refine AllReadyH.cons rfl (fun K hK => ?_) AllReadyH.nil
    try simp only [Act.put, List.getElem_toArray, List.getElem_cons_succ, List.getElem_cons_zero, List.setIfInBounds_toArray, List.set_cons_zero, List.set_cons_succ]
    go_simp
    refine hK.out _ _ (⟨(XZs.out.cell 0).trans rfl, (XZs.out.cell 1).trans rfl, (XZs.out.cell 2).trans rfl⟩) (fun hHeld => ?_)
    clear hK K
    try simp only [Act.put, List.getElem_toArray, List.getElem_cons_succ, List.getElem_cons_zero, List.setIfInBounds_toArray, List.set_cons_zero, List.set_cons_succ]
    refine wpAnyH_take (i := 8) (v := ?_) rfl (by kernel_rfl) (by kernel_rfl) (by kernel_rfl) (fun _ _ _ h => h) (Or.inl ⟨by rfl, ?_⟩) (by assumption) ?_
    rotate_left 1
    · (intro w hSw; (try dsimp only at hSw); go_simp; try with_reducible rfl)
    try simp only [Act.put, List.getElem_toArray, List.getElem_cons_succ, List.getElem_cons_zero, List.setIfInBounds_toArray, List.set_cons_zero, List.set_cons_succ]
    refine wpAnyH_take (i := 9) (v := ?_) rfl (by kernel_rfl) (by kernel_rfl) (by kernel_rfl) (fun _ _ _ h => h) (Or.inl ⟨by rfl, ?_⟩) (by assumption) ?_
    rotate_left 1
    · (intro w hSw; (try dsimp only at hSw); go_simp; try with_reducible rfl)
    try simp only [Act.put, List.getElem_toArray, List.getElem_cons_succ, List.getElem_cons_zero, List.setIfInBounds_toArray, List.set_cons_zero, List.set_cons_succ]
    refine wpAnyH_take (i := 10) (v := ?_) rfl (by kernel_rfl) (by kernel_rfl) (by kernel_rfl) (fun _ _ _ h => h) (Or.inl ⟨by rfl, ?_⟩) (by assumption) ?_
    rotate_left 1
    · (intro w hSw; (try dsimp only at hSw); go_simp; try with_reducible rfl)
    try simp only [Act.put, List.getElem_toArray, List.getElem_cons_succ, List.getElem_cons_zero, List.setIfInBounds_toArray, List.set_cons_zero, List.set_cons_succ]
    refine wpAnyH_take (i := 11) (v := ?_) rfl (by kernel_rfl) (by kernel_rfl) (by kernel_rfl) (fun _ _ _ h => h) (Or.inl ⟨by rfl, ?_⟩) (by assumption) ?_
    rotate_left 1
    · (intro w hSw; (try dsimp only at hSw); go_simp; try with_reducible rfl)
    try simp only [Act.put, List.getElem_toArray, List.getElem_cons_succ, List.getElem_cons_zero, List.setIfInBounds_toArray, List.set_cons_zero, List.set_cons_succ]
    refine wpAnyH_done (by kernel_rfl) ?_ _
    go_wp2_with fail
    have K1 := (((RO9.out.kept (grown_setCell w9 ⟨w.heap.size, 0, none⟩ (.int .i64 x.z)) (.inr fun e => by have := (RO9.out.lt _ e).1; (try dsimp only at this); omega)).kept (grown_setCell _ ⟨w.heap.size, 1, none⟩ (.slice A1 x.of.length c1)) (.inr fun e => by have := (RO9.out.lt _ e).1; (try dsimp only at this); omega)).kept (grown_setCell _ ⟨w.heap.size, 2, none⟩ (.slice A2 x.ch.length c2)) (.inr fun e => by have := (RO9.out.lt _ e).1; (try dsimp only at this); omega))
    have K2 := (((RC9.out.kept (grown_setCell w9 ⟨w.heap.size, 0, none⟩ (.int .i64 x.z)) (.inr fun e => by have := (RC9.out.lt _ e).1; (try dsimp only at this); omega)).kept (grown_setCell _ ⟨w.heap.size, 1, none⟩ (.slice A1 x.of.length c1)) (.inr fun e => by have := (RC9.out.lt _ e).1; (try dsimp only at this); omega)).kept (grown_setCell _ ⟨w.heap.size, 2, none⟩ (.slice A2 x.ch.length c2)) (.inr fun e => by have := (RC9.out.lt _ e).1; (try dsimp only at this); omega))
    refine bodyPost_ret (v := .tuple #[.agg #[.int .i64 x.z, .slice A1 x.of.length c1, .slice A2 x.ch.length c2], .int .i64 zn, .int .i64 ls, .int .i64 fr, .int .i64 (1 + q)]) (by simp [results, Try.results101, go_sem, q0, q1, q2]) rfl ⟨x, A1, c1, A2, c2, zn, ls, fr, 1 + q, rfl, ⟨hzn, hls, hfr, by omega, by omega⟩, RdI.of_own K1, Rd.of_own K2, HBX.out, ?_⟩
    exact (((BW9.out.setCell (p := ⟨w.heap.size, 0, none⟩) (Nat.le_refl _) _).setCell (p := ⟨w.heap.size, 1, none⟩) (Nat.le_refl _) _).setCell (p := ⟨w.heap.size, 2, none⟩) (Nat.le_refl _) _)
  · go_wp2_with fail
    have XRd : Hid (BoxN w7.drew w.heap.size #[.int .i64 0, .slice none 0 0, .slice none 0 0] 114) := XR7.out
    have XZd : Hid (BoxN w7.drew gz #[.int .i64 x.z, .slice A1 x.of.length c1, .slice A2 x.ch.length c2] 114) := XZ7.out
    have ROd : Hid (w7.drew.ownsRow w1.heap.size 2 1 (.slice A1 x.of.length c1) x.of.length (x.of.map (Value.int .i64))) := RO7.out
    have RCd : Hid (w7.drew.ownsRow w1.heap.size 118 3 (.slice A2 x.ch.length c2) x.ch.length (x.ch.flatMap T3.cells)) := RC7.out
    have BWd := hide BW7.out.drew
    have Sd : Hid (SrcAt w0.heap.size bs (500 + 4 + 4 + 4 + 2) w7.drew) := S7.out.below (B := w0.heap.size + 1) (Below.refl _ _).drew (Nat.lt_succ_self _)
    have hzd : gz + 1 ≤ w7.drew.heap.size := XZd.out.lt
    have e0 : w7.drew.cell? ⟨gz, 0, none⟩ = some (.int .i64 x.z) := XZd.out.cell 0
    have e1 : w7.drew.cell? ⟨gz, 1, none⟩ = some (.slice A1 x.of.length c1) := XZd.out.cell 1
    have e2 : w7.drew.cell? ⟨gz, 2, none⟩ = some (.slice A2 x.ch.length c2) := XZd.out.cell 2
    clear XR7 XZ7 RO7 RC7 BW7 S7
    refine wp_region_held_drew (S := fun W => W.cell? ⟨gz, 0, none⟩ = some (.int .i64 x.z) ∧ W.cell? ⟨gz, 1, none⟩ = some (.slice A1 x.of.length c1) ∧ W.cell? ⟨gz, 2, none⟩ = some (.slice A2 x.ch.length c2)) (by kernel_rfl) (⟨e0, e1, e2⟩) (fun hHeld => ?_)
    generalize w7.drew = wd at *
    have hwd0 : w0.heap.size < wd.heap.size := by omega
    have S6 := hide (Sd.out.alloc (.cells #[.int .i64 (-1), .int .i64 0, .int .i64 1, .int .i64 10000, .int .i64 10001] 2))
    have ham : Calls Try.prog 150 #[.pointer (some ⟨w0.heap.size, 0, none⟩), .slice (some ⟨wd.heap.size, 0, none⟩) 5 5] (wd.alloc (.cells #[.int .i64 (-1), .int .i64 0, .int .i64 1, .int .i64 10000, .int .i64 10001] 2)) fun e w' => ∃ z, e = .returned (.int .i64 z) ∧ z ∈ ([(-1), 0, 1, 10000, 10001] : List Int) ∧ SrcAt w0.heap.size bs (500 + 4 + 4 + 4 + 2 + 2) w' ∧ Only w0.heap.size (w0.heap.size + 1) (wd.alloc (.cells #[.int .i64 (-1), .int .i64 0, .int .i64 1, .int .i64 10000, .int .i64 10001] 2)) w' := HAM.out (500 + 4 + 4 + 4 + 2) wd.heap.size 0 5 ([(-1), 0, 1, 10000, 10001] : List Int) _ (by omega) S6.out (by omega) (by simp) (by simp) (by simp) (fun j z hj => by
        match j, hj with
        | 0, hj => simp at hj; subst hj; simp [go_sem]
        | 1, hj => simp at hj; subst hj; simp [go_sem]
        | 2, hj => simp at hj; subst hj; simp [go_sem]
        | 3, hj => simp at hj; subst hj; simp [go_sem]
        | 4, hj => simp at hj; subst hj; simp [go_sem]
        | j + 5, hj => simp at hj)
    have H6 := hide ham
    clear ham
    have XR8 := hide (XRd.out.alloc (.cells #[.int .i64 (-1), .int .i64 0, .int .i64 1, .int .i64 10000, .int .i64 10001] 2))
    have XZ8 := hide (XZd.out.alloc (.cells #[.int .i64 (-1), .int .i64 0, .int .i64 1, .int .i64 10000, .int .i64 10001] 2))
    have RO8 := hide (ROd.out.alloc (.cells #[.int .i64 (-1), .int .i64 0, .int .i64 1, .int .i64 10000, .int .i64 10001] 2))
    have RC8 := hide (RCd.out.alloc (.cells #[.int .i64 (-1), .int .i64 0, .int .i64 1, .int .i64 10000, .int .i64 10001] 2))
    have BW8 := hide (BWd.out.alloc BWd.out.size (.cells #[.int .i64 (-1), .int .i64 0, .int .i64 1, .int .i64 10000, .int .i64 10001] 2))
    have hz8 : wd.heap.size + 1 ≤ (wd.alloc (.cells #[.int .i64 (-1), .int .i64 0, .int .i64 1, .int .i64 10000, .int .i64 10001] 2)).heap.size := by simp
    refine wpAnyH_take (i := 0) (v := ?_) rfl (by kernel_rfl) (by kernel_rfl) (by kernel_rfl) (fun _ _ _ h => h) (Or.inl ⟨by rfl, ?_⟩) (by assumption) ?_
    rotate_left 1
    · (intro w hSw; (try dsimp only at hSw); go_simp; try with_reducible rfl)
    try simp only [Act.put, List.getElem_toArray, List.getElem_cons_succ, List.getElem_cons_zero, List.setIfInBounds_toArray, List.set_cons_zero, List.set_cons_succ]
    refine wpAnyH_take (i := 1) (v := ?_) rfl (by kernel_rfl) (by kernel_rfl) (by kernel_rfl) (fun _ _ _ h => h) (Or.inl ⟨by rfl, ?_⟩) (by assumption) ?_
    rotate_left 1
    · (intro w hSw; (try dsimp only at hSw); go_simp; try with_reducible rfl)
    try simp only [Act.put, List.getElem_toArray, List.getElem_cons_succ, List.getElem_cons_zero, List.setIfInBounds_toArray, List.set_cons_zero, List.set_cons_succ]
    refine wpAnyH_take (i := 2) (v := ?_) rfl (by kernel_rfl) (by kernel_rfl) (by kernel_rfl) (fun _ _ _ h => h) (Or.inl ⟨by rfl, ?_⟩) (by assumption) ?_
    rotate_left 1
    · (intro w hSw; (try dsimp only at hSw); go_simp; try with_reducible rfl)
    try simp only [Act.put, List.getElem_toArray, List.getElem_cons_succ, List.getElem_cons_zero, List.setIfInBounds_toArray, List.set_cons_zero, List.set_cons_succ]
    refine wpAnyH_take (i := 3) (v := ?_) rfl (by kernel_rfl) (by kernel_rfl) (by kernel_rfl) (fun _ _ _ h => h) (Or.inl ⟨by rfl, ?_⟩) (by assumption) ?_
    rotate_left 1
    · (intro w hSw; (try dsimp only at hSw); go_simp; try with_reducible rfl)
    try simp only [Act.put, List.getElem_toArray, List.getElem_cons_succ, List.getElem_cons_zero, List.setIfInBounds_toArray, List.set_cons_zero, List.set_cons_succ]
    refine wpAnyH_take (i := 4) (v := ?_) rfl (by kernel_rfl) (by kernel_rfl) (by kernel_rfl) (fun _ _ _ h => h) (Or.inl ⟨by rfl, ?_⟩) (by assumption) ?_
    rotate_left 1
    · (intro w hSw; (try dsimp only at hSw); go_simp; try with_reducible rfl)
    try simp only [Act.put, List.getElem_toArray, List.getElem_cons_succ, List.getElem_cons_zero, List.setIfInBounds_toArray, List.set_cons_zero, List.set_cons_succ]
    refine wpAnyH_ready (rs := [5]) (by kernel_rfl) (by simp) ?_
    refine AllReadyH.cons rfl (fun K hK => ?_) AllReadyH.nil
    try simp only [Act.put, List.getElem_toArray, List.getElem_cons_succ, List.getElem_cons_zero, List.setIfInBounds_toArray, List.set_cons_zero, List.set_cons_succ]
    go_simp
    refine hK.out _ _ (⟨(XZ8.out.cell 0).trans rfl, (XZ8.out.cell 1).trans rfl, (XZ8.out.cell 2).trans rfl⟩) (fun hHeld => ?_)
    clear hK K
    try simp only [Act.put, List.getElem_toArray, List.getElem_cons_succ, List.getElem_cons_zero, List.setIfInBounds_toArray, List.set_cons_zero, List.set_cons_succ]
    refine wpAnyH_ready (rs := [6]) (by kernel_rfl) (by simp) ?_
    refine AllReadyH.cons rfl (fun K hK => ?_) AllReadyH.nil
    try simp only [Act.put, List.getElem_toArray, List.getElem_cons_succ, List.getElem_cons_zero, List.setIfInBounds_toArray, List.set_cons_zero, List.set_cons_succ]
    go_simp
    go_at_call 150
    refine (H6.out).mono ?_
    rintro e w9 ⟨q, rfl, hq, hs9, ho9⟩
    have hqb : -1 ≤ q ∧ q ≤ 10001 := by simp at hq; omega
    have XR9 := hide (XR8.out.only ho9 (.inl (by omega)))
    have XZ9 := hide (XZ8.out.only ho9 (.inr (by omega)))
    have RO9 := hide (row_only RO8.out ho9 (by omega))
    have RC9 := hide (row_only RC8.out ho9 (by omega))
    have BW9 := hide (BW8.out.trans (ho9.below (B := w.heap.size) (by omega) BW8.out.size))
    have hz9 := ho9.size
    dsimp only
    refine hK.out _ _ (⟨(XZ9.out.cell 0).trans rfl, (XZ9.out.cell 1).trans rfl, (XZ9.out.cell 2).trans rfl⟩) (fun hHeld => ?_)
    clear hK K
    try simp only [Act.put, List.getElem_toArray, List.getElem_cons_succ, List.getElem_cons_zero, List.setIfInBounds_toArray, List.set_cons_zero, List.set_cons_succ]
    have T1 := hide (XR9.out.set 0 (.int .i64 x.z))
    have T2 := hide (T1.out.set 1 (.slice A1 x.of.length c1))
    have T3' := hide (T2.out.set 2 (.slice A2 x.ch.length c2))
    have m0 : w9.cell? ⟨w.heap.size, 0, none⟩ = some (.int .i64 0) := XR9.out.cell 0
    have n0 := XR9.out.fro 0
    have m1 : (w9.setCell ⟨w.heap.size, 0, none⟩ (.int .i64 x.z)).cell? ⟨w.heap.size, 1, none⟩ = some (.slice none 0 0) := T1.out.cell 1
    have n1 := T1.out.fro 1
    have m2 : ((w9.setCell ⟨w.heap.size, 0, none⟩ (.int .i64 x.z)).setCell ⟨w.heap.size, 1, none⟩ (.slice A1 x.of.length c1)).cell? ⟨w.heap.size, 2, none⟩ = some (.slice none 0 0) := T2.out.cell 2
    have n2 := T2.out.fro 2
    have q0 : (((w9.setCell ⟨w.heap.size, 0, none⟩ (.int .i64 x.z)).setCell ⟨w.heap.size, 1, none⟩ (.slice A1 x.of.length c1)).setCell ⟨w.heap.size, 2, none⟩ (.slice A2 x.ch.length c2)).cell? ⟨w.heap.size, 0, none⟩ = some (.int .i64 x.z) := T3'.out.cell 0
    have q1 : (((w9.setCell ⟨w.heap.size, 0, none⟩ (.int .i64 x.z)).setCell ⟨w.heap.size, 1, none⟩ (.slice A1 x.of.length c1)).setCell ⟨w.heap.size, 2, none⟩ (.slice A2 x.ch.length c2)).cell? ⟨w.heap.size, 1, none⟩ = some (.slice A1 x.of.length c1) := T3'.out.cell 1
    have q2 : (((w9.setCell ⟨w.heap.size, 0, none⟩ (.int .i64 x.z)).setCell ⟨w.heap.size, 1, none⟩ (.slice A1 x.of.length c1)).setCell ⟨w.heap.size, 2, none⟩ (.slice A2 x.ch.length c2)).cell? ⟨w.heap.size, 2, none⟩ = some (.slice A2 x.ch.length c2) := T3'.out.cell 2
    have XZs := hide (((XZ9.out.other (b' := w.heap.size) (by omega) 0 (.int .i64 x.z)).other (b' := w.heap.size) (by omega) 1 (.slice A1 x.of.length c1)).other (b' := w.heap.size) (by omega) 2 (.slice A2 x.ch.length c2))
    refine wpAnyH_ready (rs := [7]) (by kernel_rfl) (by simp) ?_
    refine AllReadyH.cons rfl (fun K hK => ?_) AllReadyH.nil
    try simp only [Act.put, List.getElem_toArray, List.getElem_cons_succ, List.getElem_cons_zero, List.setIfInBounds_toArray, List.set_cons_zero, List.set_cons_succ]
    go_simp
    refine hK.out _ _ (⟨(XZs.out.cell 0).trans rfl, (XZs.out.cell 1).trans rfl, (XZs.out.cell 2).trans rfl⟩) (fun hHeld => ?_)
    clear hK K
    try simp only [Act.put, List.getElem_toArray, List.getElem_cons_succ, List.getElem_cons_zero, List.setIfInBounds_toArray, List.set_cons_zero, List.set_cons_succ]
    refine wpAnyH_take (i := 8) (v := ?_) rfl (by kernel_rfl) (by kernel_rfl) (by kernel_rfl) (fun _ _ _ h => h) (Or.inl ⟨by rfl, ?_⟩) (by assumption) ?_
    rotate_left 1
    · (intro w hSw; (try dsimp only at hSw); go_simp; try with_reducible rfl)
    try simp only [Act.put, List.getElem_toArray, List.getElem_cons_succ, List.getElem_cons_zero, List.setIfInBounds_toArray, List.set_cons_zero, List.set_cons_succ]
    refine wpAnyH_take (i := 9) (v := ?_) rfl (by kernel_rfl) (by kernel_rfl) (by kernel_rfl) (fun _ _ _ h => h) (Or.inl ⟨by rfl, ?_⟩) (by assumption) ?_
    rotate_left 1
    · (intro w hSw; (try dsimp only at hSw); go_simp; try with_reducible rfl)
    try simp only [Act.put, List.getElem_toArray, List.getElem_cons_succ, List.getElem_cons_zero, List.setIfInBounds_toArray, List.set_cons_zero, List.set_cons_succ]
    refine wpAnyH_take (i := 10) (v := ?_) rfl (by kernel_rfl) (by kernel_rfl) (by kernel_rfl) (fun _ _ _ h => h) (Or.inl ⟨by rfl, ?_⟩) (by assumption) ?_
    rotate_left 1
    · (intro w hSw; (try dsimp only at hSw); go_simp; try with_reducible rfl)
    try simp only [Act.put, List.getElem_toArray, List.getElem_cons_succ, List.getElem_cons_zero, List.setIfInBounds_toArray, List.set_cons_zero, List.set_cons_succ]
    refine wpAnyH_take (i := 11) (v := ?_) rfl (by kernel_rfl) (by kernel_rfl) (by kernel_rfl) (fun _ _ _ h => h) (Or.inl ⟨by rfl, ?_⟩) (by assumption) ?_
    rotate_left 1
    · (intro w hSw; (try dsimp only at hSw); go_simp; try with_reducible rfl)
    try simp only [Act.put, List.getElem_toArray, List.getElem_cons_succ, List.getElem_cons_zero, List.setIfInBounds_toArray, List.set_cons_zero, List.set_cons_succ]
    refine wpAnyH_done (by kernel_rfl) ?_ _
    go_wp2_with fail
    have K1 := (((RO9.out.kept (grown_setCell w9 ⟨w.heap.size, 0, none⟩ (.int .i64 x.z)) (.inr fun e => by have := (RO9.out.lt _ e).1; (try dsimp only at this); omega)).kept (grown_setCell _ ⟨w.heap.size, 1, none⟩ (.slice A1 x.of.length c1)) (.inr fun e => by have := (RO9.out.lt _ e).1; (try dsimp only at this); omega)).kept (grown_setCell _ ⟨w.heap.size, 2, none⟩ (.slice A2 x.ch.length c2)) (.inr fun e => by have := (RO9.out.lt _ e).1; (try dsimp only at this); omega))
    have K2 := (((RC9.out.kept (grown_setCell w9 ⟨w.heap.size, 0, none⟩ (.int .i64 x.z)) (.inr fun e => by have := (RC9.out.lt _ e).1; (try dsimp only at this); omega)).kept (grown_setCell _ ⟨w.heap.size, 1, none⟩ (.slice A1 x.of.length c1)) (.inr fun e => by have := (RC9.out.lt _ e).1; (try dsimp only at this); omega)).kept (grown_setCell _ ⟨w.heap.size, 2, none⟩ (.slice A2 x.ch.length c2)) (.inr fun e => by have := (RC9.out.lt _ e).1; (try dsimp only at this); omega))
    refine bodyPost_ret (v := .tuple #[.agg #[.int .i64 x.z, .slice A1 x.of.length c1, .slice A2 x.ch.length c2], .int .i64 zn, .int .i64 ls, .int .i64 fr, .int .i64 q]) (by simp [results, Try.results101, go_sem, q0, q1, q2]) rfl ⟨x, A1, c1, A2, c2, zn, ls, fr, q, rfl, ⟨hzn, hls, hfr, hqb⟩, RdI.of_own K1, Rd.of_own K2, HBX.out, ?_⟩
    exact (((BW9.out.setCell (p := ⟨w.heap.size, 0, none⟩) (Nat.le_refl _) _).setCell (p := ⟨w.heap.size, 1, none⟩) (Nat.le_refl _) _).setCell (p := ⟨w.heap.size, 2, none⟩) (Nat.le_refl _) _)
end Go.Proofs.Ytklfjekpeoigoaa
