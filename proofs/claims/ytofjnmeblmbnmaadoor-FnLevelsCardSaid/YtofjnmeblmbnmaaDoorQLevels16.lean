/-
  Zones: what AddChange draws.
-/
import Derived.Test.YtofjnmeblmbnmaaDoorQLevels15
import Derived.Deep.CutBlock
import Derived.Test.YtofjnmeblmbnmaaDoorQLevels11
namespace Go.Proofs.YtofjnmeblmbnmaaDoor
open Go.RowKit
/-- Drawn zones and a drawn change in boxes of their own, beside the boxes of the results. -/
structure AdS (b : Nat) (bs : List Int) (N : Int) (w : World) (gr gr2 gz gc base : Nat) (W : World) (x : TZ) (A : Option Addr) (c : Nat) (A2 : Option Addr) (c2 : Nat) (t : T3) : Prop where
  r : BoxN W gr #[.int .i64 0, .slice none 0 0, .slice none 0 0] 47
  r2 : BoxN W gr2 #[.int .i64 0, .int .i64 0, .int .i64 0] 41
  z : BoxN W gz #[.int .i64 x.z, .slice A x.of.length c, .slice A2 x.ch.length c2] 47
  ch : BoxN W gc #[.int .i64 t.a, .int .i64 t.b, .int .i64 t.c] 41
  ro : W.ownsRow base 2 1 (.slice A x.of.length c) x.of.length (x.of.map (Value.int .i64))
  rc : W.ownsRow base 41 3 (.slice A2 x.ch.length c2) x.ch.length (x.ch.flatMap T3.cells)
  src : SrcAt b bs N W
  bel : Below w.heap.size w W
  lt : (w.heap.size ≤ gr ∧ gr < gr2 ∧ gr2 < b) ∧ b < base ∧ base ≤ gz ∧ gz < gc
  n1 : (Value.slice A x.of.length c).ownBlock ≠ some gc
  n2 : (Value.slice A2 x.ch.length c2).ownBlock ≠ some gc
theorem AdS.more {b : Nat} {bs : List Int} {N : Int} {w : World} {gr gr2 gz gc base : Nat} {W : World} {x : TZ} {A : Option Addr} {c : Nat} {A2 : Option Addr} {c2 : Nat} {t : T3} {N' : Int} (h : AdS b bs N w gr gr2 gz gc base W x A c A2 c2 t) (hN : N ≤ N') : AdS b bs N' w gr gr2 gz gc base W x A c A2 c2 t := ⟨h.r, h.r2, h.z, h.ch, h.ro, h.rc, h.src.more hN, h.bel, h.lt, h.n1, h.n2⟩
theorem AdS.only {b : Nat} {bs : List Int} {N : Int} {w : World} {gr gr2 gz gc base : Nat} {W : World} {x : TZ} {A : Option Addr} {c : Nat} {A2 : Option Addr} {c2 : Nat} {t : T3} {N' : Int} {w1 : World} (h : AdS b bs N w gr gr2 gz gc base W x A c A2 c2 t) (hs : SrcAt b bs N' w1) (ho : Only b (b + 1) W w1) : AdS b bs N' w gr gr2 gz gc base w1 x A c A2 c2 t := by
  have hlt := h.lt
  exact ⟨h.r.only ho (.inl (by omega)), h.r2.only ho (.inl (by omega)), h.z.only ho (.inr (by omega)), h.ch.only ho (.inr (by omega)), row_only h.ro ho (by omega), row_only h.rc ho (by omega), hs, h.bel.trans (ho.below (B := w.heap.size) (by omega) h.bel.size), hlt, h.n1, h.n2⟩
theorem AdS.put {b : Nat} {bs : List Int} {N : Int} {w : World} {gr gr2 gz gc base : Nat} {W : World} {x : TZ} {A : Option Addr} {c : Nat} {A2 : Option Addr} {c2 : Nat} {t : T3} (h : AdS b bs N w gr gr2 gz gc base W x A c A2 c2 t) (j : Nat) (z : Int) (t' : T3) (ht : (#[.int .i64 t'.a, .int .i64 t'.b, .int .i64 t'.c] : Array Value) = (#[.int .i64 t.a, .int .i64 t.b, .int .i64 t.c] : Array Value).setIfInBounds j (.int .i64 z)) : AdS b bs N w gr gr2 gz gc base (W.setCell ⟨gc, j, none⟩ (.int .i64 z)) x A c A2 c2 t' := by
  have hlt := h.lt
  refine ⟨h.r.other (by omega) _ _, h.r2.other (by omega) _ _, h.z.other (by omega) _ _, ?_, h.ro.kept (grown_setCell W ⟨gc, j, none⟩ _) (.inr h.n1), h.rc.kept (grown_setCell W ⟨gc, j, none⟩ _) (.inr h.n2), h.src.set _ _ (by dsimp only; omega), set_nil h.bel _ _ (by omega), hlt, h.n1, h.n2⟩
  rw [ht]
  exact h.ch.set j (.int .i64 z)
theorem AdS.drew {b : Nat} {bs : List Int} {N : Int} {w : World} {gr gr2 gz gc base : Nat} {W : World} {x : TZ} {A : Option Addr} {c : Nat} {A2 : Option Addr} {c2 : Nat} {t : T3} (h : AdS b bs N w gr gr2 gz gc base W x A c A2 c2 t) : AdS b bs N w gr gr2 gz gc base W.drew x A c A2 c2 t := h.only (h.src.below (Below.refl (b + 1) _).drew (Nat.lt_succ_self _)) (only_of_below (Below.refl _ _).drew)
theorem AdS.spoil {b : Nat} {bs : List Int} {N : Int} {w : World} {gr gr2 gz gc base : Nat} {W : World} {x : TZ} {A : Option Addr} {c : Nat} {A2 : Option Addr} {c2 : Nat} {t : T3} {w1 : World} {j : Nat} {z : Int} (h : AdS b bs N w gr gr2 gz gc base W x A c A2 c2 t) (hok : CDr t) (hs : SrcAt b bs (N + 4) w1) (ho : Only b (b + 1) W w1)
    (hj : (j = 0 ∧ -9223372036854775808 ≤ z ∧ z ≤ 10001) ∨ (j = 1 ∧ -1 ≤ z ∧ z ≤ 8) ∨ (j = 2 ∧ -101 ≤ z ∧ z ≤ 101)) : ∃ t', AdS b bs (N + 4) w gr gr2 gz gc base (w1.setCell ⟨gc, j, none⟩ (.int .i64 z)) x A c A2 c2 t' ∧ CDr t' := by
  have h1 := h.only hs ho
  unfold CDr at hok
  rcases hj with ⟨rfl, h2, h3⟩ | ⟨rfl, h2, h3⟩ | ⟨rfl, h2, h3⟩
  · exact ⟨⟨z, t.b, t.c⟩, h1.put 0 z _ rfl, by unfold CDr; dsimp only; omega⟩
  · exact ⟨⟨t.a, z, t.c⟩, h1.put 1 z _ rfl, by unfold CDr; dsimp only; omega⟩
  · exact ⟨⟨t.a, t.b, z⟩, h1.put 2 z _ rfl, by unfold CDr; dsimp only; omega⟩
theorem AdS.cap {b : Nat} {bs : List Int} {N : Int} {w : World} {gr gr2 gz gc base : Nat} {W : World} {x : TZ} {A : Option Addr} {c : Nat} {A2 : Option Addr} {c2 : Nat} {t : T3} (h : AdS b bs N w gr gr2 gz gc base W x A c A2 c2 t) : x.ch.length ≤ c2 ∧ c2 ≤ 9223372036854775807 := by
  obtain ⟨A9, c9, he, h1, h2⟩ := own_shape h.rc
  simp only [Value.slice.injEq] at he
  obtain ⟨_, _, rfl⟩ := he
  exact ⟨h1, by unfold maxLen at h2; omega⟩
set_option maxRecDepth 100000 in
set_option maxHeartbeats 8000000 in
theorem drawAddChange_any (bs : List Int) (A0 : Option Addr) (c0 : Nat) (w : World) (hbs : BsOk bs) (h1 : RdB w w.heap.size A0 bs) :
    Calls Tryd.prog 30 #[.slice A0 bs.length c0] w fun e w' => ∃ (x : TZ) (A : Option Addr) (c : Nat) (A2 : Option Addr) (c2 : Nat) (t : T3), e = .returned (.tuple #[.agg #[.int .i64 x.z, .slice A x.of.length c, .slice A2 x.ch.length c2], .agg #[.int .i64 t.a, .int .i64 t.b, .int .i64 t.c]]) ∧ CDr t ∧ RdI w' w'.heap.size A x.of ∧ Rd3 w' w'.heap.size A2 x.ch ∧ ZBt x ∧ (x.ch.length ≤ c2 ∧ c2 ≤ 9223372036854775807) ∧ Below w.heap.size w w' := by
  have hbA : Below w.heap.size w ((w.alloc (.cells #[.int .i64 0, .slice none 0 0, .slice none 0 0] 47)).alloc (.cells #[.int .i64 0, .int .i64 0, .int .i64 0] 41)) := ((Below.refl _ _).alloc (Nat.le_refl _) _).alloc (by simp) _
  have X0 := hide ((BoxN.new w #[.int .i64 0, .slice none 0 0, .slice none 0 0] 47).alloc (.cells #[.int .i64 0, .int .i64 0, .int .i64 0] 41))
  have hsA : (w.alloc (.cells #[.int .i64 0, .slice none 0 0, .slice none 0 0] 47)).heap.size = w.heap.size + 1 := by simp
  have Y0 : Hid (BoxN ((w.alloc (.cells #[.int .i64 0, .slice none 0 0, .slice none 0 0] 47)).alloc (.cells #[.int .i64 0, .int .i64 0, .int .i64 0] 41)) (w.heap.size + 1) #[.int .i64 0, .int .i64 0, .int .i64 0] 41) := hide (hsA ▸ BoxN.new (w.alloc (.cells #[.int .i64 0, .slice none 0 0, .slice none 0 0] 47)) #[.int .i64 0, .int .i64 0, .int .i64 0] 41)
  have hz0a : ((w.alloc (.cells #[.int .i64 0, .slice none 0 0, .slice none 0 0] 47)).alloc (.cells #[.int .i64 0, .int .i64 0, .int .i64 0] 41)).heap.size = w.heap.size + 1 + 1 := by simp
  have z0a := Nat.le_of_eq hz0a
  have z0b := Nat.le_of_eq hz0a.symm
  have HF := hide (l00From_any bs A0 c0 _ hbs.1 ((h1.below hbA).more hbA.size))
  have HBA := hide hbA
  clear h1 hbA hz0a hsA
  go_enter Tryd.func30, Tryd.ntmps30
  go_upto_region 1 with fail
  generalize (w.alloc (.cells #[.int .i64 0, .slice none 0 0, .slice none 0 0] 47)).alloc (.cells #[.int .i64 0, .int .i64 0, .int .i64 0] 41) = w0 at *
  have HBT := hide fun W (hW : SrcAt w0.heap.size bs 0 W) => bentZones_any w0.heap.size bs 0 W hbs (by omega) hW
  go_upto_region 3 with (first | (go_at_call 54; (with_reducible refine (HF.out).mono ?_); rintro e w1 ⟨rfl, hs1, hz1, hb1⟩; have HS1 := hide hs1; have hz1a := Nat.le_of_eq hz1; have hz1b := Nat.le_of_eq hz1.symm; have X1 := hide (X0.out.below hb1 (by omega)); have Y1 := hide (Y0.out.below hb1 (by omega)); have BW1 := hide (HBA.out.trans (hb1.mono HBA.out.size)); clear hs1 hb1 hz1) | (go_at_call 70; (with_reducible refine (HBT.out _ HS1.out).mono ?_); rintro e w2 ⟨x, A, c, A2, c2, rfl, hbt, ro, rc, ap, hs2, ho2⟩))
  have hz2 := ho2.size
  have HBX := hide hbt
  have hxz1 := hbt.1.1
  have hxz9 := hbt.1.2
  have hch61 := hbt.2.2.1
  have XR3 := hide ((X1.out.only ho2 (.inl (by omega))).alloc (.cells #[.int .i64 x.z, .slice A x.of.length c, .slice A2 x.ch.length c2] 47))
  have YR3 := hide ((Y1.out.only ho2 (.inl (by omega))).alloc (.cells #[.int .i64 x.z, .slice A x.of.length c, .slice A2 x.ch.length c2] 47))
  have BOX := hide (BoxN.new w2 #[.int .i64 x.z, .slice A x.of.length c, .slice A2 x.ch.length c2] 47)
  have L1 := hide (show ∀ g, (Value.slice A x.of.length c).ownBlock = some g → g < w2.heap.size from fun g e => (ro.lt g e).2)
  have L2 := hide (show ∀ g, (Value.slice A2 x.ch.length c2).ownBlock = some g → g < w2.heap.size from fun g e => (rc.lt g e).2)
  have RO3 := hide (ro.alloc (.cells #[.int .i64 x.z, .slice A x.of.length c, .slice A2 x.ch.length c2] 47))
  have RC3 := hide (rc.alloc (.cells #[.int .i64 x.z, .slice A x.of.length c, .slice A2 x.ch.length c2] 47))
  have BW3 := hide ((BW1.out.trans (ho2.below (B := w.heap.size) (by omega) BW1.out.size)).alloc (by have := BW1.out.size; omega) (.cells #[.int .i64 x.z, .slice A x.of.length c, .slice A2 x.ch.length c2] 47))
  have S3 := hide (hs2.alloc (.cells #[.int .i64 x.z, .slice A x.of.length c, .slice A2 x.ch.length c2] 47))
  have hz3 : w2.heap.size + 1 ≤ (w2.alloc (.cells #[.int .i64 x.z, .slice A x.of.length c, .slice A2 x.ch.length c2] 47)).heap.size := by simp
  clear hbt ro rc ap hs2 ho2 X0 X1 Y0 Y1 HF HBA HBT HS1 BW1
  generalize w2.alloc (.cells #[.int .i64 x.z, .slice A x.of.length c, .slice A2 x.ch.length c2] 47) = w3 at *
  generalize w2.heap.size = gz at *
  have k0 := BOX.out.cell 0
  have HCH := hide (drawChange_any w0.heap.size bs (0 + 500) (max 1 x.z) w3 hbs (by omega) S3.out (by omega) (by omega))
  go_upto_region 4 with (first | (go_at_call 81; (with_reducible refine (l00MaxM_any _ _ _).mono ?_); rintro e w' ⟨rfl, rfl⟩) | (go_at_call 80; (with_reducible refine (HCH.out).mono ?_); rintro e w4 ⟨t, rfl, hok, hs4, ho4⟩))
  have hz4 := ho4.size
  have C5 : Hid (AdS w0.heap.size bs (0 + 500 + 6) w w.heap.size (w.heap.size + 1) gz w4.heap.size w1.heap.size (w4.alloc (.cells #[.int .i64 t.a, .int .i64 t.b, .int .i64 t.c] 41)) x A c A2 c2 t) := hide
    ⟨(XR3.out.only ho4 (.inl (by omega))).alloc _, (YR3.out.only ho4 (.inl (by omega))).alloc _, (BOX.out.only ho4 (.inr (by omega))).alloc _, BoxN.new w4 _ _, (row_only RO3.out ho4 (by omega)).alloc _, (row_only RC3.out ho4 (by omega)).alloc _, hs4.alloc _, (BW3.out.trans (ho4.below (B := w.heap.size) (by omega) BW3.out.size)).alloc (by have := BW3.out.size; omega) _, ⟨⟨Nat.le_refl _, by omega, by omega⟩, by omega, by omega, by omega⟩, fun e => by have := L1.out _ e; omega, fun e => by have := L2.out _ e; omega⟩
  have HOK := hide hok
  clear hok hs4 ho4 XR3 YR3 BOX RO3 RC3 BW3 S3 HCH k0 L1 L2
  generalize w4.alloc (.cells #[.int .i64 t.a, .int .i64 t.b, .int .i64 t.c] 41) = w5 at *
  generalize w4.heap.size = gc at *
  have HP := hide fun M n W (hM : M ≤ 1099511000000) (hW : SrcAt w0.heap.size bs M W) => pick_any w0.heap.size bs M n W hbs hM hW
  go_upto_block 0 with (go_at_call 58; (with_reducible refine (HP.out (0 + 500 + 6) 8 _ (by omega) C5.out.src).mono ?_); rintro e w6 ⟨z, rfl, ⟨hz0, _, _⟩, hs6, ho6⟩)
  have C6 := hide (C5.out.only hs6 ho6)
  clear hs6 ho6 C5
  go_cut [] (fun wx => ∃ t', AdS w0.heap.size bs (0 + 500 + 6 + 2 + 4) w w.heap.size (w.heap.size + 1) gz gc w1.heap.size wx x A c A2 c2 t' ∧ CDr t')
  case first =>
    by_cases e0 : z = 0
    · have hB0 : (z == 0) = true := by simp [e0]
      have E0 := hide e0
      have HSP := hide (spoilBox_any w0.heap.size bs (0 + 500 + 6 + 2) gc t w6 hbs (by omega) C6.out.src (by have := C6.out.lt; omega) C6.out.ch)
      clear e0
      go_wp2_with (go_at_call 82; (with_reducible refine (HSP.out).mono ?_); rintro e w7 ⟨rfl, w8, j, z', hj, hs8, ho8, rfl⟩)
      go_meet
      exact C6.out.spoil HOK.out hs8 ho8 hj
    have hB0 : (z == 0) = false := by simp [e0]
    have E0 := hide e0
    clear e0
    by_cases e1 : z = 1
    · have hB1 : (z == 1) = true := by simp [e1]
      have E1 := hide e1
      clear e1
      have k2 := C6.out.z.cell 2
      by_cases hl : 0 < x.ch.length
      case neg =>
        have hBl : decide ((0 : Int) < (x.ch.length : Int)) = false := decide_eq_false (by omega)
        go_wp2_with fail
        go_meet
        exact ⟨t, C6.out.more (by omega), HOK.out⟩
      have hli : (0 : Int) < (x.ch.length : Int) := by omega
      go_wp2_with fail
      have C7 := hide C6.out.drew
      have hlt := C7.out.lt
      obtain ⟨g2, rfl, hg2, _⟩ := own_posN' C7.out.rc hl
      have e2 : w6.drew.cell? ⟨gz, 2, none⟩ = some (.slice (some ⟨g2, 0, none⟩) x.ch.length c2) := C7.out.z.cell 2
      clear C6 k2
      refine wp_region_held_drew (S := fun W => W.cell? ⟨gz, 2, none⟩ = some (.slice (some ⟨g2, 0, none⟩) x.ch.length c2)) (by kernel_rfl) (e2) (fun hHeld => ?_)
      generalize w6.drew = wd at *
      have HC := hide (HP.out (0 + 500 + 6 + 2) (x.ch.length : Int) wd (by omega) C7.out.src)
      refine wpAnyH_take (i := 0) (v := ?_) rfl (by kernel_rfl) (by kernel_rfl) (by kernel_rfl) (fun _ _ _ h => h) (Or.inl ⟨by rfl, ?_⟩) (by assumption) ?_
      rotate_left 1
      · (intro w hSw; (try dsimp only at hSw); go_simp; try with_reducible rfl)
      try simp only [Act.put, List.getElem_toArray, List.getElem_cons_succ, List.getElem_cons_zero, List.setIfInBounds_toArray, List.set_cons_zero, List.set_cons_succ]
      refine wpAnyH_take (i := 1) (v := ?_) rfl (by kernel_rfl) (by kernel_rfl) (by kernel_rfl) (fun _ _ _ h => h) (Or.inl ⟨by rfl, ?_⟩) (by assumption) ?_
      rotate_left 1
      · (intro w hSw; (try dsimp only at hSw); go_simp; try with_reducible rfl)
      try simp only [Act.put, List.getElem_toArray, List.getElem_cons_succ, List.getElem_cons_zero, List.setIfInBounds_toArray, List.set_cons_zero, List.set_cons_succ]
      refine wpAnyH_take (i := 2) (v := ?_) rfl (by kernel_rfl) (by kernel_rfl) (by kernel_rfl) (fun _ _ _ h => h) (Or.inl ⟨by rfl, ?_⟩) (by assumption) ?_
      rotate_left 1
      · (intro w hSw; (try dsimp only at hSw); go_simp; try with_reducible rfl)
      try simp only [Act.put, List.getElem_toArray, List.getElem_cons_succ, List.getElem_cons_zero, List.setIfInBounds_toArray, List.set_cons_zero, List.set_cons_succ]
      refine wpAnyH_take (i := 3) (v := ?_) rfl (by kernel_rfl) (by kernel_rfl) (by kernel_rfl) (fun _ _ _ h => h) (Or.inl ⟨by rfl, ?_⟩) (by assumption) ?_
      rotate_left 1
      · (intro w hSw; (try dsimp only at hSw); go_simp; try with_reducible rfl)
      try simp only [Act.put, List.getElem_toArray, List.getElem_cons_succ, List.getElem_cons_zero, List.setIfInBounds_toArray, List.set_cons_zero, List.set_cons_succ]
      refine wpAnyH_take (i := 4) (v := ?_) rfl (by kernel_rfl) (by kernel_rfl) (by kernel_rfl) (fun _ _ _ h => h) (Or.inl ⟨by rfl, ?_⟩) (by assumption) ?_
      rotate_left 1
      · (intro w hSw; (try dsimp only at hSw); go_simp; try with_reducible rfl)
      try simp only [Act.put, List.getElem_toArray, List.getElem_cons_succ, List.getElem_cons_zero, List.setIfInBounds_toArray, List.set_cons_zero, List.set_cons_succ]
      refine wpAnyH_take (i := 5) (v := ?_) rfl (by kernel_rfl) (by kernel_rfl) (by kernel_rfl) (fun _ _ _ h => h) (Or.inl ⟨by rfl, ?_⟩) (by assumption) ?_
      rotate_left 1
      · (intro w hSw; (try dsimp only at hSw); go_simp; try with_reducible rfl)
      try simp only [Act.put, List.getElem_toArray, List.getElem_cons_succ, List.getElem_cons_zero, List.setIfInBounds_toArray, List.set_cons_zero, List.set_cons_succ]
      refine wpAnyH_ready (rs := [6]) (by kernel_rfl) (by simp) ?_
      refine AllReadyH.cons rfl (fun K hK => ?_) AllReadyH.nil
      try simp only [Act.put, List.getElem_toArray, List.getElem_cons_succ, List.getElem_cons_zero, List.setIfInBounds_toArray, List.set_cons_zero, List.set_cons_succ]
      go_simp
      go_at_call 58
      refine (HC.out).mono ?_
      rintro e w8 ⟨y, rfl, ⟨hy0, hy1', _⟩, hs8, ho8⟩
      have hy1 := hy1' (by omega)
      obtain ⟨k, rfl⟩ := Int.eq_ofNat_of_zero_le hy0
      have C8 := hide (C7.out.only hs8 ho8)
      clear hs8 ho8 C7 hy1'
      have hkl : k < x.ch.length := by omega
      obtain ⟨u, hu⟩ : ∃ u, x.ch[k]? = some u := ⟨_, List.getElem?_eq_getElem hkl⟩
      have HU := hide (HBX.out.2.2.2 u (List.mem_of_getElem? hu))
      have f2 : w8.cell? ⟨gz, 2, none⟩ = some (.slice (some ⟨g2, 0, none⟩) x.ch.length c2) := C8.out.z.cell 2
      have a0 : w8.cell? ⟨g2, k * 3, none⟩ = some (.int .i64 u.a) := (C8.out.rc.cellAt (k * 3) (by omega)).trans (flatMap_atZ (q := 0) hu (by omega))
      have a1 : w8.cell? ⟨g2, k * 3 + 1, none⟩ = some (.int .i64 u.b) := (C8.out.rc.cellAt (k * 3 + 1) (by omega)).trans (flatMap_atZ (q := 1) hu (by omega))
      have a2 : w8.cell? ⟨g2, k * 3 + 2, none⟩ = some (.int .i64 u.c) := (C8.out.rc.cellAt (k * 3 + 2) (by omega)).trans (flatMap_atZ (q := 2) hu (by omega))
      clear hu
      dsimp only
      refine hK.out _ _ (f2) (fun hHeld => ?_)
      clear hK K
      try simp only [Act.put, List.getElem_toArray, List.getElem_cons_succ, List.getElem_cons_zero, List.setIfInBounds_toArray, List.set_cons_zero, List.set_cons_succ]
      refine wpAnyH_take (i := 7) (v := ?_) rfl (by kernel_rfl) (by kernel_rfl) (by kernel_rfl) (fun _ _ _ h => h) (Or.inl ⟨by rfl, ?_⟩) (by assumption) ?_
      rotate_left 1
      · (intro w hSw; (try dsimp only at hSw); go_simp; try with_reducible rfl)
      try simp only [Act.put, List.getElem_toArray, List.getElem_cons_succ, List.getElem_cons_zero, List.setIfInBounds_toArray, List.set_cons_zero, List.set_cons_succ]
      refine wpAnyH_ready (rs := [8]) (by kernel_rfl) (by simp) ?_
      refine AllReadyH.cons rfl (fun K hK => ?_) AllReadyH.nil
      try simp only [Act.put, List.getElem_toArray, List.getElem_cons_succ, List.getElem_cons_zero, List.setIfInBounds_toArray, List.set_cons_zero, List.set_cons_succ]
      go_simp
      refine hK.out _ _ (f2) (fun hHeld => ?_)
      clear hK K
      try simp only [Act.put, List.getElem_toArray, List.getElem_cons_succ, List.getElem_cons_zero, List.setIfInBounds_toArray, List.set_cons_zero, List.set_cons_succ]
      have sT1 := hide (C8.out.ch.set 0 (.int .i64 u.a))
      have sT2 := hide (sT1.out.set 1 (.int .i64 u.b))
      have sT3 := hide (sT2.out.set 2 (.int .i64 u.c))
      have sm0 : w8.cell? ⟨gc, 0, none⟩ = some (.int .i64 t.a) := C8.out.ch.cell 0
      have sn0 := C8.out.ch.fro 0
      have sm1 : (w8.setCell ⟨gc, 0, none⟩ (.int .i64 u.a)).cell? ⟨gc, 1, none⟩ = some (.int .i64 t.b) := sT1.out.cell 1
      have sn1 := sT1.out.fro 1
      have sm2 : ((w8.setCell ⟨gc, 0, none⟩ (.int .i64 u.a)).setCell ⟨gc, 1, none⟩ (.int .i64 u.b)).cell? ⟨gc, 2, none⟩ = some (.int .i64 t.c) := sT2.out.cell 2
      have sn2 := sT2.out.fro 2
      have sq0 : (((w8.setCell ⟨gc, 0, none⟩ (.int .i64 u.a)).setCell ⟨gc, 1, none⟩ (.int .i64 u.b)).setCell ⟨gc, 2, none⟩ (.int .i64 u.c)).cell? ⟨gc, 0, none⟩ = some (.int .i64 u.a) := sT3.out.cell 0
      have sq1 : (((w8.setCell ⟨gc, 0, none⟩ (.int .i64 u.a)).setCell ⟨gc, 1, none⟩ (.int .i64 u.b)).setCell ⟨gc, 2, none⟩ (.int .i64 u.c)).cell? ⟨gc, 1, none⟩ = some (.int .i64 u.b) := sT3.out.cell 1
      have sq2 : (((w8.setCell ⟨gc, 0, none⟩ (.int .i64 u.a)).setCell ⟨gc, 1, none⟩ (.int .i64 u.b)).setCell ⟨gc, 2, none⟩ (.int .i64 u.c)).cell? ⟨gc, 2, none⟩ = some (.int .i64 u.c) := sT3.out.cell 2
      have C9 := hide (((C8.out.put 0 u.a ⟨u.a, t.b, t.c⟩ rfl).put 1 u.b ⟨u.a, u.b, t.c⟩ rfl).put 2 u.c ⟨u.a, u.b, u.c⟩ rfl)
      have f3 := C9.out.z.cell 2
      refine wpAnyH_ready (rs := [9]) (by kernel_rfl) (by simp) ?_
      refine AllReadyH.cons rfl (fun K hK => ?_) AllReadyH.nil
      try simp only [Act.put, List.getElem_toArray, List.getElem_cons_succ, List.getElem_cons_zero, List.setIfInBounds_toArray, List.set_cons_zero, List.set_cons_succ]
      go_simp
      refine hK.out _ _ (f3) (fun hHeld => ?_)
      clear hK K
      try simp only [Act.put, List.getElem_toArray, List.getElem_cons_succ, List.getElem_cons_zero, List.setIfInBounds_toArray, List.set_cons_zero, List.set_cons_succ]
      refine wpAnyH_done (by kernel_rfl) ?_ _
      go_wp2_with fail
      go_meet
      exact ⟨u, C9.out.more (by omega), HU.out⟩
    have hB1 : (z == 1) = false := by simp [e1]
    have E1 := hide e1
    clear e1
    by_cases e2 : z = 2
    · have hB2 : (z == 2) = true := by simp [e2]
      have E2 := hide e2
      clear e2
      have m0 := C6.out.ch.cell 0
      have n0 := C6.out.ch.fro 0
      go_wp2_with fail
      go_meet
      have hok := HOK.out
      unfold CDr at hok
      exact ⟨⟨5000, t.b, t.c⟩, (C6.out.put 0 5000 _ rfl).more (by omega), by unfold CDr; dsimp only; omega⟩
    · have hB2 : (z == 2) = false := by simp [e2]
      have E2 := hide e2
      clear e2
      go_wp2_with fail
      go_meet
      exact ⟨t, C6.out.more (by omega), HOK.out⟩
  case rest =>
    obtain ⟨t', hc7, hok7⟩ := hcut
    have C7 := hide hc7.drew
    have HOK7 := hide hok7
    have hlt := C7.out.lt
    clear hc7 hok7 C6 HOK
    go_wp2_with fail
    have e0 : wc.drew.cell? ⟨gz, 0, none⟩ = some (.int .i64 x.z) := C7.out.z.cell 0
    have e1 : wc.drew.cell? ⟨gz, 1, none⟩ = some (.slice A x.of.length c) := C7.out.z.cell 1
    have e2 : wc.drew.cell? ⟨gz, 2, none⟩ = some (.slice A2 x.ch.length c2) := C7.out.z.cell 2
    have e3 : wc.drew.cell? ⟨gc, 0, none⟩ = some (.int .i64 t'.a) := C7.out.ch.cell 0
    have e4 : wc.drew.cell? ⟨gc, 1, none⟩ = some (.int .i64 t'.b) := C7.out.ch.cell 1
    have e5 : wc.drew.cell? ⟨gc, 2, none⟩ = some (.int .i64 t'.c) := C7.out.ch.cell 2
    refine wp_region_held_drew (S := fun W => W.cell? ⟨gz, 0, none⟩ = some (.int .i64 x.z) ∧ W.cell? ⟨gz, 1, none⟩ = some (.slice A x.of.length c) ∧ W.cell? ⟨gz, 2, none⟩ = some (.slice A2 x.ch.length c2) ∧ W.cell? ⟨gc, 0, none⟩ = some (.int .i64 t'.a) ∧ W.cell? ⟨gc, 1, none⟩ = some (.int .i64 t'.b) ∧ W.cell? ⟨gc, 2, none⟩ = some (.int .i64 t'.c)) (by kernel_rfl) (⟨e0, e1, e2, e3, e4, e5⟩) (fun hHeld => ?_)
    generalize wc.drew = wd at *
    have pT1 := hide (C7.out.r.set 0 (.int .i64 x.z))
    have pT2 := hide (pT1.out.set 1 (.slice A x.of.length c))
    have pT3 := hide (pT2.out.set 2 (.slice A2 x.ch.length c2))
    have pm0 : wd.cell? ⟨w.heap.size, 0, none⟩ = some (.int .i64 0) := C7.out.r.cell 0
    have pn0 := C7.out.r.fro 0
    have pm1 : (wd.setCell ⟨w.heap.size, 0, none⟩ (.int .i64 x.z)).cell? ⟨w.heap.size, 1, none⟩ = some (.slice none 0 0) := pT1.out.cell 1
    have pn1 := pT1.out.fro 1
    have pm2 : ((wd.setCell ⟨w.heap.size, 0, none⟩ (.int .i64 x.z)).setCell ⟨w.heap.size, 1, none⟩ (.slice A x.of.length c)).cell? ⟨w.heap.size, 2, none⟩ = some (.slice none 0 0) := pT2.out.cell 2
    have pn2 := pT2.out.fro 2
    have pq0 : (((wd.setCell ⟨w.heap.size, 0, none⟩ (.int .i64 x.z)).setCell ⟨w.heap.size, 1, none⟩ (.slice A x.of.length c)).setCell ⟨w.heap.size, 2, none⟩ (.slice A2 x.ch.length c2)).cell? ⟨w.heap.size, 0, none⟩ = some (.int .i64 x.z) := pT3.out.cell 0
    have pq1 : (((wd.setCell ⟨w.heap.size, 0, none⟩ (.int .i64 x.z)).setCell ⟨w.heap.size, 1, none⟩ (.slice A x.of.length c)).setCell ⟨w.heap.size, 2, none⟩ (.slice A2 x.ch.length c2)).cell? ⟨w.heap.size, 1, none⟩ = some (.slice A x.of.length c) := pT3.out.cell 1
    have pq2 : (((wd.setCell ⟨w.heap.size, 0, none⟩ (.int .i64 x.z)).setCell ⟨w.heap.size, 1, none⟩ (.slice A x.of.length c)).setCell ⟨w.heap.size, 2, none⟩ (.slice A2 x.ch.length c2)).cell? ⟨w.heap.size, 2, none⟩ = some (.slice A2 x.ch.length c2) := pT3.out.cell 2
    have ZA := hide (((C7.out.z.other (b' := w.heap.size) (by omega) 0 (.int .i64 x.z)).other (b' := w.heap.size) (by omega) 1 (.slice A x.of.length c)).other (b' := w.heap.size) (by omega) 2 (.slice A2 x.ch.length c2))
    have CA := hide (((C7.out.ch.other (b' := w.heap.size) (by omega) 0 (.int .i64 x.z)).other (b' := w.heap.size) (by omega) 1 (.slice A x.of.length c)).other (b' := w.heap.size) (by omega) 2 (.slice A2 x.ch.length c2))
    have RA := hide (((C7.out.r2.other (b' := w.heap.size) (by omega) 0 (.int .i64 x.z)).other (b' := w.heap.size) (by omega) 1 (.slice A x.of.length c)).other (b' := w.heap.size) (by omega) 2 (.slice A2 x.ch.length c2))
    have qT1 := hide (RA.out.set 0 (.int .i64 t'.a))
    have qT2 := hide (qT1.out.set 1 (.int .i64 t'.b))
    have qT3 := hide (qT2.out.set 2 (.int .i64 t'.c))
    have qm0 : (((wd.setCell ⟨w.heap.size, 0, none⟩ (.int .i64 x.z)).setCell ⟨w.heap.size, 1, none⟩ (.slice A x.of.length c)).setCell ⟨w.heap.size, 2, none⟩ (.slice A2 x.ch.length c2)).cell? ⟨w.heap.size + 1, 0, none⟩ = some (.int .i64 0) := RA.out.cell 0
    have qn0 := RA.out.fro 0
    have qm1 : ((((wd.setCell ⟨w.heap.size, 0, none⟩ (.int .i64 x.z)).setCell ⟨w.heap.size, 1, none⟩ (.slice A x.of.length c)).setCell ⟨w.heap.size, 2, none⟩ (.slice A2 x.ch.length c2)).setCell ⟨w.heap.size + 1, 0, none⟩ (.int .i64 t'.a)).cell? ⟨w.heap.size + 1, 1, none⟩ = some (.int .i64 0) := qT1.out.cell 1
    have qn1 := qT1.out.fro 1
    have qm2 : (((((wd.setCell ⟨w.heap.size, 0, none⟩ (.int .i64 x.z)).setCell ⟨w.heap.size, 1, none⟩ (.slice A x.of.length c)).setCell ⟨w.heap.size, 2, none⟩ (.slice A2 x.ch.length c2)).setCell ⟨w.heap.size + 1, 0, none⟩ (.int .i64 t'.a)).setCell ⟨w.heap.size + 1, 1, none⟩ (.int .i64 t'.b)).cell? ⟨w.heap.size + 1, 2, none⟩ = some (.int .i64 0) := qT2.out.cell 2
    have qn2 := qT2.out.fro 2
    have qq0 : ((((((wd.setCell ⟨w.heap.size, 0, none⟩ (.int .i64 x.z)).setCell ⟨w.heap.size, 1, none⟩ (.slice A x.of.length c)).setCell ⟨w.heap.size, 2, none⟩ (.slice A2 x.ch.length c2)).setCell ⟨w.heap.size + 1, 0, none⟩ (.int .i64 t'.a)).setCell ⟨w.heap.size + 1, 1, none⟩ (.int .i64 t'.b)).setCell ⟨w.heap.size + 1, 2, none⟩ (.int .i64 t'.c)).cell? ⟨w.heap.size + 1, 0, none⟩ = some (.int .i64 t'.a) := qT3.out.cell 0
    have qq1 : ((((((wd.setCell ⟨w.heap.size, 0, none⟩ (.int .i64 x.z)).setCell ⟨w.heap.size, 1, none⟩ (.slice A x.of.length c)).setCell ⟨w.heap.size, 2, none⟩ (.slice A2 x.ch.length c2)).setCell ⟨w.heap.size + 1, 0, none⟩ (.int .i64 t'.a)).setCell ⟨w.heap.size + 1, 1, none⟩ (.int .i64 t'.b)).setCell ⟨w.heap.size + 1, 2, none⟩ (.int .i64 t'.c)).cell? ⟨w.heap.size + 1, 1, none⟩ = some (.int .i64 t'.b) := qT3.out.cell 1
    have qq2 : ((((((wd.setCell ⟨w.heap.size, 0, none⟩ (.int .i64 x.z)).setCell ⟨w.heap.size, 1, none⟩ (.slice A x.of.length c)).setCell ⟨w.heap.size, 2, none⟩ (.slice A2 x.ch.length c2)).setCell ⟨w.heap.size + 1, 0, none⟩ (.int .i64 t'.a)).setCell ⟨w.heap.size + 1, 1, none⟩ (.int .i64 t'.b)).setCell ⟨w.heap.size + 1, 2, none⟩ (.int .i64 t'.c)).cell? ⟨w.heap.size + 1, 2, none⟩ = some (.int .i64 t'.c) := qT3.out.cell 2
    have ZB := hide (((ZA.out.other (b' := w.heap.size + 1) (by omega) 0 (.int .i64 t'.a)).other (b' := w.heap.size + 1) (by omega) 1 (.int .i64 t'.b)).other (b' := w.heap.size + 1) (by omega) 2 (.int .i64 t'.c))
    have CB := hide (((CA.out.other (b' := w.heap.size + 1) (by omega) 0 (.int .i64 t'.a)).other (b' := w.heap.size + 1) (by omega) 1 (.int .i64 t'.b)).other (b' := w.heap.size + 1) (by omega) 2 (.int .i64 t'.c))
    have RB := hide (((pT3.out.other (b' := w.heap.size + 1) (by omega) 0 (.int .i64 t'.a)).other (b' := w.heap.size + 1) (by omega) 1 (.int .i64 t'.b)).other (b' := w.heap.size + 1) (by omega) 2 (.int .i64 t'.c))
    have u0 := RB.out.cell 0
    have u1 := RB.out.cell 1
    have u2 := RB.out.cell 2
    refine wpAnyH_take (i := 0) (v := ?_) rfl (by kernel_rfl) (by kernel_rfl) (by kernel_rfl) (fun _ _ _ h => h) (Or.inl ⟨by rfl, ?_⟩) (by assumption) ?_
    rotate_left 1
    · (intro w hSw; (try dsimp only at hSw); go_simp; try with_reducible rfl)
    try simp only [Act.put, List.getElem_toArray, List.getElem_cons_succ, List.getElem_cons_zero, List.setIfInBounds_toArray, List.set_cons_zero, List.set_cons_succ]
    refine wpAnyH_take (i := 1) (v := ?_) rfl (by kernel_rfl) (by kernel_rfl) (by kernel_rfl) (fun _ _ _ h => h) (Or.inl ⟨by rfl, ?_⟩) (by assumption) ?_
    rotate_left 1
    · (intro w hSw; (try dsimp only at hSw); go_simp; try with_reducible rfl)
    try simp only [Act.put, List.getElem_toArray, List.getElem_cons_succ, List.getElem_cons_zero, List.setIfInBounds_toArray, List.set_cons_zero, List.set_cons_succ]
    refine wpAnyH_ready (rs := [2]) (by kernel_rfl) (by simp) ?_
    refine AllReadyH.cons rfl (fun K hK => ?_) AllReadyH.nil
    try simp only [Act.put, List.getElem_toArray, List.getElem_cons_succ, List.getElem_cons_zero, List.setIfInBounds_toArray, List.set_cons_zero, List.set_cons_succ]
    go_simp
    refine hK.out _ _ (⟨(ZA.out.cell 0).trans rfl, (ZA.out.cell 1).trans rfl, (ZA.out.cell 2).trans rfl, (CA.out.cell 0).trans rfl, (CA.out.cell 1).trans rfl, (CA.out.cell 2).trans rfl⟩) (fun hHeld => ?_)
    clear hK K
    try simp only [Act.put, List.getElem_toArray, List.getElem_cons_succ, List.getElem_cons_zero, List.setIfInBounds_toArray, List.set_cons_zero, List.set_cons_succ]
    refine wpAnyH_ready (rs := [3]) (by kernel_rfl) (by simp) ?_
    refine AllReadyH.cons rfl (fun K hK => ?_) AllReadyH.nil
    try simp only [Act.put, List.getElem_toArray, List.getElem_cons_succ, List.getElem_cons_zero, List.setIfInBounds_toArray, List.set_cons_zero, List.set_cons_succ]
    go_simp
    refine hK.out _ _ (⟨(ZB.out.cell 0).trans rfl, (ZB.out.cell 1).trans rfl, (ZB.out.cell 2).trans rfl, (CB.out.cell 0).trans rfl, (CB.out.cell 1).trans rfl, (CB.out.cell 2).trans rfl⟩) (fun hHeld => ?_)
    clear hK K
    try simp only [Act.put, List.getElem_toArray, List.getElem_cons_succ, List.getElem_cons_zero, List.setIfInBounds_toArray, List.set_cons_zero, List.set_cons_succ]
    refine wpAnyH_done (by kernel_rfl) ?_ _
    go_wp2_with fail
    have hro := C7.out.ro
    have hrc := C7.out.rc
    have q1 := hro.lt
    have q2 := hrc.lt
    replace hro := hro.kept (grown_setCell _ ⟨w.heap.size, 0, none⟩ (.int .i64 x.z)) (.inr fun e => by have := (q1 _ e).1; (try dsimp only at this); omega)
    replace hro := hro.kept (grown_setCell _ ⟨w.heap.size, 1, none⟩ (.slice A x.of.length c)) (.inr fun e => by have := (q1 _ e).1; (try dsimp only at this); omega)
    replace hro := hro.kept (grown_setCell _ ⟨w.heap.size, 2, none⟩ (.slice A2 x.ch.length c2)) (.inr fun e => by have := (q1 _ e).1; (try dsimp only at this); omega)
    replace hro := hro.kept (grown_setCell _ ⟨w.heap.size + 1, 0, none⟩ (.int .i64 t'.a)) (.inr fun e => by have := (q1 _ e).1; (try dsimp only at this); omega)
    replace hro := hro.kept (grown_setCell _ ⟨w.heap.size + 1, 1, none⟩ (.int .i64 t'.b)) (.inr fun e => by have := (q1 _ e).1; (try dsimp only at this); omega)
    replace hro := hro.kept (grown_setCell _ ⟨w.heap.size + 1, 2, none⟩ (.int .i64 t'.c)) (.inr fun e => by have := (q1 _ e).1; (try dsimp only at this); omega)
    replace hrc := hrc.kept (grown_setCell _ ⟨w.heap.size, 0, none⟩ (.int .i64 x.z)) (.inr fun e => by have := (q2 _ e).1; (try dsimp only at this); omega)
    replace hrc := hrc.kept (grown_setCell _ ⟨w.heap.size, 1, none⟩ (.slice A x.of.length c)) (.inr fun e => by have := (q2 _ e).1; (try dsimp only at this); omega)
    replace hrc := hrc.kept (grown_setCell _ ⟨w.heap.size, 2, none⟩ (.slice A2 x.ch.length c2)) (.inr fun e => by have := (q2 _ e).1; (try dsimp only at this); omega)
    replace hrc := hrc.kept (grown_setCell _ ⟨w.heap.size + 1, 0, none⟩ (.int .i64 t'.a)) (.inr fun e => by have := (q2 _ e).1; (try dsimp only at this); omega)
    replace hrc := hrc.kept (grown_setCell _ ⟨w.heap.size + 1, 1, none⟩ (.int .i64 t'.b)) (.inr fun e => by have := (q2 _ e).1; (try dsimp only at this); omega)
    replace hrc := hrc.kept (grown_setCell _ ⟨w.heap.size + 1, 2, none⟩ (.int .i64 t'.c)) (.inr fun e => by have := (q2 _ e).1; (try dsimp only at this); omega)
    refine bodyPost_ret (v := .tuple #[.agg #[.int .i64 x.z, .slice A x.of.length c, .slice A2 x.ch.length c2], .agg #[.int .i64 t'.a, .int .i64 t'.b, .int .i64 t'.c]]) (by simp [results, Tryd.results30, go_sem, u0, u1, u2, qq0, qq1, qq2]) rfl ⟨x, A, c, A2, c2, t', rfl, HOK7.out, RdI.of_own hro, Rd.of_own hrc, HBX.out, C7.out.cap, ?_⟩
    exact set_nil (set_nil (set_nil (set_nil (set_nil (set_nil C7.out.bel 0 _ (Nat.le_refl _)) 1 _ (Nat.le_refl _)) 2 _ (Nat.le_refl _)) 0 _ (by omega)) 1 _ (by omega)) 2 _ (by omega)
end Go.Proofs.YtofjnmeblmbnmaaDoor
