/-
  Zones for oneself.
-/
import Derived.Test.YtofjnmeblmbnmaaDoorQLevels5
import Derived.Test.YtofjnmeblmbnmaaDoorQLevels8
import Derived.Deep.RegionHeld3
namespace Go.Proofs.YtofjnmeblmbnmaaDoor
open Go.RowKit
theorem Change_inf : (Tryd.prog.info? 41).map (fun i => (i.zero, i.size, i.bytes)) = some (some (.agg #[.int .i64 0, .int .i64 0, .int .i64 0]), 3, 24) := by kernel_rfl
set_option maxRecDepth 100000 in
set_option maxHeartbeats 8000000 in
theorem l09Own_any (x : TZ) (A : Option Addr) (c : Nat) (A2 : Option Addr) (c2 : Nat) (b : Nat) (w : World) (hs : Small_Zoned x) (X : BoxN w b #[.int .i64 x.z, .slice A x.of.length c, .slice A2 x.ch.length c2] 47) (h1 : RdI w w.heap.size A x.of) (h2 : Rd3 w w.heap.size A2 x.ch) :
    Calls Tryd.prog 89 #[.pointer (some ⟨b, 0, none⟩)] w fun e w' => ∃ (A' : Option Addr) (c' : Nat) (A2' : Option Addr) (c2' : Nat), e = .returned (.agg #[.int .i64 x.z, .slice A' x.of.length c', .slice A2' x.ch.length c2']) ∧
      w'.ownsRow w.heap.size 2 1 (.slice A' x.of.length c') x.of.length (x.of.map (Value.int .i64)) ∧ w'.ownsRow w.heap.size 41 3 (.slice A2' x.ch.length c2') x.ch.length (x.ch.flatMap T3.cells) ∧
      (∀ g, (Value.slice A' x.of.length c').ownBlock = some g → (Value.slice A2' x.ch.length c2').ownBlock ≠ some g) ∧ Below w.heap.size w w' := by
  obtain ⟨i0, hi0, hz0, hs0, hb0⟩ := info_parts Change_inf
  have hxl := X.lt
  obtain ⟨hs1, hs2⟩ := hs
  have X0 := hide (X.alloc (.cells #[.int .i64 0, .slice none 0 0, .slice none 0 0] 47))
  have Y0 := hide (BoxN.new w #[.int .i64 0, .slice none 0 0, .slice none 0 0] 47)
  have b0 : Below w.heap.size w (w.alloc (.cells #[.int .i64 0, .slice none 0 0, .slice none 0 0] 47)) := (Below.refl _ _).alloc (Nat.le_refl _) _
  have HX := hide h1; have HM := hide h2
  have hz : (w.alloc (.cells #[.int .i64 0, .slice none 0 0, .slice none 0 0] 47)).heap.size = w.heap.size + 1 := by simp
  clear h1 h2 X
  go_enter Tryd.func89, Tryd.ntmps89
  go_wp2_with fail
  have BD := hide b0.drew
  have XD := hide (X0.out.below (Below.refl _ _).drew X0.out.lt)
  have YD := hide (Y0.out.below (Below.refl _ _).drew Y0.out.lt)
  have e0 := XD.out.cell 0
  have e1 := XD.out.cell 1
  have e2 := XD.out.cell 2
  have hzd : w.heap.size + 1 ≤ (w.alloc (.cells #[.int .i64 0, .slice none 0 0, .slice none 0 0] 47)).drew.heap.size := Nat.le_of_eq hz.symm
  clear b0 X0 Y0 hz
  refine wp_region_held_drew (S := fun W => W.cell? ⟨b, 0, none⟩ = some (.int .i64 x.z) ∧ W.cell? ⟨b, 1, none⟩ = some (.slice A x.of.length c) ∧ W.cell? ⟨b, 2, none⟩ = some (.slice A2 x.ch.length c2)) (by kernel_rfl) (⟨e0, e1, e2⟩) (fun hHeld => ?_)
  generalize (w.alloc (.cells #[.int .i64 0, .slice none 0 0, .slice none 0 0] 47)).drew = wd at *
  clear e0 e1 e2
  have HO := hide fun W (hW : Below wd.heap.size wd W) => own00_any x.of A c W hs1 ((HX.out.below (BD.out.trans (hW.mono BD.out.size))).more (BD.out.trans (hW.mono BD.out.size)).size)
  have HR2 := hide fun W (hW : Below wd.heap.size wd W) => ((HM.out.below (BD.out.trans (hW.mono BD.out.size))).more (BD.out.trans (hW.mono BD.out.size)).size)
  have hnw : ∀ {e : TypeId} {sz n : Nat} {v : Value} {xs : List Value} (w6 : World), w6.ownsRow (w.heap.size + 1) e sz v n xs → v.ownBlock ≠ some w.heap.size := fun w6 h e => by have := (h.lt _ e).1; omega
  refine wpAnyH_take (i := 0) (v := ?_) rfl (by kernel_rfl) (by kernel_rfl) (by kernel_rfl) (fun _ _ _ h => h) (Or.inl ⟨by rfl, ?_⟩) (by assumption) ?_
  rotate_left 1
  · (intro w hSw; (try dsimp only at hSw); go_simp; try with_reducible rfl)
  try simp only [Act.put, List.getElem_toArray, List.getElem_cons_succ, List.getElem_cons_zero, List.setIfInBounds_toArray, List.set_cons_zero, List.set_cons_succ]
  refine wpAnyH_take (i := 1) (v := ?_) rfl (by kernel_rfl) (by kernel_rfl) (by kernel_rfl) (fun _ _ _ h => h) (Or.inl ⟨by rfl, ?_⟩) (by assumption) ?_
  rotate_left 1
  · (intro w hSw; (try dsimp only at hSw); go_simp; try with_reducible rfl)
  try simp only [Act.put, List.getElem_toArray, List.getElem_cons_succ, List.getElem_cons_zero, List.setIfInBounds_toArray, List.set_cons_zero, List.set_cons_succ]
  refine wpAnyH_take (i := 2) (v := ?_) rfl (by kernel_rfl) (by kernel_rfl) (by kernel_rfl) (fun _ _ _ h => h) (Or.inl ⟨by rfl, ?_⟩) (by assumption) ?_
  rotate_left 1
  · (intro w hSw; (try dsimp only at hSw); go_simp; try with_reducible rfl)
  try simp only [Act.put, List.getElem_toArray, List.getElem_cons_succ, List.getElem_cons_zero, List.setIfInBounds_toArray, List.set_cons_zero, List.set_cons_succ]
  refine wpAnyH_take (i := 3) (v := ?_) rfl (by kernel_rfl) (by kernel_rfl) (by kernel_rfl) (fun _ _ _ h => h) (Or.inl ⟨by rfl, ?_⟩) (by assumption) ?_
  rotate_left 1
  · (intro w hSw; (try dsimp only at hSw); go_simp; try with_reducible rfl)
  try simp only [Act.put, List.getElem_toArray, List.getElem_cons_succ, List.getElem_cons_zero, List.setIfInBounds_toArray, List.set_cons_zero, List.set_cons_succ]
  refine wpAnyH_take (i := 4) (v := ?_) rfl (by kernel_rfl) (by kernel_rfl) (by kernel_rfl) (fun _ _ _ h => h) (Or.inl ⟨by rfl, ?_⟩) (by assumption) ?_
  rotate_left 1
  · (intro w hSw; (try dsimp only at hSw); go_simp; try with_reducible rfl)
  try simp only [Act.put, List.getElem_toArray, List.getElem_cons_succ, List.getElem_cons_zero, List.setIfInBounds_toArray, List.set_cons_zero, List.set_cons_succ]
  refine wpAnyH_take (i := 5) (v := ?_) rfl (by kernel_rfl) (by kernel_rfl) (by kernel_rfl) (fun _ _ _ h => h) (Or.inl ⟨by rfl, ?_⟩) (by assumption) ?_
  rotate_left 1
  · (intro w hSw; (try dsimp only at hSw); go_simp; try with_reducible rfl)
  try simp only [Act.put, List.getElem_toArray, List.getElem_cons_succ, List.getElem_cons_zero, List.setIfInBounds_toArray, List.set_cons_zero, List.set_cons_succ]
  refine wpAnyH_take (i := 6) (v := ?_) rfl (by kernel_rfl) (by kernel_rfl) (by kernel_rfl) (fun _ _ _ h => h) (Or.inl ⟨by rfl, ?_⟩) (by assumption) ?_
  rotate_left 1
  · (intro w hSw; (try dsimp only at hSw); go_simp; try with_reducible rfl)
  try simp only [Act.put, List.getElem_toArray, List.getElem_cons_succ, List.getElem_cons_zero, List.setIfInBounds_toArray, List.set_cons_zero, List.set_cons_succ]
  refine wpAnyH_take (i := 7) (v := ?_) rfl (by kernel_rfl) (by kernel_rfl) (by kernel_rfl) (fun _ _ _ h => h) (Or.inl ⟨by rfl, ?_⟩) (by assumption) ?_
  rotate_left 1
  · (intro w hSw; (try dsimp only at hSw); go_simp; try with_reducible rfl)
  try simp only [Act.put, List.getElem_toArray, List.getElem_cons_succ, List.getElem_cons_zero, List.setIfInBounds_toArray, List.set_cons_zero, List.set_cons_succ]
  refine wpAnyH_take (i := 10) (v := ?_) rfl (by kernel_rfl) (by kernel_rfl) (by kernel_rfl) (fun _ _ _ h => h) (Or.inl ⟨by rfl, ?_⟩) (by assumption) ?_
  rotate_left 1
  · (intro w hSw; (try dsimp only at hSw); go_simp; try with_reducible rfl)
  try simp only [Act.put, List.getElem_toArray, List.getElem_cons_succ, List.getElem_cons_zero, List.setIfInBounds_toArray, List.set_cons_zero, List.set_cons_succ]
  refine wpAnyH_take (i := 11) (v := ?_) rfl (by kernel_rfl) (by kernel_rfl) (by kernel_rfl) (fun _ _ _ h => h) (Or.inl ⟨by rfl, ?_⟩) (by assumption) ?_
  rotate_left 1
  · (intro w hSw; (try dsimp only at hSw); go_simp; try with_reducible rfl)
  try simp only [Act.put, List.getElem_toArray, List.getElem_cons_succ, List.getElem_cons_zero, List.setIfInBounds_toArray, List.set_cons_zero, List.set_cons_succ]
  refine wpAnyH_take (i := 12) (v := ?_) rfl (by kernel_rfl) (by kernel_rfl) (by kernel_rfl) (fun _ _ _ h => h) (Or.inl ⟨by rfl, ?_⟩) (by assumption) ?_
  rotate_left 1
  · (intro w hSw; (try dsimp only at hSw); go_simp; try with_reducible rfl)
  try simp only [Act.put, List.getElem_toArray, List.getElem_cons_succ, List.getElem_cons_zero, List.setIfInBounds_toArray, List.set_cons_zero, List.set_cons_succ]
  refine wpAnyH_take (i := 13) (v := ?_) rfl (by kernel_rfl) (by kernel_rfl) (by kernel_rfl) (fun _ _ _ h => h) (Or.inl ⟨by rfl, ?_⟩) (by assumption) ?_
  rotate_left 1
  · (intro w hSw; (try dsimp only at hSw); go_simp; try with_reducible rfl)
  try simp only [Act.put, List.getElem_toArray, List.getElem_cons_succ, List.getElem_cons_zero, List.setIfInBounds_toArray, List.set_cons_zero, List.set_cons_succ]
  refine wpAnyH_ready (rs := [8, 9]) (by kernel_rfl) (by simp) ?_
  refine AllReadyH.cons rfl (fun K hK => ?_) (AllReadyH.cons rfl (fun K hK => ?_) AllReadyH.nil)
  · try simp only [Act.put, List.getElem_toArray, List.getElem_cons_succ, List.getElem_cons_zero, List.setIfInBounds_toArray, List.set_cons_zero, List.set_cons_succ]
    go_simp
    go_at_call 113
    refine (HO.out wd (Below.refl _ _)).mono ?_
    rintro e w4 ⟨A', c', rfl, hrow1, b4⟩
    have X4 := hide (XD.out.below b4 XD.out.lt)
    have Y4 := hide (YD.out.below b4 YD.out.lt)
    dsimp only
    refine hK.out _ _ (⟨(X4.out.cell 0).trans rfl, (X4.out.cell 1).trans rfl, (X4.out.cell 2).trans rfl⟩) (fun hHeld => ?_)
    clear hK K
    try simp only [Act.put, List.getElem_toArray, List.getElem_cons_succ, List.getElem_cons_zero, List.setIfInBounds_toArray, List.set_cons_zero, List.set_cons_succ]
    refine wpAnyH_ready (rs := [9]) (by kernel_rfl) (by simp) ?_
    refine AllReadyH.cons rfl (fun K hK => ?_) AllReadyH.nil
    try simp only [Act.put, List.getElem_toArray, List.getElem_cons_succ, List.getElem_cons_zero, List.setIfInBounds_toArray, List.set_cons_zero, List.set_cons_succ]
    go_simp
    have X5 := hide (X4.out.alloc (.cells #[] 41))
    have Y5 := hide (Y4.out.alloc (.cells #[] 41))
    have hr1 := (own_base hrow1 hzd).alloc (.cells #[] 41)
    have hr0 : (w4.alloc (.cells #[] 41)).ownsRow (w.heap.size + 1) 41 3 (.slice (some ⟨w4.heap.size, 0, none⟩) 0 0) 0 [] := own_new0 w4 _ _ _ (by have := b4.size; omega)
    have b5 := b4.alloc b4.size (.cells #[] 41)
    have hne : ∀ g, (Value.slice A' x.of.length c').ownBlock = some g → g ≠ w4.heap.size := fun g e => by have := (hrow1.lt g e).2; omega
    have hz5 : (w4.alloc (.cells #[] 41)).heap.size = w4.heap.size + 1 := by simp
    generalize w4.alloc (.cells #[] 41) = w5 at *
    have hb1 : wd.heap.size ≤ w4.heap.size := b4.size
    generalize w4.heap.size = gc at *
    refine hK.out _ _ (⟨(X5.out.cell 0).trans rfl, (X5.out.cell 1).trans rfl, (X5.out.cell 2).trans rfl⟩) (fun hHeld => ?_)
    clear hK K
    try simp only [Act.put, List.getElem_toArray, List.getElem_cons_succ, List.getElem_cons_zero, List.setIfInBounds_toArray, List.set_cons_zero, List.set_cons_succ]
    have R2 := (HR2.out w5 b5)
    have hsz5 : w.heap.size + 1 ≤ w5.heap.size := by have := b5.size; omega
    refine wpAnyH_ready (rs := [14]) (by kernel_rfl) (by simp) ?_
    refine AllReadyH.cons rfl (fun K hK => ?_) AllReadyH.nil
    try simp only [Act.put, List.getElem_toArray, List.getElem_cons_succ, List.getElem_cons_zero, List.setIfInBounds_toArray, List.set_cons_zero, List.set_cons_succ]
    rw [if_pos (by rfl)]
    refine op_app _ _ _ 45 rfl (w.heap.size + 1) 41 i0 (.agg #[.int .i64 0, .int .i64 0, .int .i64 0]) 3 24 Tryd.underlying45 hi0 hz0 hs0 hb0 rfl (by decide) _ _ _ rfl hr0 _ _ x.ch.length c2 _ rfl (flatMap_len T3.cells 3 (fun _ => rfl) x.ch) R2 (T3.ones _) (by omega) (by decide) hsz5 ?_
    intro v2 w6 hrow2 hgrow hat
    simp only [Nat.zero_add, List.nil_append] at hrow2
    obtain ⟨A2', c2', rfl, _⟩ := own_shape hrow2
    have hr6 := hr1.kept hgrow (by cases h9 : (Value.slice A' x.of.length c').ownBlock with | none => exact .inl rfl | some g => exact .inr (fun e => hne g h9 (Option.some.inj e)))
    have X6 := hide (show BoxN w6 b #[.int .i64 x.z, .slice A x.of.length c, .slice A2 x.ch.length c2] 47 from (hgrow.block b X5.out.lt (fun e => by have := Option.some.inj e; (try dsimp only at this); omega)).trans X5.out)
    have Y6 := hide (show BoxN w6 w.heap.size #[.int .i64 0, .slice none 0 0, .slice none 0 0] 47 from (hgrow.block _ Y5.out.lt (fun e => by have := Option.some.inj e; (try dsimp only at this); omega)).trans Y5.out)
    have b6 : Below wd.heap.size wd w6 := b5.grown hgrow (by have := b5.size; omega) (fun k hk => by have := Option.some.inj hk; (try dsimp only at this); omega)
    have hap : ∀ g, (Value.slice A' x.of.length c').ownBlock = some g → (Value.slice A2' x.ch.length c2').ownBlock ≠ some g := fun g e e2 => by
      rcases hat with h | h
      · rw [h] at e2; exact hne g e (Option.some.inj e2).symm
      · rw [h] at e2; have := (hr1.lt g e).2; have := Option.some.inj e2; omega
    dsimp only
    refine hK.out _ _ (⟨(X6.out.cell 0).trans rfl, (X6.out.cell 1).trans rfl, (X6.out.cell 2).trans rfl⟩) (fun hHeld => ?_)
    clear hK K
    try simp only [Act.put, List.getElem_toArray, List.getElem_cons_succ, List.getElem_cons_zero, List.setIfInBounds_toArray, List.set_cons_zero, List.set_cons_succ]
    refine wpAnyH_take (i := 15) (v := ?_) rfl (by kernel_rfl) (by kernel_rfl) (by kernel_rfl) (fun _ _ _ h => h) (Or.inl ⟨by rfl, ?_⟩) (by assumption) ?_
    rotate_left 1
    · (intro w hSw; (try dsimp only at hSw); go_simp; try with_reducible rfl)
    try simp only [Act.put, List.getElem_toArray, List.getElem_cons_succ, List.getElem_cons_zero, List.setIfInBounds_toArray, List.set_cons_zero, List.set_cons_succ]
    have T1 := hide (Y6.out.set 0 (.int .i64 x.z))
    have T2 := hide (T1.out.set 1 (.slice A' x.of.length c'))
    have T3' := hide (T2.out.set 2 (.slice A2' x.ch.length c2'))
    have m0 : w6.cell? ⟨w.heap.size, 0, none⟩ = some (.int .i64 0) := Y6.out.cell 0
    have n0' := Y6.out.fro 0
    have m1 : (w6.setCell ⟨w.heap.size, 0, none⟩ (.int .i64 x.z)).cell? ⟨w.heap.size, 1, none⟩ = some (.slice none 0 0) := T1.out.cell 1
    have n1 := T1.out.fro 1
    have m2 : ((w6.setCell ⟨w.heap.size, 0, none⟩ (.int .i64 x.z)).setCell ⟨w.heap.size, 1, none⟩ (.slice A' x.of.length c')).cell? ⟨w.heap.size, 2, none⟩ = some (.slice none 0 0) := T2.out.cell 2
    have n2 := T2.out.fro 2
    refine wpAnyH_ready (rs := [16]) (by kernel_rfl) (by simp) ?_
    refine AllReadyH.cons rfl (fun K hK => ?_) AllReadyH.nil
    try simp only [Act.put, List.getElem_toArray, List.getElem_cons_succ, List.getElem_cons_zero, List.setIfInBounds_toArray, List.set_cons_zero, List.set_cons_succ]
    go_simp
    have X9 := ((X6.out.other (b' := w.heap.size) (by omega) 0 (.int .i64 x.z)).other (b' := w.heap.size) (by omega) 1 (.slice A' x.of.length c')).other (b' := w.heap.size) (by omega) 2 (.slice A2' x.ch.length c2')
    refine hK.out _ _ (⟨(X9.cell 0).trans rfl, (X9.cell 1).trans rfl, (X9.cell 2).trans rfl⟩) (fun hHeld => ?_)
    clear hK K
    try simp only [Act.put, List.getElem_toArray, List.getElem_cons_succ, List.getElem_cons_zero, List.setIfInBounds_toArray, List.set_cons_zero, List.set_cons_succ]
    refine wpAnyH_done (by kernel_rfl) ?_ _
    go_wp2_with fail
    have q0 : (((w6.setCell ⟨w.heap.size, 0, none⟩ (.int .i64 x.z)).setCell ⟨w.heap.size, 1, none⟩ (.slice A' x.of.length c')).setCell ⟨w.heap.size, 2, none⟩ (.slice A2' x.ch.length c2')).cell? ⟨w.heap.size, 0, none⟩ = some (.int .i64 x.z) := T3'.out.cell 0
    have q1 : (((w6.setCell ⟨w.heap.size, 0, none⟩ (.int .i64 x.z)).setCell ⟨w.heap.size, 1, none⟩ (.slice A' x.of.length c')).setCell ⟨w.heap.size, 2, none⟩ (.slice A2' x.ch.length c2')).cell? ⟨w.heap.size, 1, none⟩ = some (.slice A' x.of.length c') := T3'.out.cell 1
    have q2 : (((w6.setCell ⟨w.heap.size, 0, none⟩ (.int .i64 x.z)).setCell ⟨w.heap.size, 1, none⟩ (.slice A' x.of.length c')).setCell ⟨w.heap.size, 2, none⟩ (.slice A2' x.ch.length c2')).cell? ⟨w.heap.size, 2, none⟩ = some (.slice A2' x.ch.length c2') := T3'.out.cell 2
    have K1 := (((hr6.kept (grown_setCell w6 ⟨w.heap.size, 0, none⟩ (.int .i64 x.z)) (.inr (hnw _ hr6))).kept (grown_setCell _ ⟨w.heap.size, 1, none⟩ (.slice A' x.of.length c')) (.inr (hnw _ hr6))).kept (grown_setCell _ ⟨w.heap.size, 2, none⟩ (.slice A2' x.ch.length c2')) (.inr (hnw _ hr6)))
    have K2 := (((hrow2.kept (grown_setCell w6 ⟨w.heap.size, 0, none⟩ (.int .i64 x.z)) (.inr (hnw _ hrow2))).kept (grown_setCell _ ⟨w.heap.size, 1, none⟩ (.slice A' x.of.length c')) (.inr (hnw _ hrow2))).kept (grown_setCell _ ⟨w.heap.size, 2, none⟩ (.slice A2' x.ch.length c2')) (.inr (hnw _ hrow2)))
    have B9 := ((((BD.out.trans (b6.mono BD.out.size)).setCell (p := ⟨w.heap.size, 0, none⟩) (Nat.le_refl _) (.int .i64 x.z)).setCell (p := ⟨w.heap.size, 1, none⟩) (Nat.le_refl _) (.slice A' x.of.length c')).setCell (p := ⟨w.heap.size, 2, none⟩) (Nat.le_refl _) (.slice A2' x.ch.length c2'))
    exact bodyPost_ret (v := .agg #[.int .i64 x.z, .slice A' x.of.length c', .slice A2' x.ch.length c2']) (by simp [results, Tryd.results89, go_sem, q0, q1, q2]) rfl ⟨A', c', A2', c2', rfl, own_base K1 (by omega), own_base K2 (by omega), hap, B9⟩
  · try simp only [Act.put, List.getElem_toArray, List.getElem_cons_succ, List.getElem_cons_zero, List.setIfInBounds_toArray, List.set_cons_zero, List.set_cons_succ]
    go_simp
    have X4 := hide (XD.out.alloc (.cells #[] 41))
    have Y4 := hide (YD.out.alloc (.cells #[] 41))
    have b4 : Below wd.heap.size wd (wd.alloc (.cells #[] 41)) := (Below.refl _ _).alloc (Nat.le_refl _) _
    have hr00 := own_new0 wd (w.heap.size + 1) 41 3 hzd
    have hz4 : (wd.alloc (.cells #[] 41)).heap.size = wd.heap.size + 1 := by simp
    have HO4 := hide (HO.out _ b4)
    generalize wd.alloc (.cells #[] 41) = w4 at *
    have hb1 : wd.heap.size ≤ wd.heap.size := Nat.le_refl _
    refine hK.out _ _ (⟨(X4.out.cell 0).trans rfl, (X4.out.cell 1).trans rfl, (X4.out.cell 2).trans rfl⟩) (fun hHeld => ?_)
    clear hK K
    try simp only [Act.put, List.getElem_toArray, List.getElem_cons_succ, List.getElem_cons_zero, List.setIfInBounds_toArray, List.set_cons_zero, List.set_cons_succ]
    refine wpAnyH_ready (rs := [8]) (by kernel_rfl) (by simp) ?_
    refine AllReadyH.cons rfl (fun K hK => ?_) AllReadyH.nil
    try simp only [Act.put, List.getElem_toArray, List.getElem_cons_succ, List.getElem_cons_zero, List.setIfInBounds_toArray, List.set_cons_zero, List.set_cons_succ]
    go_simp
    go_at_call 113
    refine (HO4.out).mono ?_
    rintro e w5 ⟨A', c', rfl, hrow1, b45⟩
    have X5 := hide (X4.out.below b45 X4.out.lt)
    have Y5 := hide (Y4.out.below b45 Y4.out.lt)
    have hr1 := own_base hrow1 (Nat.le_trans hzd b4.size)
    have hr0 := own_below hr00 b45 (Nat.le_refl _)
    have b5 := b4.trans (b45.mono b4.size)
    have hne : ∀ g, (Value.slice A' x.of.length c').ownBlock = some g → g ≠ wd.heap.size := fun g e => by have := (hrow1.lt g e).1; omega
    dsimp only
    refine hK.out _ _ (⟨(X5.out.cell 0).trans rfl, (X5.out.cell 1).trans rfl, (X5.out.cell 2).trans rfl⟩) (fun hHeld => ?_)
    clear hK K
    try simp only [Act.put, List.getElem_toArray, List.getElem_cons_succ, List.getElem_cons_zero, List.setIfInBounds_toArray, List.set_cons_zero, List.set_cons_succ]
    have R2 := (HR2.out w5 b5)
    have hsz5 : w.heap.size + 1 ≤ w5.heap.size := by have := b5.size; omega
    refine wpAnyH_ready (rs := [14]) (by kernel_rfl) (by simp) ?_
    refine AllReadyH.cons rfl (fun K hK => ?_) AllReadyH.nil
    try simp only [Act.put, List.getElem_toArray, List.getElem_cons_succ, List.getElem_cons_zero, List.setIfInBounds_toArray, List.set_cons_zero, List.set_cons_succ]
    rw [if_pos (by rfl)]
    refine op_app _ _ _ 45 rfl (w.heap.size + 1) 41 i0 (.agg #[.int .i64 0, .int .i64 0, .int .i64 0]) 3 24 Tryd.underlying45 hi0 hz0 hs0 hb0 rfl (by decide) _ _ _ rfl hr0 _ _ x.ch.length c2 _ rfl (flatMap_len T3.cells 3 (fun _ => rfl) x.ch) R2 (T3.ones _) (by omega) (by decide) hsz5 ?_
    intro v2 w6 hrow2 hgrow hat
    simp only [Nat.zero_add, List.nil_append] at hrow2
    obtain ⟨A2', c2', rfl, _⟩ := own_shape hrow2
    have hr6 := hr1.kept hgrow (by cases h9 : (Value.slice A' x.of.length c').ownBlock with | none => exact .inl rfl | some g => exact .inr (fun e => hne g h9 (Option.some.inj e)))
    have X6 := hide (show BoxN w6 b #[.int .i64 x.z, .slice A x.of.length c, .slice A2 x.ch.length c2] 47 from (hgrow.block b X5.out.lt (fun e => by have := Option.some.inj e; (try dsimp only at this); omega)).trans X5.out)
    have Y6 := hide (show BoxN w6 w.heap.size #[.int .i64 0, .slice none 0 0, .slice none 0 0] 47 from (hgrow.block _ Y5.out.lt (fun e => by have := Option.some.inj e; (try dsimp only at this); omega)).trans Y5.out)
    have b6 : Below wd.heap.size wd w6 := b5.grown hgrow (by have := b5.size; omega) (fun k hk => by have := Option.some.inj hk; (try dsimp only at this); omega)
    have hap : ∀ g, (Value.slice A' x.of.length c').ownBlock = some g → (Value.slice A2' x.ch.length c2').ownBlock ≠ some g := fun g e e2 => by
      rcases hat with h | h
      · rw [h] at e2; exact hne g e (Option.some.inj e2).symm
      · rw [h] at e2; have := (hr1.lt g e).2; have := Option.some.inj e2; omega
    dsimp only
    refine hK.out _ _ (⟨(X6.out.cell 0).trans rfl, (X6.out.cell 1).trans rfl, (X6.out.cell 2).trans rfl⟩) (fun hHeld => ?_)
    clear hK K
    try simp only [Act.put, List.getElem_toArray, List.getElem_cons_succ, List.getElem_cons_zero, List.setIfInBounds_toArray, List.set_cons_zero, List.set_cons_succ]
    refine wpAnyH_take (i := 15) (v := ?_) rfl (by kernel_rfl) (by kernel_rfl) (by kernel_rfl) (fun _ _ _ h => h) (Or.inl ⟨by rfl, ?_⟩) (by assumption) ?_
    rotate_left 1
    · (intro w hSw; (try dsimp only at hSw); go_simp; try with_reducible rfl)
    try simp only [Act.put, List.getElem_toArray, List.getElem_cons_succ, List.getElem_cons_zero, List.setIfInBounds_toArray, List.set_cons_zero, List.set_cons_succ]
    have T1 := hide (Y6.out.set 0 (.int .i64 x.z))
    have T2 := hide (T1.out.set 1 (.slice A' x.of.length c'))
    have T3' := hide (T2.out.set 2 (.slice A2' x.ch.length c2'))
    have m0 : w6.cell? ⟨w.heap.size, 0, none⟩ = some (.int .i64 0) := Y6.out.cell 0
    have n0' := Y6.out.fro 0
    have m1 : (w6.setCell ⟨w.heap.size, 0, none⟩ (.int .i64 x.z)).cell? ⟨w.heap.size, 1, none⟩ = some (.slice none 0 0) := T1.out.cell 1
    have n1 := T1.out.fro 1
    have m2 : ((w6.setCell ⟨w.heap.size, 0, none⟩ (.int .i64 x.z)).setCell ⟨w.heap.size, 1, none⟩ (.slice A' x.of.length c')).cell? ⟨w.heap.size, 2, none⟩ = some (.slice none 0 0) := T2.out.cell 2
    have n2 := T2.out.fro 2
    refine wpAnyH_ready (rs := [16]) (by kernel_rfl) (by simp) ?_
    refine AllReadyH.cons rfl (fun K hK => ?_) AllReadyH.nil
    try simp only [Act.put, List.getElem_toArray, List.getElem_cons_succ, List.getElem_cons_zero, List.setIfInBounds_toArray, List.set_cons_zero, List.set_cons_succ]
    go_simp
    have X9 := ((X6.out.other (b' := w.heap.size) (by omega) 0 (.int .i64 x.z)).other (b' := w.heap.size) (by omega) 1 (.slice A' x.of.length c')).other (b' := w.heap.size) (by omega) 2 (.slice A2' x.ch.length c2')
    refine hK.out _ _ (⟨(X9.cell 0).trans rfl, (X9.cell 1).trans rfl, (X9.cell 2).trans rfl⟩) (fun hHeld => ?_)
    clear hK K
    try simp only [Act.put, List.getElem_toArray, List.getElem_cons_succ, List.getElem_cons_zero, List.setIfInBounds_toArray, List.set_cons_zero, List.set_cons_succ]
    refine wpAnyH_done (by kernel_rfl) ?_ _
    go_wp2_with fail
    have q0 : (((w6.setCell ⟨w.heap.size, 0, none⟩ (.int .i64 x.z)).setCell ⟨w.heap.size, 1, none⟩ (.slice A' x.of.length c')).setCell ⟨w.heap.size, 2, none⟩ (.slice A2' x.ch.length c2')).cell? ⟨w.heap.size, 0, none⟩ = some (.int .i64 x.z) := T3'.out.cell 0
    have q1 : (((w6.setCell ⟨w.heap.size, 0, none⟩ (.int .i64 x.z)).setCell ⟨w.heap.size, 1, none⟩ (.slice A' x.of.length c')).setCell ⟨w.heap.size, 2, none⟩ (.slice A2' x.ch.length c2')).cell? ⟨w.heap.size, 1, none⟩ = some (.slice A' x.of.length c') := T3'.out.cell 1
    have q2 : (((w6.setCell ⟨w.heap.size, 0, none⟩ (.int .i64 x.z)).setCell ⟨w.heap.size, 1, none⟩ (.slice A' x.of.length c')).setCell ⟨w.heap.size, 2, none⟩ (.slice A2' x.ch.length c2')).cell? ⟨w.heap.size, 2, none⟩ = some (.slice A2' x.ch.length c2') := T3'.out.cell 2
    have K1 := (((hr6.kept (grown_setCell w6 ⟨w.heap.size, 0, none⟩ (.int .i64 x.z)) (.inr (hnw _ hr6))).kept (grown_setCell _ ⟨w.heap.size, 1, none⟩ (.slice A' x.of.length c')) (.inr (hnw _ hr6))).kept (grown_setCell _ ⟨w.heap.size, 2, none⟩ (.slice A2' x.ch.length c2')) (.inr (hnw _ hr6)))
    have K2 := (((hrow2.kept (grown_setCell w6 ⟨w.heap.size, 0, none⟩ (.int .i64 x.z)) (.inr (hnw _ hrow2))).kept (grown_setCell _ ⟨w.heap.size, 1, none⟩ (.slice A' x.of.length c')) (.inr (hnw _ hrow2))).kept (grown_setCell _ ⟨w.heap.size, 2, none⟩ (.slice A2' x.ch.length c2')) (.inr (hnw _ hrow2)))
    have B9 := ((((BD.out.trans (b6.mono BD.out.size)).setCell (p := ⟨w.heap.size, 0, none⟩) (Nat.le_refl _) (.int .i64 x.z)).setCell (p := ⟨w.heap.size, 1, none⟩) (Nat.le_refl _) (.slice A' x.of.length c')).setCell (p := ⟨w.heap.size, 2, none⟩) (Nat.le_refl _) (.slice A2' x.ch.length c2'))
    exact bodyPost_ret (v := .agg #[.int .i64 x.z, .slice A' x.of.length c', .slice A2' x.ch.length c2']) (by simp [results, Tryd.results89, go_sem, q0, q1, q2]) rfl ⟨A', c', A2', c2', rfl, own_base K1 (by omega), own_base K2 (by omega), hap, B9⟩
end Go.Proofs.YtofjnmeblmbnmaaDoor
