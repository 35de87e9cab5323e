/-
  Zones are bent: the draw.
-/
import Derived.Test.YtofjnmeblmbnmaaDoorQLevels13
import Derived.Deep.CutBlock
import Derived.Test.YtofjnmeblmbnmaaDoorQLevels11
namespace Go.Proofs.YtofjnmeblmbnmaaDoor
open Go.RowKit
set_option maxRecDepth 100000 in
set_option maxHeartbeats 4000000 in
theorem bentZones_any (b : Nat) (bs : List Int) (N : Int) (w : World) (hbs : BsOk bs) (hN : N ≤ 1099507000000) (h : SrcAt b bs N w) :
    Calls Tryd.prog 70 #[.pointer (some ⟨b, 0, none⟩)] w fun e w' => ∃ (x : TZ) (A : Option Addr) (c : Nat) (A2 : Option Addr) (c2 : Nat), e = .returned (.agg #[.int .i64 x.z, .slice A x.of.length c, .slice A2 x.ch.length c2]) ∧ ZBt x ∧ w'.ownsRow w.heap.size 2 1 (.slice A x.of.length c) x.of.length (x.of.map (Value.int .i64)) ∧ w'.ownsRow w.heap.size 41 3 (.slice A2 x.ch.length c2) x.ch.length (x.ch.flatMap T3.cells) ∧ (∀ g, (Value.slice A x.of.length c).ownBlock = some g → (Value.slice A2 x.ch.length c2).ownBlock ≠ some g) ∧ SrcAt b bs (N + 500) w' ∧ Only b (b + 1) w w' := by
  obtain ⟨i0, hi0, hz0, hs0, hb0⟩ := info_parts int64_info
  obtain ⟨j0, hj0, hy0, ht0, hc0⟩ := info_parts Change_inf
  have hbl := h.lt
  have HP := hide fun M n W (hM : M ≤ 1099511000000) (hW : SrcAt b bs M W) => pick_any b bs M n W hbs hM hW
  have HO1 := hide fun M n W (hM : M ≤ 1099511000000) (hW : SrcAt b bs M W) => one_any b bs M n W hbs hM hW
  have HAM := hide fun M g o c xs W (hM : M ≤ 1099511000000) (hW : SrcAt b bs M W) => among_any b bs M g o c xs W hbs hM hW
  have X0 := hide (BoxN.new w #[.int .i64 0, .slice none 0 0, .slice none 0 0] 47)
  have S0 := hide (h.alloc (.cells #[.int .i64 0, .slice none 0 0, .slice none 0 0] 47))
  have O0 := hide (only_alloc (only_refl b (b + 1) w) (.cells #[.int .i64 0, .slice none 0 0, .slice none 0 0] 47))
  have hz0a : (w.alloc (.cells #[.int .i64 0, .slice none 0 0, .slice none 0 0] 47)).heap.size = w.heap.size + 1 := by simp
  have z0 := Nat.le_of_eq hz0a.symm
  have K0 := hide (drawZones_any b bs N _ hbs (by omega) S0.out)
  clear h hz0a
  go_enter Tryd.func70, Tryd.ntmps70
  go_upto_region 2 with (go_at_call 90; (with_reducible refine (K0.out).mono ?_); rintro e w1 ⟨x, A, c, A2, c2, rfl, hdx, ro1, rc1, ap1, hs1, ho1⟩)
  have hz1 := ho1.size
  have NS : Hid (ZSt b bs (N + 200) w w1.heap.size (w1.alloc (.cells #[.int .i64 x.z, .slice A x.of.length c, .slice A2 x.ch.length c2] 47)) x A c A2 c2) :=
    ⟨BoxN.new w1 _ _, (own_base ro1 (base' := w.heap.size + 1) z0).alloc _, (own_base rc1 (base' := w.heap.size + 1) z0).alloc _, ap1, ⟨fun e => by have := (ro1.lt _ e).2; omega, fun e => by have := (rc1.lt _ e).2; omega⟩, (X0.out.only ho1 (.inr (by omega))).alloc _, hs1.alloc _, only_alloc (only_trans O0.out ho1) _, by omega⟩
  have HDX := hide hdx.bt
  have hox := hdx.2.1.1
  have hzx1 := hdx.1.1
  have hzx4 := hdx.1.2
  have hcx := hdx.2.2.1
  clear hs1 ho1 K0 X0 S0 O0 ro1 rc1 ap1 hdx
  generalize w1.alloc (.cells #[.int .i64 x.z, .slice A x.of.length c, .slice A2 x.ch.length c2] 47) = w2 at *
  generalize w1.heap.size = gz at *
  have K1 := hide (HP.out (N + 200) 24 _ (by omega) NS.out.src)
  go_upto_block 0 with (go_at_call 58; (with_reducible refine (K1.out).mono ?_); rintro e w3 ⟨v, rfl, ⟨hv0', hv1', _⟩, hs3, ho3⟩)
  have N3 := hide ((NS.out.only hbl ho3 hs3).more (N' := N + 202) (by omega))
  have hz3 := N3.out.onl.size
  have x0 := (N3.out.box.cell 0).trans rfl
  have x1 := (N3.out.box.cell 1).trans rfl
  have x2 := (N3.out.box.cell 2).trans rfl
  clear NS K1 hs3 ho3 hv1' hv0'
  go_cut [] (fun wx => ∃ (y : TZ) (B : Option Addr) (d : Nat) (B2 : Option Addr) (d2 : Nat), Hid (ZBt y) ∧ Hid (ZSt b bs (N + 500) w gz wx y B d B2 d2))
  case first =>
    by_cases hv0 : v = 0
    · subst hv0
      have S6 := hide (N3.out.src.alloc (.cells #[.int .i64 (-1), .int .i64 0, .int .i64 1, .int .i64 8, .int .i64 9] 2))
      have ham : Calls Tryd.prog 57 #[.pointer (some ⟨b, 0, none⟩), .slice (some ⟨w3.heap.size, 0, none⟩) 5 5] (w3.alloc (.cells #[.int .i64 (-1), .int .i64 0, .int .i64 1, .int .i64 8, .int .i64 9] 2)) fun e w' => ∃ z, e = .returned (.int .i64 z) ∧ z ∈ ([(-1), 0, 1, 8, 9] : List Int) ∧ SrcAt b bs (N + 202 + 2) w' ∧ Only b (b + 1) (w3.alloc (.cells #[.int .i64 (-1), .int .i64 0, .int .i64 1, .int .i64 8, .int .i64 9] 2)) w' := HAM.out (N + 202) w3.heap.size 0 5 ([(-1), 0, 1, 8, 9] : List Int) _ (by omega) S6.out (by omega) (by simp) (by simp) (by simp) (fun j z hj => by
          match j, hj with
          | 0, hj => simp at hj; subst hj; simp [go_sem]
          | 1, hj => simp at hj; subst hj; simp [go_sem]
          | 2, hj => simp at hj; subst hj; simp [go_sem]
          | 3, hj => simp at hj; subst hj; simp [go_sem]
          | 4, hj => simp at hj; subst hj; simp [go_sem]
          | j + 5, hj => simp at hj)
      have H6 := hide ham
      clear ham
      have N4 := hide (N3.out.alloc (.cells #[.int .i64 (-1), .int .i64 0, .int .i64 1, .int .i64 8, .int .i64 9] 2))
      go_wp2_with (go_at_call 57; (with_reducible refine (H6.out).mono ?_); rintro e w5 ⟨z, rfl, hz, hs5, ho5⟩; have N5 := hide (N4.out.only hbl ho5 hs5); have f0 := (N5.out.box.cell 0).trans rfl; have g0 := N5.out.box.fro 0)
      go_meet
      have hzb : -1 ≤ z ∧ z ≤ 9 := by simp at hz; omega
      exact ⟨⟨z, x.of, x.ch⟩, A, c, A2, c2, hide ⟨hzb, HDX.out.2⟩, hide ((N5.out.putZ hbl z).more (by omega))⟩
    have hsw0 : (v == 0) = false := by simp [hv0]
    have HV0 := hide hv0
    clear hv0
    by_cases hv1 : v = 1
    · subst hv1
      go_wp2_with fail
      have ND := hide N3.out.drew
      have e0 : w3.drew.cell? ⟨gz, 0, none⟩ = some (.int .i64 x.z) := ND.out.box.cell 0
      have e1 : w3.drew.cell? ⟨gz, 1, none⟩ = some (.slice A x.of.length c) := ND.out.box.cell 1
      clear N3 x0 x1 x2
      refine wp_region_held_drew (S := fun W => W.cell? ⟨gz, 0, none⟩ = some (.int .i64 x.z)) (by kernel_rfl) (e0) (fun hHeld => ?_)
      generalize w3.drew = wd at *
      have hgl := ND.out.lt
      have S6 := hide (ND.out.src.alloc (.cells #[.int .i64 (-1), .int .i64 0, .int .i64 (x.z - 1), .int .i64 x.z] 2))
      have ham : Calls Tryd.prog 57 #[.pointer (some ⟨b, 0, none⟩), .slice (some ⟨wd.heap.size, 0, none⟩) 4 4] (wd.alloc (.cells #[.int .i64 (-1), .int .i64 0, .int .i64 (x.z - 1), .int .i64 x.z] 2)) fun e w' => ∃ z, e = .returned (.int .i64 z) ∧ z ∈ ([(-1), 0, (x.z - 1), x.z] : List Int) ∧ SrcAt b bs (N + 202 + 2) w' ∧ Only b (b + 1) (wd.alloc (.cells #[.int .i64 (-1), .int .i64 0, .int .i64 (x.z - 1), .int .i64 x.z] 2)) w' := HAM.out (N + 202) wd.heap.size 0 4 ([(-1), 0, (x.z - 1), x.z] : List Int) _ (by omega) S6.out (by omega) (by simp) (by simp) (by simp) (fun j z hj => by
          match j, hj with
          | 0, hj => simp at hj; subst hj; simp [go_sem]
          | 1, hj => simp at hj; subst hj; simp [go_sem]
          | 2, hj => simp at hj; subst hj; simp [go_sem]
          | 3, hj => simp at hj; subst hj; simp [go_sem]
          | j + 4, hj => simp at hj)
      have H6 := hide ham
      clear ham
      have N4 := hide (ND.out.alloc (.cells #[.int .i64 (-1), .int .i64 0, .int .i64 (x.z - 1), .int .i64 x.z] 2))
      have e14 : (wd.alloc (.cells #[.int .i64 (-1), .int .i64 0, .int .i64 (x.z - 1), .int .i64 x.z] 2)).cell? ⟨gz, 1, none⟩ = some (.slice A x.of.length c) := N4.out.box.cell 1
      have hwz : IntKind.i64.wrap (x.z - 1) = x.z - 1 := by rw [IntKind.wrap_i64] <;> omega
      refine wpAnyH_take (i := 0) (v := ?_) rfl (by kernel_rfl) (by kernel_rfl) (by kernel_rfl) (fun _ _ _ h => h) (Or.inl ⟨by rfl, ?_⟩) (by assumption) ?_
      rotate_left 1
      · (intro w hSw; (try dsimp only at hSw); go_simp; try with_reducible rfl)
      try simp only [Act.put, List.getElem_toArray, List.getElem_cons_succ, List.getElem_cons_zero, List.setIfInBounds_toArray, List.set_cons_zero, List.set_cons_succ]
      refine wpAnyH_take (i := 2) (v := ?_) rfl (by kernel_rfl) (by kernel_rfl) (by kernel_rfl) (fun _ _ _ h => h) (Or.inl ⟨by rfl, ?_⟩) (by assumption) ?_
      rotate_left 1
      · (intro w hSw; (try dsimp only at hSw); go_simp; try with_reducible rfl)
      try simp only [Act.put, List.getElem_toArray, List.getElem_cons_succ, List.getElem_cons_zero, List.setIfInBounds_toArray, List.set_cons_zero, List.set_cons_succ]
      refine wpAnyH_take (i := 3) (v := ?_) rfl (by kernel_rfl) (by kernel_rfl) (by kernel_rfl) (fun _ _ _ h => h) (Or.inl ⟨by rfl, ?_⟩) (by assumption) ?_
      rotate_left 1
      · (intro w hSw; (try dsimp only at hSw); go_simp; try with_reducible rfl)
      try simp only [Act.put, List.getElem_toArray, List.getElem_cons_succ, List.getElem_cons_zero, List.setIfInBounds_toArray, List.set_cons_zero, List.set_cons_succ]
      refine wpAnyH_take (i := 4) (v := ?_) rfl (by kernel_rfl) (by kernel_rfl) (by kernel_rfl) (fun _ _ _ h => h) (Or.inl ⟨by rfl, ?_⟩) (by assumption) ?_
      rotate_left 1
      · (intro w hSw; (try dsimp only at hSw); go_simp; try with_reducible rfl)
      try simp only [Act.put, List.getElem_toArray, List.getElem_cons_succ, List.getElem_cons_zero, List.setIfInBounds_toArray, List.set_cons_zero, List.set_cons_succ]
      refine wpAnyH_take (i := 5) (v := ?_) rfl (by kernel_rfl) (by kernel_rfl) (by kernel_rfl) (fun _ _ _ h => h) (Or.inl ⟨by rfl, ?_⟩) (by assumption) ?_
      rotate_left 1
      · (intro w hSw; (try dsimp only at hSw); go_simp; try with_reducible rfl)
      try simp only [Act.put, List.getElem_toArray, List.getElem_cons_succ, List.getElem_cons_zero, List.setIfInBounds_toArray, List.set_cons_zero, List.set_cons_succ]
      refine wpAnyH_take (i := 6) (v := ?_) rfl (by kernel_rfl) (by kernel_rfl) (by kernel_rfl) (fun _ _ _ h => h) (Or.inl ⟨by rfl, ?_⟩) (by assumption) ?_
      rotate_left 1
      · (intro w hSw; (try dsimp only at hSw); go_simp; try with_reducible rfl)
      try simp only [Act.put, List.getElem_toArray, List.getElem_cons_succ, List.getElem_cons_zero, List.setIfInBounds_toArray, List.set_cons_zero, List.set_cons_succ]
      refine wpAnyH_take (i := 7) (v := ?_) rfl (by kernel_rfl) (by kernel_rfl) (by kernel_rfl) (fun _ _ _ h => h) (Or.inl ⟨by rfl, ?_⟩) (by assumption) ?_
      rotate_left 1
      · (intro w hSw; (try dsimp only at hSw); go_simp; try with_reducible rfl)
      try simp only [Act.put, List.getElem_toArray, List.getElem_cons_succ, List.getElem_cons_zero, List.setIfInBounds_toArray, List.set_cons_zero, List.set_cons_succ]
      refine wpAnyH_ready (rs := [1, 8]) (by kernel_rfl) (by simp) ?_
      refine AllReadyH.cons rfl (fun K hK => ?_) (AllReadyH.cons rfl (fun K hK => ?_) AllReadyH.nil)
      · try simp only [Act.put, List.getElem_toArray, List.getElem_cons_succ, List.getElem_cons_zero, List.setIfInBounds_toArray, List.set_cons_zero, List.set_cons_succ]
        go_simp
        refine hK.out _ _ ((ND.out.box.cell 0).trans rfl) (fun hHeld => ?_)
        clear hK K
        try simp only [Act.put, List.getElem_toArray, List.getElem_cons_succ, List.getElem_cons_zero, List.setIfInBounds_toArray, List.set_cons_zero, List.set_cons_succ]
        refine wpAnyH_ready (rs := [8]) (by kernel_rfl) (by simp) ?_
        refine AllReadyH.cons rfl (fun K hK => ?_) AllReadyH.nil
        try simp only [Act.put, List.getElem_toArray, List.getElem_cons_succ, List.getElem_cons_zero, List.setIfInBounds_toArray, List.set_cons_zero, List.set_cons_succ]
        go_simp
        refine hK.out _ _ ((N4.out.box.cell 0).trans rfl) (fun hHeld => ?_)
        clear hK K
        try simp only [Act.put, List.getElem_toArray, List.getElem_cons_succ, List.getElem_cons_zero, List.setIfInBounds_toArray, List.set_cons_zero, List.set_cons_succ]
        refine wpAnyH_ready (rs := [9]) (by kernel_rfl) (by simp) ?_
        refine AllReadyH.cons rfl (fun K hK => ?_) AllReadyH.nil
        try simp only [Act.put, List.getElem_toArray, List.getElem_cons_succ, List.getElem_cons_zero, List.setIfInBounds_toArray, List.set_cons_zero, List.set_cons_succ]
        go_simp
        go_at_call 57
        refine (H6.out).mono ?_
        rintro e w5 ⟨q, rfl, hq, hs5, ho5⟩
        have N5 := hide (N4.out.only hbl ho5 hs5)
        have hqb : -1 ≤ q ∧ q ≤ 9 := by simp at hq; omega
        have g1 : w5.cell? ⟨gz, 1, none⟩ = some (.slice A x.of.length c) := N5.out.box.cell 1
        clear hs5 ho5 hq
        dsimp only
        refine hK.out _ _ ((N5.out.box.cell 0).trans rfl) (fun hHeld => ?_)
        clear hK K
        try simp only [Act.put, List.getElem_toArray, List.getElem_cons_succ, List.getElem_cons_zero, List.setIfInBounds_toArray, List.set_cons_zero, List.set_cons_succ]
        refine wpAnyH_ready (rs := [10]) (by kernel_rfl) (by simp) ?_
        refine AllReadyH.cons rfl (fun K hK => ?_) AllReadyH.nil
        try simp only [Act.put, List.getElem_toArray, List.getElem_cons_succ, List.getElem_cons_zero, List.setIfInBounds_toArray, List.set_cons_zero, List.set_cons_succ]
        go_simp
        have N6 := hide (N5.out.alloc (.cells #[.int .i64 q] 2))
        have j1 : (w5.alloc (.cells #[.int .i64 q] 2)).cell? ⟨gz, 1, none⟩ = some (.slice A x.of.length c) := N6.out.box.cell 1
        have hrd := rd_new w5 [.int .i64 q] 2 _ rfl
        have hown6 := N6.out.ro
        have hsz6 : w.heap.size + 1 ≤ (w5.alloc (.cells #[.int .i64 q] 2)).heap.size := by have := N6.out.lt; have := N6.out.gzl; omega
        refine hK.out _ _ ((N6.out.box.cell 0).trans rfl) (fun hHeld => ?_)
        clear hK K
        try simp only [Act.put, List.getElem_toArray, List.getElem_cons_succ, List.getElem_cons_zero, List.setIfInBounds_toArray, List.set_cons_zero, List.set_cons_succ]
        refine wpAnyH_ready (rs := [11]) (by kernel_rfl) (by simp) ?_
        refine AllReadyH.cons rfl (fun K hK => ?_) AllReadyH.nil
        try simp only [Act.put, List.getElem_toArray, List.getElem_cons_succ, List.getElem_cons_zero, List.setIfInBounds_toArray, List.set_cons_zero, List.set_cons_succ]
        rw [if_pos (by rfl)]
        refine op_app _ _ _ 44 rfl (w.heap.size + 1) 2 i0 (.int .i64 0) 1 8 Tryd.underlying44 hi0 hz0 hs0 hb0 rfl (by decide) _ _ _ rfl hown6 _ _ 1 1 [.int .i64 q] rfl rfl hrd (int_one _) (by omega) (by decide) hsz6 ?_
        intro v' w7 hown7 hgrow7 hat7
        obtain ⟨A7, c7, rfl, _⟩ := own_shape hown7
        have hbx7 : BoxN w7 gz #[.int .i64 x.z, .slice A x.of.length c, .slice A2 x.ch.length c2] 47 := (hgrow7.block gz N6.out.lt (fun e => N6.out.nz.1 e.symm)).trans N6.out.box
        have l0 : w7.cell? ⟨gz, 0, none⟩ = some (.int .i64 x.z) := hbx7.cell 0
        have l1 : w7.cell? ⟨gz, 1, none⟩ = some (.slice A x.of.length c) := hbx7.cell 1
        have lf := hbx7.fro 1
        have N8 := hide (N6.out.pushOf hbl hown7 hgrow7 hat7)
        dsimp only
        refine hK.out _ _ (l0) (fun hHeld => ?_)
        clear hK K
        try simp only [Act.put, List.getElem_toArray, List.getElem_cons_succ, List.getElem_cons_zero, List.setIfInBounds_toArray, List.set_cons_zero, List.set_cons_succ]
        refine wpAnyH_take (i := 12) (v := ?_) rfl (by kernel_rfl) (by kernel_rfl) (by kernel_rfl) (fun _ _ _ h => h) (Or.inl ⟨by rfl, ?_⟩) (by assumption) ?_
        rotate_left 1
        · (intro w hSw; (try dsimp only at hSw); go_simp; try with_reducible rfl)
        try simp only [Act.put, List.getElem_toArray, List.getElem_cons_succ, List.getElem_cons_zero, List.setIfInBounds_toArray, List.set_cons_zero, List.set_cons_succ]
        refine wpAnyH_ready (rs := [13]) (by kernel_rfl) (by simp) ?_
        refine AllReadyH.cons rfl (fun K hK => ?_) AllReadyH.nil
        try simp only [Act.put, List.getElem_toArray, List.getElem_cons_succ, List.getElem_cons_zero, List.setIfInBounds_toArray, List.set_cons_zero, List.set_cons_succ]
        go_simp
        have m0 : (w7.setCell ⟨gz, 1, none⟩ (.slice A7 (x.of.length + 1) c7)).cell? ⟨gz, 0, none⟩ = some (.int .i64 x.z) := N8.out.box.cell 0
        refine hK.out _ _ (m0) (fun hHeld => ?_)
        clear hK K
        try simp only [Act.put, List.getElem_toArray, List.getElem_cons_succ, List.getElem_cons_zero, List.setIfInBounds_toArray, List.set_cons_zero, List.set_cons_succ]
        refine wpAnyH_done (by kernel_rfl) ?_ _
        go_wp2_with fail
        go_meet
        exact ⟨⟨x.z, x.of ++ [q], x.ch⟩, A7, c7, A2, c2, hide ⟨HDX.out.1, ⟨by have := hox; simp; omega, fun u hu => by
          rcases List.mem_append.1 hu with hu | hu
          · exact HDX.out.2.1.2 u hu
          · rw [List.mem_singleton] at hu; subst hu; exact hqb⟩, HDX.out.2.2⟩, hide (N8.out.more (by omega))⟩
      · try simp only [Act.put, List.getElem_toArray, List.getElem_cons_succ, List.getElem_cons_zero, List.setIfInBounds_toArray, List.set_cons_zero, List.set_cons_succ]
        go_simp
        refine hK.out _ _ ((N4.out.box.cell 0).trans rfl) (fun hHeld => ?_)
        clear hK K
        try simp only [Act.put, List.getElem_toArray, List.getElem_cons_succ, List.getElem_cons_zero, List.setIfInBounds_toArray, List.set_cons_zero, List.set_cons_succ]
        refine wpAnyH_ready (rs := [1, 9]) (by kernel_rfl) (by simp) ?_
        refine AllReadyH.cons rfl (fun K hK => ?_) (AllReadyH.cons rfl (fun K hK => ?_) AllReadyH.nil)
        · try simp only [Act.put, List.getElem_toArray, List.getElem_cons_succ, List.getElem_cons_zero, List.setIfInBounds_toArray, List.set_cons_zero, List.set_cons_succ]
          go_simp
          refine hK.out _ _ ((N4.out.box.cell 0).trans rfl) (fun hHeld => ?_)
          clear hK K
          try simp only [Act.put, List.getElem_toArray, List.getElem_cons_succ, List.getElem_cons_zero, List.setIfInBounds_toArray, List.set_cons_zero, List.set_cons_succ]
          refine wpAnyH_ready (rs := [9]) (by kernel_rfl) (by simp) ?_
          refine AllReadyH.cons rfl (fun K hK => ?_) AllReadyH.nil
          try simp only [Act.put, List.getElem_toArray, List.getElem_cons_succ, List.getElem_cons_zero, List.setIfInBounds_toArray, List.set_cons_zero, List.set_cons_succ]
          go_simp
          go_at_call 57
          refine (H6.out).mono ?_
          rintro e w5 ⟨q, rfl, hq, hs5, ho5⟩
          have N5 := hide (N4.out.only hbl ho5 hs5)
          have hqb : -1 ≤ q ∧ q ≤ 9 := by simp at hq; omega
          have g1 : w5.cell? ⟨gz, 1, none⟩ = some (.slice A x.of.length c) := N5.out.box.cell 1
          clear hs5 ho5 hq
          dsimp only
          refine hK.out _ _ ((N5.out.box.cell 0).trans rfl) (fun hHeld => ?_)
          clear hK K
          try simp only [Act.put, List.getElem_toArray, List.getElem_cons_succ, List.getElem_cons_zero, List.setIfInBounds_toArray, List.set_cons_zero, List.set_cons_succ]
          refine wpAnyH_ready (rs := [10]) (by kernel_rfl) (by simp) ?_
          refine AllReadyH.cons rfl (fun K hK => ?_) AllReadyH.nil
          try simp only [Act.put, List.getElem_toArray, List.getElem_cons_succ, List.getElem_cons_zero, List.setIfInBounds_toArray, List.set_cons_zero, List.set_cons_succ]
          go_simp
          have N6 := hide (N5.out.alloc (.cells #[.int .i64 q] 2))
          have j1 : (w5.alloc (.cells #[.int .i64 q] 2)).cell? ⟨gz, 1, none⟩ = some (.slice A x.of.length c) := N6.out.box.cell 1
          have hrd := rd_new w5 [.int .i64 q] 2 _ rfl
          have hown6 := N6.out.ro
          have hsz6 : w.heap.size + 1 ≤ (w5.alloc (.cells #[.int .i64 q] 2)).heap.size := by have := N6.out.lt; have := N6.out.gzl; omega
          refine hK.out _ _ ((N6.out.box.cell 0).trans rfl) (fun hHeld => ?_)
          clear hK K
          try simp only [Act.put, List.getElem_toArray, List.getElem_cons_succ, List.getElem_cons_zero, List.setIfInBounds_toArray, List.set_cons_zero, List.set_cons_succ]
          refine wpAnyH_ready (rs := [11]) (by kernel_rfl) (by simp) ?_
          refine AllReadyH.cons rfl (fun K hK => ?_) AllReadyH.nil
          try simp only [Act.put, List.getElem_toArray, List.getElem_cons_succ, List.getElem_cons_zero, List.setIfInBounds_toArray, List.set_cons_zero, List.set_cons_succ]
          rw [if_pos (by rfl)]
          refine op_app _ _ _ 44 rfl (w.heap.size + 1) 2 i0 (.int .i64 0) 1 8 Tryd.underlying44 hi0 hz0 hs0 hb0 rfl (by decide) _ _ _ rfl hown6 _ _ 1 1 [.int .i64 q] rfl rfl hrd (int_one _) (by omega) (by decide) hsz6 ?_
          intro v' w7 hown7 hgrow7 hat7
          obtain ⟨A7, c7, rfl, _⟩ := own_shape hown7
          have hbx7 : BoxN w7 gz #[.int .i64 x.z, .slice A x.of.length c, .slice A2 x.ch.length c2] 47 := (hgrow7.block gz N6.out.lt (fun e => N6.out.nz.1 e.symm)).trans N6.out.box
          have l0 : w7.cell? ⟨gz, 0, none⟩ = some (.int .i64 x.z) := hbx7.cell 0
          have l1 : w7.cell? ⟨gz, 1, none⟩ = some (.slice A x.of.length c) := hbx7.cell 1
          have lf := hbx7.fro 1
          have N8 := hide (N6.out.pushOf hbl hown7 hgrow7 hat7)
          dsimp only
          refine hK.out _ _ (l0) (fun hHeld => ?_)
          clear hK K
          try simp only [Act.put, List.getElem_toArray, List.getElem_cons_succ, List.getElem_cons_zero, List.setIfInBounds_toArray, List.set_cons_zero, List.set_cons_succ]
          refine wpAnyH_take (i := 12) (v := ?_) rfl (by kernel_rfl) (by kernel_rfl) (by kernel_rfl) (fun _ _ _ h => h) (Or.inl ⟨by rfl, ?_⟩) (by assumption) ?_
          rotate_left 1
          · (intro w hSw; (try dsimp only at hSw); go_simp; try with_reducible rfl)
          try simp only [Act.put, List.getElem_toArray, List.getElem_cons_succ, List.getElem_cons_zero, List.setIfInBounds_toArray, List.set_cons_zero, List.set_cons_succ]
          refine wpAnyH_ready (rs := [13]) (by kernel_rfl) (by simp) ?_
          refine AllReadyH.cons rfl (fun K hK => ?_) AllReadyH.nil
          try simp only [Act.put, List.getElem_toArray, List.getElem_cons_succ, List.getElem_cons_zero, List.setIfInBounds_toArray, List.set_cons_zero, List.set_cons_succ]
          go_simp
          have m0 : (w7.setCell ⟨gz, 1, none⟩ (.slice A7 (x.of.length + 1) c7)).cell? ⟨gz, 0, none⟩ = some (.int .i64 x.z) := N8.out.box.cell 0
          refine hK.out _ _ (m0) (fun hHeld => ?_)
          clear hK K
          try simp only [Act.put, List.getElem_toArray, List.getElem_cons_succ, List.getElem_cons_zero, List.setIfInBounds_toArray, List.set_cons_zero, List.set_cons_succ]
          refine wpAnyH_done (by kernel_rfl) ?_ _
          go_wp2_with fail
          go_meet
          exact ⟨⟨x.z, x.of ++ [q], x.ch⟩, A7, c7, A2, c2, hide ⟨HDX.out.1, ⟨by have := hox; simp; omega, fun u hu => by
            rcases List.mem_append.1 hu with hu | hu
            · exact HDX.out.2.1.2 u hu
            · rw [List.mem_singleton] at hu; subst hu; exact hqb⟩, HDX.out.2.2⟩, hide (N8.out.more (by omega))⟩
        · try simp only [Act.put, List.getElem_toArray, List.getElem_cons_succ, List.getElem_cons_zero, List.setIfInBounds_toArray, List.set_cons_zero, List.set_cons_succ]
          go_simp
          go_at_call 57
          refine (H6.out).mono ?_
          rintro e w5 ⟨q, rfl, hq, hs5, ho5⟩
          have N5 := hide (N4.out.only hbl ho5 hs5)
          have hqb : -1 ≤ q ∧ q ≤ 9 := by simp at hq; omega
          have g1 : w5.cell? ⟨gz, 1, none⟩ = some (.slice A x.of.length c) := N5.out.box.cell 1
          clear hs5 ho5 hq
          dsimp only
          refine hK.out _ _ ((N5.out.box.cell 0).trans rfl) (fun hHeld => ?_)
          clear hK K
          try simp only [Act.put, List.getElem_toArray, List.getElem_cons_succ, List.getElem_cons_zero, List.setIfInBounds_toArray, List.set_cons_zero, List.set_cons_succ]
          refine wpAnyH_ready (rs := [1, 10]) (by kernel_rfl) (by simp) ?_
          refine AllReadyH.cons rfl (fun K hK => ?_) (AllReadyH.cons rfl (fun K hK => ?_) AllReadyH.nil)
          · try simp only [Act.put, List.getElem_toArray, List.getElem_cons_succ, List.getElem_cons_zero, List.setIfInBounds_toArray, List.set_cons_zero, List.set_cons_succ]
            go_simp
            refine hK.out _ _ ((N5.out.box.cell 0).trans rfl) (fun hHeld => ?_)
            clear hK K
            try simp only [Act.put, List.getElem_toArray, List.getElem_cons_succ, List.getElem_cons_zero, List.setIfInBounds_toArray, List.set_cons_zero, List.set_cons_succ]
            refine wpAnyH_ready (rs := [10]) (by kernel_rfl) (by simp) ?_
            refine AllReadyH.cons rfl (fun K hK => ?_) AllReadyH.nil
            try simp only [Act.put, List.getElem_toArray, List.getElem_cons_succ, List.getElem_cons_zero, List.setIfInBounds_toArray, List.set_cons_zero, List.set_cons_succ]
            go_simp
            have N6 := hide (N5.out.alloc (.cells #[.int .i64 q] 2))
            have j1 : (w5.alloc (.cells #[.int .i64 q] 2)).cell? ⟨gz, 1, none⟩ = some (.slice A x.of.length c) := N6.out.box.cell 1
            have hrd := rd_new w5 [.int .i64 q] 2 _ rfl
            have hown6 := N6.out.ro
            have hsz6 : w.heap.size + 1 ≤ (w5.alloc (.cells #[.int .i64 q] 2)).heap.size := by have := N6.out.lt; have := N6.out.gzl; omega
            refine hK.out _ _ ((N6.out.box.cell 0).trans rfl) (fun hHeld => ?_)
            clear hK K
            try simp only [Act.put, List.getElem_toArray, List.getElem_cons_succ, List.getElem_cons_zero, List.setIfInBounds_toArray, List.set_cons_zero, List.set_cons_succ]
            refine wpAnyH_ready (rs := [11]) (by kernel_rfl) (by simp) ?_
            refine AllReadyH.cons rfl (fun K hK => ?_) AllReadyH.nil
            try simp only [Act.put, List.getElem_toArray, List.getElem_cons_succ, List.getElem_cons_zero, List.setIfInBounds_toArray, List.set_cons_zero, List.set_cons_succ]
            rw [if_pos (by rfl)]
            refine op_app _ _ _ 44 rfl (w.heap.size + 1) 2 i0 (.int .i64 0) 1 8 Tryd.underlying44 hi0 hz0 hs0 hb0 rfl (by decide) _ _ _ rfl hown6 _ _ 1 1 [.int .i64 q] rfl rfl hrd (int_one _) (by omega) (by decide) hsz6 ?_
            intro v' w7 hown7 hgrow7 hat7
            obtain ⟨A7, c7, rfl, _⟩ := own_shape hown7
            have hbx7 : BoxN w7 gz #[.int .i64 x.z, .slice A x.of.length c, .slice A2 x.ch.length c2] 47 := (hgrow7.block gz N6.out.lt (fun e => N6.out.nz.1 e.symm)).trans N6.out.box
            have l0 : w7.cell? ⟨gz, 0, none⟩ = some (.int .i64 x.z) := hbx7.cell 0
            have l1 : w7.cell? ⟨gz, 1, none⟩ = some (.slice A x.of.length c) := hbx7.cell 1
            have lf := hbx7.fro 1
            have N8 := hide (N6.out.pushOf hbl hown7 hgrow7 hat7)
            dsimp only
            refine hK.out _ _ (l0) (fun hHeld => ?_)
            clear hK K
            try simp only [Act.put, List.getElem_toArray, List.getElem_cons_succ, List.getElem_cons_zero, List.setIfInBounds_toArray, List.set_cons_zero, List.set_cons_succ]
            refine wpAnyH_take (i := 12) (v := ?_) rfl (by kernel_rfl) (by kernel_rfl) (by kernel_rfl) (fun _ _ _ h => h) (Or.inl ⟨by rfl, ?_⟩) (by assumption) ?_
            rotate_left 1
            · (intro w hSw; (try dsimp only at hSw); go_simp; try with_reducible rfl)
            try simp only [Act.put, List.getElem_toArray, List.getElem_cons_succ, List.getElem_cons_zero, List.setIfInBounds_toArray, List.set_cons_zero, List.set_cons_succ]
            refine wpAnyH_ready (rs := [13]) (by kernel_rfl) (by simp) ?_
            refine AllReadyH.cons rfl (fun K hK => ?_) AllReadyH.nil
            try simp only [Act.put, List.getElem_toArray, List.getElem_cons_succ, List.getElem_cons_zero, List.setIfInBounds_toArray, List.set_cons_zero, List.set_cons_succ]
            go_simp
            have m0 : (w7.setCell ⟨gz, 1, none⟩ (.slice A7 (x.of.length + 1) c7)).cell? ⟨gz, 0, none⟩ = some (.int .i64 x.z) := N8.out.box.cell 0
            refine hK.out _ _ (m0) (fun hHeld => ?_)
            clear hK K
            try simp only [Act.put, List.getElem_toArray, List.getElem_cons_succ, List.getElem_cons_zero, List.setIfInBounds_toArray, List.set_cons_zero, List.set_cons_succ]
            refine wpAnyH_done (by kernel_rfl) ?_ _
            go_wp2_with fail
            go_meet
            exact ⟨⟨x.z, x.of ++ [q], x.ch⟩, A7, c7, A2, c2, hide ⟨HDX.out.1, ⟨by have := hox; simp; omega, fun u hu => by
              rcases List.mem_append.1 hu with hu | hu
              · exact HDX.out.2.1.2 u hu
              · rw [List.mem_singleton] at hu; subst hu; exact hqb⟩, HDX.out.2.2⟩, hide (N8.out.more (by omega))⟩
          · try simp only [Act.put, List.getElem_toArray, List.getElem_cons_succ, List.getElem_cons_zero, List.setIfInBounds_toArray, List.set_cons_zero, List.set_cons_succ]
            go_simp
            have N6 := hide (N5.out.alloc (.cells #[.int .i64 q] 2))
            have j1 : (w5.alloc (.cells #[.int .i64 q] 2)).cell? ⟨gz, 1, none⟩ = some (.slice A x.of.length c) := N6.out.box.cell 1
            have hrd := rd_new w5 [.int .i64 q] 2 _ rfl
            have hown6 := N6.out.ro
            have hsz6 : w.heap.size + 1 ≤ (w5.alloc (.cells #[.int .i64 q] 2)).heap.size := by have := N6.out.lt; have := N6.out.gzl; omega
            refine hK.out _ _ ((N6.out.box.cell 0).trans rfl) (fun hHeld => ?_)
            clear hK K
            try simp only [Act.put, List.getElem_toArray, List.getElem_cons_succ, List.getElem_cons_zero, List.setIfInBounds_toArray, List.set_cons_zero, List.set_cons_succ]
            refine wpAnyH_ready (rs := [1]) (by kernel_rfl) (by simp) ?_
            refine AllReadyH.cons rfl (fun K hK => ?_) AllReadyH.nil
            try simp only [Act.put, List.getElem_toArray, List.getElem_cons_succ, List.getElem_cons_zero, List.setIfInBounds_toArray, List.set_cons_zero, List.set_cons_succ]
            go_simp
            refine hK.out _ _ ((N6.out.box.cell 0).trans rfl) (fun hHeld => ?_)
            clear hK K
            try simp only [Act.put, List.getElem_toArray, List.getElem_cons_succ, List.getElem_cons_zero, List.setIfInBounds_toArray, List.set_cons_zero, List.set_cons_succ]
            refine wpAnyH_ready (rs := [11]) (by kernel_rfl) (by simp) ?_
            refine AllReadyH.cons rfl (fun K hK => ?_) AllReadyH.nil
            try simp only [Act.put, List.getElem_toArray, List.getElem_cons_succ, List.getElem_cons_zero, List.setIfInBounds_toArray, List.set_cons_zero, List.set_cons_succ]
            rw [if_pos (by rfl)]
            refine op_app _ _ _ 44 rfl (w.heap.size + 1) 2 i0 (.int .i64 0) 1 8 Tryd.underlying44 hi0 hz0 hs0 hb0 rfl (by decide) _ _ _ rfl hown6 _ _ 1 1 [.int .i64 q] rfl rfl hrd (int_one _) (by omega) (by decide) hsz6 ?_
            intro v' w7 hown7 hgrow7 hat7
            obtain ⟨A7, c7, rfl, _⟩ := own_shape hown7
            have hbx7 : BoxN w7 gz #[.int .i64 x.z, .slice A x.of.length c, .slice A2 x.ch.length c2] 47 := (hgrow7.block gz N6.out.lt (fun e => N6.out.nz.1 e.symm)).trans N6.out.box
            have l0 : w7.cell? ⟨gz, 0, none⟩ = some (.int .i64 x.z) := hbx7.cell 0
            have l1 : w7.cell? ⟨gz, 1, none⟩ = some (.slice A x.of.length c) := hbx7.cell 1
            have lf := hbx7.fro 1
            have N8 := hide (N6.out.pushOf hbl hown7 hgrow7 hat7)
            dsimp only
            refine hK.out _ _ (l0) (fun hHeld => ?_)
            clear hK K
            try simp only [Act.put, List.getElem_toArray, List.getElem_cons_succ, List.getElem_cons_zero, List.setIfInBounds_toArray, List.set_cons_zero, List.set_cons_succ]
            refine wpAnyH_take (i := 12) (v := ?_) rfl (by kernel_rfl) (by kernel_rfl) (by kernel_rfl) (fun _ _ _ h => h) (Or.inl ⟨by rfl, ?_⟩) (by assumption) ?_
            rotate_left 1
            · (intro w hSw; (try dsimp only at hSw); go_simp; try with_reducible rfl)
            try simp only [Act.put, List.getElem_toArray, List.getElem_cons_succ, List.getElem_cons_zero, List.setIfInBounds_toArray, List.set_cons_zero, List.set_cons_succ]
            refine wpAnyH_ready (rs := [13]) (by kernel_rfl) (by simp) ?_
            refine AllReadyH.cons rfl (fun K hK => ?_) AllReadyH.nil
            try simp only [Act.put, List.getElem_toArray, List.getElem_cons_succ, List.getElem_cons_zero, List.setIfInBounds_toArray, List.set_cons_zero, List.set_cons_succ]
            go_simp
            have m0 : (w7.setCell ⟨gz, 1, none⟩ (.slice A7 (x.of.length + 1) c7)).cell? ⟨gz, 0, none⟩ = some (.int .i64 x.z) := N8.out.box.cell 0
            refine hK.out _ _ (m0) (fun hHeld => ?_)
            clear hK K
            try simp only [Act.put, List.getElem_toArray, List.getElem_cons_succ, List.getElem_cons_zero, List.setIfInBounds_toArray, List.set_cons_zero, List.set_cons_succ]
            refine wpAnyH_done (by kernel_rfl) ?_ _
            go_wp2_with fail
            go_meet
            exact ⟨⟨x.z, x.of ++ [q], x.ch⟩, A7, c7, A2, c2, hide ⟨HDX.out.1, ⟨by have := hox; simp; omega, fun u hu => by
              rcases List.mem_append.1 hu with hu | hu
              · exact HDX.out.2.1.2 u hu
              · rw [List.mem_singleton] at hu; subst hu; exact hqb⟩, HDX.out.2.2⟩, hide (N8.out.more (by omega))⟩
    have hsw1 : (v == 1) = false := by simp [hv1]
    have HV1 := hide hv1
    clear hv1
    by_cases hv2 : v = 2
    · subst hv2
      by_cases hcz : x.ch.length = 0
      · have hcl : ¬ (0 : Int) < (x.ch.length : Int) := by omega
        have HCZ := hide hcz
        clear hcz
        go_wp2_with fail
        go_meet
        exact ⟨x, A, c, A2, c2, HDX, hide (N3.out.more (by omega))⟩
      · have hcl : (0 : Int) < (x.ch.length : Int) := by omega
        obtain ⟨ga, rfl, hga1, hga2⟩ := own_posN' N3.out.rc (by omega)
        go_wp2_with fail
        have ND := hide N3.out.drew
        have e2 : w3.drew.cell? ⟨gz, 2, none⟩ = some (.slice (some ⟨ga, 0, none⟩) x.ch.length c2) := ND.out.box.cell 2
        clear N3 x0 x1 x2
        refine wp_region_held_drew (S := fun W => W.cell? ⟨gz, 2, none⟩ = some (.slice (some ⟨ga, 0, none⟩) x.ch.length c2)) (by kernel_rfl) (e2) (fun hHeld => ?_)
        generalize w3.drew = wd at *
        have HC := hide (HP.out (N + 202) (x.ch.length : Int) wd (by omega) ND.out.src)
        refine wpAnyH_take (i := 0) (v := ?_) rfl (by kernel_rfl) (by kernel_rfl) (by kernel_rfl) (fun _ _ _ h => h) (Or.inl ⟨by rfl, ?_⟩) (by assumption) ?_
        rotate_left 1
        · (intro w hSw; (try dsimp only at hSw); go_simp; try with_reducible rfl)
        try simp only [Act.put, List.getElem_toArray, List.getElem_cons_succ, List.getElem_cons_zero, List.setIfInBounds_toArray, List.set_cons_zero, List.set_cons_succ]
        refine wpAnyH_take (i := 1) (v := ?_) rfl (by kernel_rfl) (by kernel_rfl) (by kernel_rfl) (fun _ _ _ h => h) (Or.inl ⟨by rfl, ?_⟩) (by assumption) ?_
        rotate_left 1
        · (intro w hSw; (try dsimp only at hSw); go_simp; try with_reducible rfl)
        try simp only [Act.put, List.getElem_toArray, List.getElem_cons_succ, List.getElem_cons_zero, List.setIfInBounds_toArray, List.set_cons_zero, List.set_cons_succ]
        refine wpAnyH_take (i := 2) (v := ?_) rfl (by kernel_rfl) (by kernel_rfl) (by kernel_rfl) (fun _ _ _ h => h) (Or.inl ⟨by rfl, ?_⟩) (by assumption) ?_
        rotate_left 1
        · (intro w hSw; (try dsimp only at hSw); go_simp; try with_reducible rfl)
        try simp only [Act.put, List.getElem_toArray, List.getElem_cons_succ, List.getElem_cons_zero, List.setIfInBounds_toArray, List.set_cons_zero, List.set_cons_succ]
        refine wpAnyH_take (i := 3) (v := ?_) rfl (by kernel_rfl) (by kernel_rfl) (by kernel_rfl) (fun _ _ _ h => h) (Or.inl ⟨by rfl, ?_⟩) (by assumption) ?_
        rotate_left 1
        · (intro w hSw; (try dsimp only at hSw); go_simp; try with_reducible rfl)
        try simp only [Act.put, List.getElem_toArray, List.getElem_cons_succ, List.getElem_cons_zero, List.setIfInBounds_toArray, List.set_cons_zero, List.set_cons_succ]
        refine wpAnyH_take (i := 4) (v := ?_) rfl (by kernel_rfl) (by kernel_rfl) (by kernel_rfl) (fun _ _ _ h => h) (Or.inl ⟨by rfl, ?_⟩) (by assumption) ?_
        rotate_left 1
        · (intro w hSw; (try dsimp only at hSw); go_simp; try with_reducible rfl)
        try simp only [Act.put, List.getElem_toArray, List.getElem_cons_succ, List.getElem_cons_zero, List.setIfInBounds_toArray, List.set_cons_zero, List.set_cons_succ]
        refine wpAnyH_take (i := 5) (v := ?_) rfl (by kernel_rfl) (by kernel_rfl) (by kernel_rfl) (fun _ _ _ h => h) (Or.inl ⟨by rfl, ?_⟩) (by assumption) ?_
        rotate_left 1
        · (intro w hSw; (try dsimp only at hSw); go_simp; try with_reducible rfl)
        try simp only [Act.put, List.getElem_toArray, List.getElem_cons_succ, List.getElem_cons_zero, List.setIfInBounds_toArray, List.set_cons_zero, List.set_cons_succ]
        refine wpAnyH_take (i := 6) (v := ?_) rfl (by kernel_rfl) (by kernel_rfl) (by kernel_rfl) (fun _ _ _ h => h) (Or.inl ⟨by rfl, ?_⟩) (by assumption) ?_
        rotate_left 1
        · (intro w hSw; (try dsimp only at hSw); go_simp; try with_reducible rfl)
        try simp only [Act.put, List.getElem_toArray, List.getElem_cons_succ, List.getElem_cons_zero, List.setIfInBounds_toArray, List.set_cons_zero, List.set_cons_succ]
        refine wpAnyH_ready (rs := [7]) (by kernel_rfl) (by simp) ?_
        refine AllReadyH.cons rfl (fun K hK => ?_) AllReadyH.nil
        try simp only [Act.put, List.getElem_toArray, List.getElem_cons_succ, List.getElem_cons_zero, List.setIfInBounds_toArray, List.set_cons_zero, List.set_cons_succ]
        go_simp
        go_at_call 58
        refine (HC.out).mono ?_
        rintro e w5 ⟨q, rfl, ⟨hq0, hq1', _⟩, hs5, ho5⟩
        have hq1 := hq1' (by omega)
        obtain ⟨qn, rfl⟩ := Int.eq_ofNat_of_zero_le hq0
        have hqn : qn < x.ch.length := by omega
        have N5 := hide (ND.out.only hbl ho5 hs5)
        have g2 : w5.cell? ⟨gz, 2, none⟩ = some (.slice (some ⟨ga, 0, none⟩) x.ch.length c2) := N5.out.box.cell 2
        have hgne : ga ≠ gz := fun e => N5.out.nz.2 (by rw [← e]; rfl)
        clear hs5 ho5 hq1' HC
        dsimp only
        refine hK.out _ _ (g2) (fun hHeld => ?_)
        clear hK K
        try simp only [Act.put, List.getElem_toArray, List.getElem_cons_succ, List.getElem_cons_zero, List.setIfInBounds_toArray, List.set_cons_zero, List.set_cons_succ]
        refine wpAnyH_take (i := 8) (v := ?_) rfl (by kernel_rfl) (by kernel_rfl) (by kernel_rfl) (fun _ _ _ h => h) (Or.inl ⟨by rfl, ?_⟩) (by assumption) ?_
        rotate_left 1
        · (intro w hSw; (try dsimp only at hSw); go_simp; try with_reducible rfl)
        try simp only [Act.put, List.getElem_toArray, List.getElem_cons_succ, List.getElem_cons_zero, List.setIfInBounds_toArray, List.set_cons_zero, List.set_cons_succ]
        refine wpAnyH_ready (rs := [9]) (by kernel_rfl) (by simp) ?_
        refine AllReadyH.cons rfl (fun K hK => ?_) AllReadyH.nil
        try simp only [Act.put, List.getElem_toArray, List.getElem_cons_succ, List.getElem_cons_zero, List.setIfInBounds_toArray, List.set_cons_zero, List.set_cons_succ]
        go_simp
        have HSP := hide (spoil_any b bs (N + 202 + 2) ga qn x.ch.length c2 (w.heap.size + 1) x.ch w5 hbs (by omega) N5.out.src (by omega) hqn rfl N5.out.rc)
        go_at_call 82
        refine (HSP.out).mono ?_
        rintro e w6 ⟨rfl, wq, j, z, hjz, hs6, ho6, rfl⟩
        have N6 := hide (N5.out.only hbl ho6 hs6)
        obtain ⟨t, ht⟩ : ∃ t, x.ch[qn]? = some t := ⟨_, List.getElem?_eq_getElem hqn⟩
        have hct := HDX.out.2.2.2 t (List.mem_of_getElem? ht)
        obtain ⟨t', hj3, htw, hv, hcd⟩ : ∃ t' : T3, j < 3 ∧ (∀ v, (T3.cells t').set j v = (T3.cells t).set j v) ∧ (T3.cells t')[j]? = some (.int .i64 z) ∧ CDr t' := by
          unfold CDr at *
          rcases hjz with ⟨rfl, hz⟩ | ⟨rfl, hz⟩ | ⟨rfl, hz⟩
          · exact ⟨⟨z, t.b, t.c⟩, by omega, fun v => rfl, rfl, by dsimp only; omega⟩
          · exact ⟨⟨t.a, z, t.c⟩, by omega, fun v => rfl, rfl, by dsimp only; omega⟩
          · exact ⟨⟨t.a, t.b, z⟩, by omega, fun v => rfl, rfl, by dsimp only; omega⟩
        have N7 := hide (N6.out.spoil hbl ht hj3 htw hv)
        have g6 : (wq.setCell ⟨ga, qn * 3 + j, none⟩ (.int .i64 z)).cell? ⟨gz, 2, none⟩ = some (.slice (some ⟨ga, 0, none⟩) x.ch.length c2) := (N6.out.box.other hgne _ _).cell 2
        dsimp only
        refine hK.out _ _ (g6) (fun hHeld => ?_)
        clear hK K
        try simp only [Act.put, List.getElem_toArray, List.getElem_cons_succ, List.getElem_cons_zero, List.setIfInBounds_toArray, List.set_cons_zero, List.set_cons_succ]
        refine wpAnyH_done (by kernel_rfl) ?_ _
        go_wp2_with fail
        go_meet
        exact ⟨⟨x.z, x.of, x.ch.set qn t'⟩, A, c, some ⟨ga, 0, none⟩, c2, hide ⟨HDX.out.1, HDX.out.2.1, by have := hcx; simp; omega, fun u hu => by
          rcases List.mem_or_eq_of_mem_set hu with hu | rfl
          · exact HDX.out.2.2.2 u hu
          · exact hcd⟩, hide (N7.out.more (by omega))⟩
    have hsw2 : (v == 2) = false := by simp [hv2]
    have HV2 := hide hv2
    clear hv2
    by_cases hv3 : v = 3
    · subst hv3
      have HC := hide (HP.out (N + 202) 2 _ (by omega) N3.out.src)
      go_wp2_with (first | (go_at_call 58; (with_reducible refine (HC.out).mono ?_); rintro e w5 ⟨q, rfl, ⟨hq0, hq1', _⟩, hs5, ho5⟩; have hq1 := hq1' (by omega); obtain ⟨n, hn⟩ : ∃ n : Nat, 24 + q = (n : Int) := ⟨(24 + q).toNat, by omega⟩; have hwq : IntKind.i64.wrap (24 + q) = (n : Int) := (by rw [IntKind.wrap_i64] <;> omega); have N5 := hide (N3.out.only hbl ho5 hs5); have hz5 : w.heap.size + 1 ≤ w5.heap.size := (by have := N5.out.lt; have := N5.out.gzl; omega); have hgl5 := N5.out.lt) | (refine wpList_make_full _ rfl _ _ _ rfl (w.heap.size + 1) 2 i0 _ 1 Tryd.underlying44 hi0 hz0 hs0 .i64 .i64 (n : Int) (n : Int) n rfl rfl rfl rfl (by rw [hb0]; omega) (by unfold maxLen; omega) hz5 ?_; intro w6 hown6 hgr6; have N6 := hide (N5.out.bel hbl ((Below.refl _ _).grown hgr6 (Nat.le_refl _) (by intro k hk; cases hk))); have f1 := (N6.out.box.cell 1).trans rfl; have g1 := N6.out.box.fro 1))
      go_meet
      have hrow : w6.ownsRow (w.heap.size + 1) 2 1 (.slice (some ⟨w5.heap.size, 0, none⟩) n n) n ((List.replicate n (0 : Int)).map (Value.int .i64)) := by
        have h := made_ints n
        rw [← h]; exact hown6
      have hll : (List.replicate n (0 : Int)).length = n := List.length_replicate
      have hrow2 : w6.ownsRow (w.heap.size + 1) 2 1 (.slice (some ⟨w5.heap.size, 0, none⟩) (List.replicate n (0 : Int)).length n) (List.replicate n (0 : Int)).length ((List.replicate n (0 : Int)).map (Value.int .i64)) := by rw [hll]; exact hrow
      have NP := N6.out.putOf hbl hrow2 (fun g e e2 => by have h1 : some w5.heap.size = some g := e; have := (N5.out.rc.lt g e2).2; have := Option.some.inj h1; omega) (fun e => by have h1 : some w5.heap.size = some gz := e; have := Option.some.inj h1; omega)
      rw [hll] at NP
      exact ⟨⟨x.z, List.replicate n 0, x.ch⟩, some ⟨w5.heap.size, 0, none⟩, n, A2, c2, hide ⟨HDX.out.1, ⟨by rw [hll]; omega, fun u hu => by rw [List.eq_of_mem_replicate hu]; omega⟩, HDX.out.2.2⟩, hide (NP.more (by omega))⟩
    have hsw3 : (v == 3) = false := by simp [hv3]
    have HV3 := hide hv3
    clear hv3
    by_cases hv4 : v = 4
    · subst hv4
      have N4 := hide (N3.out.alloc (.cells #[] 41))
      have hgl3 := N3.out.lt
      have hgz3 := N3.out.gzl
      have hro := own_new0 w3 (w.heap.size + 1) 41 3 (by omega)
      have np := (show ZSt b bs (N + 202) w gz ((w3.alloc (.cells #[] 41)).setCell ⟨gz, 2, none⟩ (.slice (some ⟨w3.heap.size, 0, none⟩) 0 0)) ⟨x.z, x.of, []⟩ A c (some ⟨w3.heap.size, 0, none⟩) 0 from N4.out.putCh hbl (l := []) hro (fun g e e2 => by have h1 : some w3.heap.size = some g := e2; have := (N3.out.ro.lt g e).2; have := Option.some.inj h1; omega) (fun e => by have h1 : some w3.heap.size = some gz := e; have := Option.some.inj h1; omega))
      rw [World.setCell_alloc_past _ gz 2 _ hgl3] at np
      have NP := hide np
      have f2 := (N4.out.box.cell 2).trans rfl
      have g2 := N4.out.box.fro 2
      clear N3 x0 x1 hro np
      go_upto_region 14 with fail
      generalize (w3.setCell ⟨gz, 2, none⟩ (.slice (some ⟨w3.heap.size, 0, none⟩) 0 0)).alloc (.cells #[] 41) = w4 at *
      clear x2
      have K4 := hide (HP.out (N + 202) 2 w4 (by omega) NP.out.src)
      clear f2 g2 N4
      go_upto_region 15 with (go_at_call 58; (with_reducible refine (K4.out).mono ?_); rintro e w5 ⟨q, rfl, ⟨hq0, hq1', _⟩, hs5, ho5⟩; have hq1 := hq1' (by omega); obtain ⟨n, hn⟩ : ∃ n : Nat, 60 + q = (n : Int) := ⟨(60 + q).toNat, by omega⟩; have hwq : IntKind.i64.wrap (60 + q) = (n : Int) := (by rw [IntKind.wrap_i64] <;> omega); have N5 := hide (NP.out.only hbl ho5 hs5))
      have hn61 : n ≤ 61 := by omega
      clear NP K4 hs5 ho5 hq1'
      go_wp2_with fail
      go_loopg [4] n (fun g i wr => ∃ (k : Nat) (l : List T3) (B : Option Addr) (d : Nat), Hid (g = k) ∧ i = .int .i64 k ∧ k + l.length ≤ 61 ∧ Hid (∀ t ∈ l, CDr t) ∧ Hid (ZSt b bs (N + 204) w gz wr ⟨x.z, x.of, l⟩ A c B d))
      case atStart => exact ⟨n, [], _, _, rfl, by first | rfl | rw [hn], by simp; omega, hide fun t ht => (by cases ht), hide (N5.out.more (by omega))⟩
      case round =>
        obtain ⟨k, l, B, d, hg, rfl, hkl, HC, NR⟩ := hrel
        clear N5
        have x2 : wr.cell? ⟨gz, 2, none⟩ = some (.slice B l.length d) := NR.out.box.cell 2
        by_cases hk : 0 < k
        · have hki : (0 : Int) < (k : Int) := by omega
          obtain ⟨v, hv⟩ : ∃ v, (k : Int).tmod 4 = v := ⟨_, rfl⟩
          have hvb : 0 ≤ v ∧ v ≤ 3 := by
            have h1 : (k : Int).tmod 4 = (k : Int) % 4 := Int.tmod_eq_emod_of_nonneg (by omega)
            omega
          obtain ⟨hv0, hv3⟩ := hvb
          have hwv : IntKind.i64.wrap v = v := by rw [IntKind.wrap_i64] <;> omega
          have hrow := NR.out.rc
          have hll : l.length ≤ 60 := by omega
          have hgl := NR.out.lt
          have hgz := NR.out.gzl
          have hsz : w.heap.size + 1 ≤ wr.heap.size := by omega
          go_wp2_with (at_builtin; go_must (refine wp_app _ rfl _ _ 45 rfl (w.heap.size + 1) 41 j0 (.agg #[.int .i64 0, .int .i64 0, .int .i64 0]) 3 24 Tryd.underlying45 hj0 hy0 ht0 hc0 rfl (by decide) _ _ _ rfl (hrow.alloc _) _ _ 1 1 [.int .i64 (l.length : Int), .int .i64 0, .int .i64 v] rfl rfl (rd_new _ _ _ _ (by first | rfl | simp)) (by intro q hq; simp at hq; rcases hq with rfl | rfl | rfl <;> rfl) (by dsimp only; omega) (by decide) (by first | omega | (simp <;> omega)) ?_); intro v7 w7 hown7 hgrow7 hat7; have N6 := hide (NR.out.alloc (.cells #[.int .i64 (l.length : Int), .int .i64 0, .int .i64 v] 41)); obtain ⟨A7, c7, rfl, _⟩ := own_shape hown7; have hbx7 : BoxN w7 gz #[.int .i64 x.z, .slice A x.of.length c, .slice B l.length d] 47 := (hgrow7.block gz N6.out.lt (fun e => N6.out.nz.2 e.symm)).trans N6.out.box; have f7 : w7.cell? ⟨gz, 2, none⟩ = some (.slice B l.length d) := hbx7.cell 2; have g7 := hbx7.fro 2)
          have N8 := N6.out.pushCh hbl (t := ⟨(l.length : Int), 0, v⟩) hown7 hgrow7 hat7
          go_roundg (k - 1)
          case measure => have := hg.out; omega
          case rel =>
            refine ⟨k - 1, l ++ [⟨(l.length : Int), 0, v⟩], A7, c7, rfl, by congr 1; omega, by simp; omega, hide fun t ht => ?_, hide N8⟩
            rcases List.mem_append.1 ht with ht | ht
            · exact HC.out t ht
            · rw [List.mem_singleton] at ht; subst ht; unfold CDr; dsimp only; omega
        · obtain rfl : k = 0 := by omega
          go_wp2_with fail
          go_meet
          exact ⟨⟨x.z, x.of, l⟩, A, c, B, d, hide ⟨HDX.out.1, HDX.out.2.1, by dsimp only; omega, HC.out⟩, hide (NR.out.more (by omega))⟩
    have hsw4 : (v == 4) = false := by simp [hv4]
    have HV4 := hide hv4
    clear hv4
    go_wp2_with fail
    go_meet
    exact ⟨x, A, c, A2, c2, HDX, hide (N3.out.more (by omega))⟩
  case rest =>
    obtain ⟨y, B, d, B2, d2, HD, NR⟩ := hcut
    clear N3 x0 x1 x2
    have x0 := NR.out.box.cell 0
    have x1 := NR.out.box.cell 1
    have x2 := NR.out.box.cell 2
    obtain ⟨wr, hwr⟩ : ∃ q, q = wc := ⟨wc, rfl⟩
    subst hwr
    have l0 := x0.trans rfl
    have l1 := x1.trans rfl
    have l2 := x2.trans rfl
    have hgz := NR.out.gzl
    have T0 := hide (NR.out.res.set 0 (.int .i64 y.z))
    have T1 := hide (T0.out.set 1 (.slice B y.of.length d))
    have T2 := hide (T1.out.set 2 (.slice B2 y.ch.length d2))
    have m0' : wr.cell? ⟨w.heap.size, 0, none⟩ = some (.int .i64 0) := NR.out.res.cell 0
    have n0 := NR.out.res.fro 0
    have m1 : (wr.setCell ⟨w.heap.size, 0, none⟩ (.int .i64 y.z)).cell? ⟨w.heap.size, 1, none⟩ = some (.slice none 0 0) := T0.out.cell 1
    have n1 := T0.out.fro 1
    have m2 : ((wr.setCell ⟨w.heap.size, 0, none⟩ (.int .i64 y.z)).setCell ⟨w.heap.size, 1, none⟩ (.slice B y.of.length d)).cell? ⟨w.heap.size, 2, none⟩ = some (.slice none 0 0) := T1.out.cell 2
    have n2 := T1.out.fro 2
    have q0 : (((wr.setCell ⟨w.heap.size, 0, none⟩ (.int .i64 y.z)).setCell ⟨w.heap.size, 1, none⟩ (.slice B y.of.length d)).setCell ⟨w.heap.size, 2, none⟩ (.slice B2 y.ch.length d2)).cell? ⟨w.heap.size, 0, none⟩ = some (.int .i64 y.z) := T2.out.cell 0
    have q1 : (((wr.setCell ⟨w.heap.size, 0, none⟩ (.int .i64 y.z)).setCell ⟨w.heap.size, 1, none⟩ (.slice B y.of.length d)).setCell ⟨w.heap.size, 2, none⟩ (.slice B2 y.ch.length d2)).cell? ⟨w.heap.size, 1, none⟩ = some (.slice B y.of.length d) := T2.out.cell 1
    have q2 : (((wr.setCell ⟨w.heap.size, 0, none⟩ (.int .i64 y.z)).setCell ⟨w.heap.size, 1, none⟩ (.slice B y.of.length d)).setCell ⟨w.heap.size, 2, none⟩ (.slice B2 y.ch.length d2)).cell? ⟨w.heap.size, 2, none⟩ = some (.slice B2 y.ch.length d2) := T2.out.cell 2
    go_wp2_with fail
    have ne5 : ∀ g, (Value.slice B y.of.length d).ownBlock = some g → g ≠ w.heap.size := fun g e => by have := (NR.out.ro.lt g e).1; omega
    have ne6 : ∀ g, (Value.slice B2 y.ch.length d2).ownBlock = some g → g ≠ w.heap.size := fun g e => by have := (NR.out.rc.lt g e).1; omega
    refine bodyPost_ret (v := .agg #[.int .i64 y.z, .slice B y.of.length d, .slice B2 y.ch.length d2]) (by simp [results, Tryd.results70, go_sem, q0, q1, q2]) rfl ⟨y, B, d, B2, d2, rfl, HD.out, own_base (((NR.out.ro.kept (grown_setCell wr ⟨w.heap.size, 0, none⟩ (.int .i64 y.z)) (.inr fun e => ne5 _ e rfl)).kept (grown_setCell _ ⟨w.heap.size, 1, none⟩ (.slice B y.of.length d)) (.inr fun e => ne5 _ e rfl)).kept (grown_setCell _ ⟨w.heap.size, 2, none⟩ (.slice B2 y.ch.length d2)) (.inr fun e => ne5 _ e rfl)) (by omega), own_base (((NR.out.rc.kept (grown_setCell wr ⟨w.heap.size, 0, none⟩ (.int .i64 y.z)) (.inr fun e => ne6 _ e rfl)).kept (grown_setCell _ ⟨w.heap.size, 1, none⟩ (.slice B y.of.length d)) (.inr fun e => ne6 _ e rfl)).kept (grown_setCell _ ⟨w.heap.size, 2, none⟩ (.slice B2 y.ch.length d2)) (.inr fun e => ne6 _ e rfl)) (by omega), NR.out.ap, ?_, ?_⟩
    · exact ((((NR.out.src.set ⟨w.heap.size, 0, none⟩ (.int .i64 y.z) hbl).set ⟨w.heap.size, 1, none⟩ (.slice B y.of.length d) hbl).set ⟨w.heap.size, 2, none⟩ (.slice B2 y.ch.length d2) hbl)).more (by omega)
    · exact only_setNew (only_setNew (only_setNew NR.out.onl ⟨w.heap.size, 0, none⟩ _ (Nat.le_refl _)) ⟨w.heap.size, 1, none⟩ _ (Nat.le_refl _)) ⟨w.heap.size, 2, none⟩ _ (Nat.le_refl _)
end Go.Proofs.YtofjnmeblmbnmaaDoor
