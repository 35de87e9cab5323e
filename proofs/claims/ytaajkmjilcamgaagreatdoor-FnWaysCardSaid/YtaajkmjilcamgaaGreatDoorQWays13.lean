/-
  A drawn network.
-/
import Derived.Test.YtaajkmjilcamgaaGreatDoorQWays11
import Derived.Test.YtaajkmjilcamgaaGreatDoorQWays4
namespace Go.Proofs.YtaajkmjilcamgaaGreatDoor
open Go.RowKit
/-- A network while it is drawn: its box, its tubes' row, the result's box. -/
structure NetSt (b : Nat) (bs : List Int) (N : Int) (w0 : World) (gn n : Nat) (wr : World) (tv : Value) (tb : List T3) : Prop where
  box : BoxN wr gn #[.int .i64 n, tv] 26
  row : wr.ownsRow (gn + 1) 41 3 tv tb.length (tb.flatMap T3.cells)
  res : BoxN wr w0.heap.size #[.int .i64 0, .slice none 0 0] 26
  src : SrcAt b bs N wr
  onl : Only b (b + 1) w0 wr
  lo : w0.heap.size < gn
  hi : gn < wr.heap.size
  ok : ∀ t ∈ tb, OkTube n t
theorem NetSt.only {b : Nat} {bs : List Int} {N N' : Int} {w0 : World} {gn n : Nat} {w w' : World} {tv : Value} {tb : List T3} (h : NetSt b bs N w0 gn n w tv tb) (hb : b < w0.heap.size) (k : Only b (b + 1) w w') (hs : SrcAt b bs N' w') : NetSt b bs N' w0 gn n w' tv tb :=
  ⟨h.box.only k (.inr (by have := h.lo; omega)), row_only h.row k (by have := h.lo; omega), h.res.only k (.inr (by omega)), hs, only_trans h.onl k, h.lo, Nat.lt_of_lt_of_le h.hi k.size, h.ok⟩
theorem NetSt.drew {b : Nat} {bs : List Int} {N : Int} {w0 : World} {gn n : Nat} {w : World} {tv : Value} {tb : List T3} (h : NetSt b bs N w0 gn n w tv tb) : NetSt b bs N w0 gn n w.drew tv tb :=
  ⟨h.box, h.row, h.res, h.src.below (B := b + 1) (Below.refl _ _).drew (Nat.lt_succ_self b), only_trans h.onl (only_of_below (Below.refl _ w).drew), h.lo, h.hi, h.ok⟩
theorem NetSt.more {b : Nat} {bs : List Int} {N N' : Int} {w0 : World} {gn n : Nat} {w : World} {tv : Value} {tb : List T3} (h : NetSt b bs N w0 gn n w tv tb) (hN : N ≤ N') : NetSt b bs N' w0 gn n w tv tb :=
  ⟨h.box, h.row, h.res, h.src.more hN, h.onl, h.lo, h.hi, h.ok⟩
theorem NetSt.alloc {b : Nat} {bs : List Int} {N : Int} {w0 : World} {gn n : Nat} {w : World} {tv : Value} {tb : List T3} (h : NetSt b bs N w0 gn n w tv tb) (o : Obj) : NetSt b bs N w0 gn n (w.alloc o) tv tb :=
  ⟨h.box.alloc o, h.row.alloc o, h.res.alloc o, h.src.alloc o, only_alloc h.onl o, h.lo, Nat.lt_of_lt_of_le h.hi (by simp), h.ok⟩
/-- Behind an append and the store of the new slice. -/
theorem NetSt.push {b : Nat} {bs : List Int} {N : Int} {w0 : World} {gn n : Nat} {w w5 : World} {tv v' : Value} {tb : List T3} {t : T3} (h : NetSt b bs N w0 gn n w tv tb) (hb : b < w0.heap.size) (ht : OkTube n t)
    (hown : w5.ownsRow (gn + 1) 41 3 v' (tb.length + 1) (tb.flatMap T3.cells ++ [.int .i64 t.a, .int .i64 t.b, .int .i64 t.c])) (hg : w.grownBy w5 tv.ownBlock) :
    NetSt b bs N w0 gn n (w5.setCell ⟨gn, 1, none⟩ v') v' (tb ++ [t]) := by
  have hlo := h.lo
  have hbx : BoxN w5 gn #[.int .i64 n, tv] 26 := (hg.block gn h.hi (fun e => by have := (h.row.lt _ e.symm).1; omega)).trans h.box
  have hrs : BoxN w5 w0.heap.size #[.int .i64 0, .slice none 0 0] 26 := (hg.block _ h.res.lt (fun e => by have := (h.row.lt _ e.symm).1; omega)).trans h.res
  have hne : v'.ownBlock = none ∨ v'.ownBlock ≠ some gn := .inr (fun e => by have := (hown.lt _ e).1; omega)
  refine ⟨hbx.set 1 v', ?_, hrs.other (by omega) 1 v', ?_, ?_, hlo, ?_, ?_⟩
  · have h2 := hown.kept (grown_setCell w5 ⟨gn, 1, none⟩ v') hne
    rw [List.length_append, List.flatMap_append]
    exact h2
  · exact (h.src.grown hg (fun g e => by have := (h.row.lt g e).1; omega)).set ⟨gn, 1, none⟩ v' (by dsimp only; omega)
  · exact only_setNew (only_app h.onl h.row hg (by omega)) ⟨gn, 1, none⟩ v' (by dsimp only; omega)
  · have := hg.size; have := h.hi; simp [World.setCell]; omega
  · intro u hu
    rcases List.mem_append.1 hu with hu | hu
    · exact h.ok u hu
    · rw [List.mem_singleton] at hu; subst hu; exact ht
set_option maxRecDepth 100000 in
set_option maxHeartbeats 8000000 in
theorem drawNet_any (b : Nat) (bs : List Int) (N : Int) (w : World) (hbs : BsOk bs) (hN : N ≤ 1099509000000) (h : SrcAt b bs N w) :
    Calls Tryz.prog 34 #[.pointer (some ⟨b, 0, none⟩)] w fun e w' => ∃ (n : Nat) (A : Option Addr) (c : Nat) (tb : List T3), e = .returned (.agg #[.int .i64 n, .slice A tb.length c]) ∧ w'.ownsRow w.heap.size 41 3 (.slice A tb.length c) tb.length (tb.flatMap T3.cells) ∧ OkNet n tb ∧ tb.length ≤ 14 ∧ Only b (b + 1) w w' := by
  obtain ⟨i0, hi0, hz0, hs0, hb0⟩ := info_parts Tube_inf
  have hbl := h.lt
  have HP := hide fun M n W (hM : M ≤ 1099511000000) (hW : SrcAt b bs M W) => pick_any b bs M n W hbs hM hW
  have HO1 := hide fun M n W (hM : M ≤ 1099511000000) (hW : SrcAt b bs M W) => one_any b bs M n W hbs hM hW
  have HNT := hide fun M n W (hM : M ≤ 1099510000000) (h1 : 2 ≤ n) (h2 : n ≤ 10) (hW : SrcAt b bs M W) => newTube_any b bs M n W hbs hM h1 h2 hW
  have X0 := hide (BoxN.new w #[.int .i64 0, .slice none 0 0] 26)
  have S0 := hide (h.alloc (.cells #[.int .i64 0, .slice none 0 0] 26))
  have O0 : Hid (Only b (b + 1) w (w.alloc (.cells #[.int .i64 0, .slice none 0 0] 26))) := only_of_below ((Below.refl _ _).alloc (Nat.le_refl _) _)
  have z0 : w.heap.size + 1 ≤ (w.alloc (.cells #[.int .i64 0, .slice none 0 0] 26)).heap.size := by simp
  have C0 := hide (HP.out N 5 _ (by omega) S0.out)
  clear h
  go_enter Tryz.func34, Tryz.ntmps34
  go_upto_region 2 with (go_at_call 68; (with_reducible refine (C0.out).mono ?_); rintro e w1 ⟨z, rfl, ⟨hz0', hz1', _⟩, hs1, ho1⟩; have hz5 := hz1' (by omega); obtain ⟨n0, rfl⟩ := Int.eq_ofNat_of_zero_le hz0'; have X1 := hide (X0.out.only ho1 (.inr (by omega))); have z1 := ho1.size; have O1 := hide (only_trans O0.out ho1); have S1 := hide hs1; clear hs1 ho1 C0 X0 S0 O0 hz1')
  obtain ⟨n, hn⟩ : ∃ n : Nat, (n : Int) = 2 + n0 := ⟨2 + n0, by omega⟩
  rw [← hn]
  have hn2 : 2 ≤ n := by omega
  have hn6 : n ≤ 6 := by omega
  have NS := hide (show NetSt b bs (N + 2) w w1.heap.size n (w1.alloc (.cells #[.int .i64 n, .slice none 0 0] 26)) (.slice none 0 0) [] from ⟨BoxN.new w1 _ _, World.ownsRow_nil _ _ _ _, X1.out.alloc _, S1.out.alloc _, only_alloc O1.out _, by omega, by simp, fun t ht => by cases ht⟩)
  clear X1 S1 O1 hn hz5 z1 z0
  generalize w1.heap.size = gn at *
  generalize w1.alloc (.cells #[.int .i64 n, .slice none 0 0] 26) = w2 at *
  have C1 := hide (HO1.out (N + 2) 2 w2 (by omega) NS.out.src)
  go_upto_if 11 with (go_at_call 63; (with_reducible refine (C1.out).mono ?_); rintro e w3 ⟨v, rfl, hs3, ho3⟩)
  have N3 := hide (NS.out.only hbl ho3 hs3)
  clear NS C1 hs3 ho3
  go_cut [] (fun wx => ∃ (tv : Value) (tb : List T3), tb.length ≤ 6 ∧ NetSt b bs (N + 100) w gn n wx tv tb)
  case first =>
    cases v
    · go_wp2_with fail
      go_meet
      exact ⟨_, [], by simp, N3.out.more (by omega)⟩
    · go_wp2_with fail
      go_loopg [4] n (fun g i wr => ∃ (k : Nat) (tv : Value) (tb : List T3), k ≤ n ∧ Hid (g = n - k) ∧ i = .int .i64 k ∧ Hid (tb.length = k) ∧ Hid (NetSt b bs (N + 2 + 2 + 2 * (k : Int)) w gn n wr tv tb))
      case atStart => exact ⟨0, _, [], by omega, by simp [Hid], rfl, rfl, N3.out.more (by omega)⟩
      case round =>
        obtain ⟨k, tv, tb, hk, hg, rfl, HL, NR⟩ := hrel
        clear N3
        have k0 : wr.cell? ⟨gn, 0, none⟩ = some (.int .i64 n) := NR.out.box.cell 0
        by_cases hkn : k < n
        · have hkn' : (k : Int) < (n : Int) := by omega
          go_wp2_with fail
          have ND := hide NR.out.drew
          have e0 : wr.drew.cell? ⟨gn, 0, none⟩ = some (.int .i64 n) := ND.out.box.cell 0
          have e1 : wr.drew.cell? ⟨gn, 1, none⟩ = some tv := ND.out.box.cell 1
          clear k0 NR
          refine wp_region_held_drew (S := fun W => W.cell? ⟨gn, 0, none⟩ = some (.int .i64 n)) (by kernel_rfl) (e0) (fun hHeld => ?_)
          generalize wr.drew = wd at *
          have HC := hide (HP.out (N + 2 + 2 + 2 * (k : Int)) 20 wd (by omega) ND.out.src)
          have hnz : n ≠ 0 := by omega
          have hwi : IntKind.i64.wrap ((k : Int) + 1) = (k : Int) + 1 := by rw [IntKind.wrap_i64] <;> omega
          have hring := ring_mod (a := (k : Int)) (q := 1) (n := (n : Int)) (by omega) hkn' (by omega) (by omega)
          obtain ⟨v, hv⟩ : ∃ v, ((k : Int) + 1).tmod n = v := ⟨_, rfl⟩
          rw [hv] at hring
          have hv0 : 0 ≤ v ∧ v ≤ (n : Int) - 1 ∧ v ≠ (k : Int) := by split at hring <;> omega
          have hwv : IntKind.i64.wrap v = v := by rw [IntKind.wrap_i64] <;> omega
          have HV0 := hide hv0
          have hlen5 : tb.length ≤ 6 := by have := HL.out; omega
          clear hring hv0
          refine wpAnyH_take (i := 0) (v := ?_) rfl (by kernel_rfl) (by kernel_rfl) (by kernel_rfl) (fun _ _ _ h => h) (Or.inl ⟨by rfl, ?_⟩) (by assumption) ?_
          rotate_left 1
          · (intro w hSw; (try dsimp only at hSw); go_simp; try with_reducible rfl)
          try simp only [Act.put, List.getElem_toArray, List.getElem_cons_succ, List.getElem_cons_zero, List.setIfInBounds_toArray, List.set_cons_zero, List.set_cons_succ]
          refine wpAnyH_take (i := 2) (v := ?_) rfl (by kernel_rfl) (by kernel_rfl) (by kernel_rfl) (fun _ _ _ h => h) (Or.inl ⟨by rfl, ?_⟩) (by assumption) ?_
          rotate_left 1
          · (intro w hSw; (try dsimp only at hSw); go_simp; try with_reducible rfl)
          try simp only [Act.put, List.getElem_toArray, List.getElem_cons_succ, List.getElem_cons_zero, List.setIfInBounds_toArray, List.set_cons_zero, List.set_cons_succ]
          refine wpAnyH_take (i := 3) (v := ?_) rfl (by kernel_rfl) (by kernel_rfl) (by kernel_rfl) (fun _ _ _ h => h) (Or.inl ⟨by rfl, ?_⟩) (by assumption) ?_
          rotate_left 1
          · (intro w hSw; (try dsimp only at hSw); go_simp; try with_reducible rfl)
          try simp only [Act.put, List.getElem_toArray, List.getElem_cons_succ, List.getElem_cons_zero, List.setIfInBounds_toArray, List.set_cons_zero, List.set_cons_succ]
          refine wpAnyH_take (i := 4) (v := ?_) rfl (by kernel_rfl) (by kernel_rfl) (by kernel_rfl) (fun _ _ _ h => h) (Or.inl ⟨by rfl, ?_⟩) (by assumption) ?_
          rotate_left 1
          · (intro w hSw; (try dsimp only at hSw); go_simp; try with_reducible rfl)
          try simp only [Act.put, List.getElem_toArray, List.getElem_cons_succ, List.getElem_cons_zero, List.setIfInBounds_toArray, List.set_cons_zero, List.set_cons_succ]
          refine wpAnyH_take (i := 5) (v := ?_) rfl (by kernel_rfl) (by kernel_rfl) (by kernel_rfl) (fun _ _ _ h => h) (Or.inl ⟨by rfl, ?_⟩) (by assumption) ?_
          rotate_left 1
          · (intro w hSw; (try dsimp only at hSw); go_simp; try with_reducible rfl)
          try simp only [Act.put, List.getElem_toArray, List.getElem_cons_succ, List.getElem_cons_zero, List.setIfInBounds_toArray, List.set_cons_zero, List.set_cons_succ]
          refine wpAnyH_take (i := 6) (v := ?_) rfl (by kernel_rfl) (by kernel_rfl) (by kernel_rfl) (fun _ _ _ h => h) (Or.inl ⟨by rfl, ?_⟩) (by assumption) ?_
          rotate_left 1
          · (intro w hSw; (try dsimp only at hSw); go_simp; try with_reducible rfl)
          try simp only [Act.put, List.getElem_toArray, List.getElem_cons_succ, List.getElem_cons_zero, List.setIfInBounds_toArray, List.set_cons_zero, List.set_cons_succ]
          refine wpAnyH_take (i := 7) (v := ?_) rfl (by kernel_rfl) (by kernel_rfl) (by kernel_rfl) (fun _ _ _ h => h) (Or.inl ⟨by rfl, ?_⟩) (by assumption) ?_
          rotate_left 1
          · (intro w hSw; (try dsimp only at hSw); go_simp; try with_reducible rfl)
          try simp only [Act.put, List.getElem_toArray, List.getElem_cons_succ, List.getElem_cons_zero, List.setIfInBounds_toArray, List.set_cons_zero, List.set_cons_succ]
          refine wpAnyH_take (i := 8) (v := ?_) rfl (by kernel_rfl) (by kernel_rfl) (by kernel_rfl) (fun _ _ _ h => h) (Or.inl ⟨by rfl, ?_⟩) (by assumption) ?_
          rotate_left 1
          · (intro w hSw; (try dsimp only at hSw); go_simp; try with_reducible rfl)
          try simp only [Act.put, List.getElem_toArray, List.getElem_cons_succ, List.getElem_cons_zero, List.setIfInBounds_toArray, List.set_cons_zero, List.set_cons_succ]
          refine wpAnyH_ready (rs := [1, 9]) (by kernel_rfl) (by simp) ?_
          refine AllReadyH.cons rfl (fun K hK => ?_) (AllReadyH.cons rfl (fun K hK => ?_) AllReadyH.nil)
          · try simp only [Act.put, List.getElem_toArray, List.getElem_cons_succ, List.getElem_cons_zero, List.setIfInBounds_toArray, List.set_cons_zero, List.set_cons_succ]
            go_simp
            refine hK.out _ _ (e0) (fun hHeld => ?_)
            clear hK K
            try simp only [Act.put, List.getElem_toArray, List.getElem_cons_succ, List.getElem_cons_zero, List.setIfInBounds_toArray, List.set_cons_zero, List.set_cons_succ]
            refine wpAnyH_ready (rs := [9]) (by kernel_rfl) (by simp) ?_
            refine AllReadyH.cons rfl (fun K hK => ?_) AllReadyH.nil
            try simp only [Act.put, List.getElem_toArray, List.getElem_cons_succ, List.getElem_cons_zero, List.setIfInBounds_toArray, List.set_cons_zero, List.set_cons_succ]
            go_simp
            go_at_call 68
            refine (HC.out).mono ?_
            rintro e w4 ⟨u, rfl, ⟨hu0, hu1', _⟩, hs4, ho4⟩
            have hu1 := hu1' (by omega)
            have N4 := hide (ND.out.only hbl ho4 hs4)
            have g0 : w4.cell? ⟨gn, 0, none⟩ = some (.int .i64 n) := N4.out.box.cell 0
            have g1 : w4.cell? ⟨gn, 1, none⟩ = some tv := N4.out.box.cell 1
            have hwu : IntKind.i64.wrap (1 + u) = 1 + u := by rw [IntKind.wrap_i64] <;> omega
            have hwm : IntKind.i64.wrap (10 * (1 + u)) = 10 * (1 + u) := by rw [IntKind.wrap_i64] <;> omega
            clear hs4 ho4 hu1'
            dsimp only
            refine hK.out _ _ (g0) (fun hHeld => ?_)
            clear hK K
            try simp only [Act.put, List.getElem_toArray, List.getElem_cons_succ, List.getElem_cons_zero, List.setIfInBounds_toArray, List.set_cons_zero, List.set_cons_succ]
            refine wpAnyH_take (i := 10) (v := ?_) rfl (by kernel_rfl) (by kernel_rfl) (by kernel_rfl) (fun _ _ _ h => h) (Or.inl ⟨by rfl, ?_⟩) (by assumption) ?_
            rotate_left 1
            · (intro w hSw; (try dsimp only at hSw); go_simp; try with_reducible rfl)
            try simp only [Act.put, List.getElem_toArray, List.getElem_cons_succ, List.getElem_cons_zero, List.setIfInBounds_toArray, List.set_cons_zero, List.set_cons_succ]
            refine wpAnyH_take (i := 11) (v := ?_) rfl (by kernel_rfl) (by kernel_rfl) (by kernel_rfl) (fun _ _ _ h => h) (Or.inl ⟨by rfl, ?_⟩) (by assumption) ?_
            rotate_left 1
            · (intro w hSw; (try dsimp only at hSw); go_simp; try with_reducible rfl)
            try simp only [Act.put, List.getElem_toArray, List.getElem_cons_succ, List.getElem_cons_zero, List.setIfInBounds_toArray, List.set_cons_zero, List.set_cons_succ]
            refine wpAnyH_take (i := 12) (v := ?_) rfl (by kernel_rfl) (by kernel_rfl) (by kernel_rfl) (fun _ _ _ h => h) (Or.inl ⟨by rfl, ?_⟩) (by assumption) ?_
            rotate_left 1
            · (intro w hSw; (try dsimp only at hSw); go_simp; try with_reducible rfl)
            try simp only [Act.put, List.getElem_toArray, List.getElem_cons_succ, List.getElem_cons_zero, List.setIfInBounds_toArray, List.set_cons_zero, List.set_cons_succ]
            refine wpAnyH_ready (rs := [13]) (by kernel_rfl) (by simp) ?_
            refine AllReadyH.cons rfl (fun K hK => ?_) AllReadyH.nil
            try simp only [Act.put, List.getElem_toArray, List.getElem_cons_succ, List.getElem_cons_zero, List.setIfInBounds_toArray, List.set_cons_zero, List.set_cons_succ]
            go_simp
            have N5 := hide (N4.out.alloc (.cells #[.int .i64 (k : Int), .int .i64 v, .int .i64 (10 * (1 + u))] 41))
            have j0 : (w4.alloc (.cells #[.int .i64 (k : Int), .int .i64 v, .int .i64 (10 * (1 + u))] 41)).cell? ⟨gn, 0, none⟩ = some (.int .i64 n) := N5.out.box.cell 0
            have j1 : (w4.alloc (.cells #[.int .i64 (k : Int), .int .i64 v, .int .i64 (10 * (1 + u))] 41)).cell? ⟨gn, 1, none⟩ = some tv := N5.out.box.cell 1
            have hrd := rd_new w4 [.int .i64 (k : Int), .int .i64 v, .int .i64 (10 * (1 + u))] 41 _ rfl
            have hown5 := N5.out.row
            have hsz5 : gn + 1 ≤ (w4.alloc (.cells #[.int .i64 (k : Int), .int .i64 v, .int .i64 (10 * (1 + u))] 41)).heap.size := N5.out.hi
            refine hK.out _ _ (j0) (fun hHeld => ?_)
            clear hK K
            try simp only [Act.put, List.getElem_toArray, List.getElem_cons_succ, List.getElem_cons_zero, List.setIfInBounds_toArray, List.set_cons_zero, List.set_cons_succ]
            refine wpAnyH_ready (rs := [14]) (by kernel_rfl) (by simp) ?_
            refine AllReadyH.cons rfl (fun K hK => ?_) AllReadyH.nil
            try simp only [Act.put, List.getElem_toArray, List.getElem_cons_succ, List.getElem_cons_zero, List.setIfInBounds_toArray, List.set_cons_zero, List.set_cons_succ]
            rw [if_pos (by rfl)]
            refine op_app _ _ _ 24 rfl (gn + 1) 41 i0 (.agg #[.int .i64 0, .int .i64 0, .int .i64 0]) 3 24 Tryz.underlying24 hi0 hz0 hs0 hb0 rfl (by decide) _ _ _ rfl hown5 _ _ 1 1 [.int .i64 (k : Int), .int .i64 v, .int .i64 (10 * (1 + u))] rfl rfl hrd (by intro q hq; simp at hq; rcases hq with rfl | rfl | rfl <;> rfl) (by omega) (by decide) hsz5 ?_
            intro v' w6 hown6 hgrow6 hat6
            obtain ⟨A7, c7, rfl, _⟩ := own_shape hown6
            have hbx6 : BoxN w6 gn #[.int .i64 n, tv] 26 := (hgrow6.block gn N5.out.hi (fun e => by have := (hown5.lt _ e.symm).1; omega)).trans N5.out.box
            have l0 : w6.cell? ⟨gn, 0, none⟩ = some (.int .i64 n) := hbx6.cell 0
            have l1 : w6.cell? ⟨gn, 1, none⟩ = some tv := hbx6.cell 1
            have lf := hbx6.fro 1
            have N7 := hide (N5.out.push (t := ⟨(k : Int), v, 10 * (1 + u)⟩) hbl (by obtain ⟨a1, a2, a3⟩ := HV0.out; exact ⟨⟨by dsimp only; omega, by dsimp only; omega⟩, ⟨a1, a2⟩, (fun h => a3 h.symm), by dsimp only; omega, by dsimp only; omega⟩) hown6 hgrow6)
            dsimp only
            refine hK.out _ _ (l0) (fun hHeld => ?_)
            clear hK K
            try simp only [Act.put, List.getElem_toArray, List.getElem_cons_succ, List.getElem_cons_zero, List.setIfInBounds_toArray, List.set_cons_zero, List.set_cons_succ]
            refine wpAnyH_take (i := 15) (v := ?_) rfl (by kernel_rfl) (by kernel_rfl) (by kernel_rfl) (fun _ _ _ h => h) (Or.inl ⟨by rfl, ?_⟩) (by assumption) ?_
            rotate_left 1
            · (intro w hSw; (try dsimp only at hSw); go_simp; try with_reducible rfl)
            try simp only [Act.put, List.getElem_toArray, List.getElem_cons_succ, List.getElem_cons_zero, List.setIfInBounds_toArray, List.set_cons_zero, List.set_cons_succ]
            refine wpAnyH_ready (rs := [16]) (by kernel_rfl) (by simp) ?_
            refine AllReadyH.cons rfl (fun K hK => ?_) AllReadyH.nil
            try simp only [Act.put, List.getElem_toArray, List.getElem_cons_succ, List.getElem_cons_zero, List.setIfInBounds_toArray, List.set_cons_zero, List.set_cons_succ]
            go_simp
            have m0 : (w6.setCell ⟨gn, 1, none⟩ (.slice A7 (tb.length + 1) c7)).cell? ⟨gn, 0, none⟩ = some (.int .i64 n) := N7.out.box.cell 0
            refine hK.out _ _ (m0) (fun hHeld => ?_)
            clear hK K
            try simp only [Act.put, List.getElem_toArray, List.getElem_cons_succ, List.getElem_cons_zero, List.setIfInBounds_toArray, List.set_cons_zero, List.set_cons_succ]
            refine wpAnyH_done (by kernel_rfl) ?_ _
            go_wp2_with fail
            go_roundg (n - (k + 1))
            case measure => have := hg.out; omega
            case rel => exact ⟨k + 1, .slice A7 (tb.length + 1) c7, tb ++ [⟨(k : Int), v, 10 * (1 + u)⟩], by omega, rfl, by go_num, by have := HL.out; unfold Hid; rw [List.length_append, this]; rfl, hide (N7.out.more (by omega))⟩
          · try simp only [Act.put, List.getElem_toArray, List.getElem_cons_succ, List.getElem_cons_zero, List.setIfInBounds_toArray, List.set_cons_zero, List.set_cons_succ]
            go_simp
            go_at_call 68
            refine (HC.out).mono ?_
            rintro e w4 ⟨u, rfl, ⟨hu0, hu1', _⟩, hs4, ho4⟩
            have hu1 := hu1' (by omega)
            have N4 := hide (ND.out.only hbl ho4 hs4)
            have g0 : w4.cell? ⟨gn, 0, none⟩ = some (.int .i64 n) := N4.out.box.cell 0
            have g1 : w4.cell? ⟨gn, 1, none⟩ = some tv := N4.out.box.cell 1
            have hwu : IntKind.i64.wrap (1 + u) = 1 + u := by rw [IntKind.wrap_i64] <;> omega
            have hwm : IntKind.i64.wrap (10 * (1 + u)) = 10 * (1 + u) := by rw [IntKind.wrap_i64] <;> omega
            clear hs4 ho4 hu1'
            dsimp only
            refine hK.out _ _ (g0) (fun hHeld => ?_)
            clear hK K
            try simp only [Act.put, List.getElem_toArray, List.getElem_cons_succ, List.getElem_cons_zero, List.setIfInBounds_toArray, List.set_cons_zero, List.set_cons_succ]
            refine wpAnyH_take (i := 10) (v := ?_) rfl (by kernel_rfl) (by kernel_rfl) (by kernel_rfl) (fun _ _ _ h => h) (Or.inl ⟨by rfl, ?_⟩) (by assumption) ?_
            rotate_left 1
            · (intro w hSw; (try dsimp only at hSw); go_simp; try with_reducible rfl)
            try simp only [Act.put, List.getElem_toArray, List.getElem_cons_succ, List.getElem_cons_zero, List.setIfInBounds_toArray, List.set_cons_zero, List.set_cons_succ]
            refine wpAnyH_take (i := 11) (v := ?_) rfl (by kernel_rfl) (by kernel_rfl) (by kernel_rfl) (fun _ _ _ h => h) (Or.inl ⟨by rfl, ?_⟩) (by assumption) ?_
            rotate_left 1
            · (intro w hSw; (try dsimp only at hSw); go_simp; try with_reducible rfl)
            try simp only [Act.put, List.getElem_toArray, List.getElem_cons_succ, List.getElem_cons_zero, List.setIfInBounds_toArray, List.set_cons_zero, List.set_cons_succ]
            refine wpAnyH_take (i := 12) (v := ?_) rfl (by kernel_rfl) (by kernel_rfl) (by kernel_rfl) (fun _ _ _ h => h) (Or.inl ⟨by rfl, ?_⟩) (by assumption) ?_
            rotate_left 1
            · (intro w hSw; (try dsimp only at hSw); go_simp; try with_reducible rfl)
            try simp only [Act.put, List.getElem_toArray, List.getElem_cons_succ, List.getElem_cons_zero, List.setIfInBounds_toArray, List.set_cons_zero, List.set_cons_succ]
            refine wpAnyH_ready (rs := [1, 13]) (by kernel_rfl) (by simp) ?_
            refine AllReadyH.cons rfl (fun K hK => ?_) (AllReadyH.cons rfl (fun K hK => ?_) AllReadyH.nil)
            · try simp only [Act.put, List.getElem_toArray, List.getElem_cons_succ, List.getElem_cons_zero, List.setIfInBounds_toArray, List.set_cons_zero, List.set_cons_succ]
              go_simp
              refine hK.out _ _ (g0) (fun hHeld => ?_)
              clear hK K
              try simp only [Act.put, List.getElem_toArray, List.getElem_cons_succ, List.getElem_cons_zero, List.setIfInBounds_toArray, List.set_cons_zero, List.set_cons_succ]
              refine wpAnyH_ready (rs := [13]) (by kernel_rfl) (by simp) ?_
              refine AllReadyH.cons rfl (fun K hK => ?_) AllReadyH.nil
              try simp only [Act.put, List.getElem_toArray, List.getElem_cons_succ, List.getElem_cons_zero, List.setIfInBounds_toArray, List.set_cons_zero, List.set_cons_succ]
              go_simp
              have N5 := hide (N4.out.alloc (.cells #[.int .i64 (k : Int), .int .i64 v, .int .i64 (10 * (1 + u))] 41))
              have j0 : (w4.alloc (.cells #[.int .i64 (k : Int), .int .i64 v, .int .i64 (10 * (1 + u))] 41)).cell? ⟨gn, 0, none⟩ = some (.int .i64 n) := N5.out.box.cell 0
              have j1 : (w4.alloc (.cells #[.int .i64 (k : Int), .int .i64 v, .int .i64 (10 * (1 + u))] 41)).cell? ⟨gn, 1, none⟩ = some tv := N5.out.box.cell 1
              have hrd := rd_new w4 [.int .i64 (k : Int), .int .i64 v, .int .i64 (10 * (1 + u))] 41 _ rfl
              have hown5 := N5.out.row
              have hsz5 : gn + 1 ≤ (w4.alloc (.cells #[.int .i64 (k : Int), .int .i64 v, .int .i64 (10 * (1 + u))] 41)).heap.size := N5.out.hi
              refine hK.out _ _ (j0) (fun hHeld => ?_)
              clear hK K
              try simp only [Act.put, List.getElem_toArray, List.getElem_cons_succ, List.getElem_cons_zero, List.setIfInBounds_toArray, List.set_cons_zero, List.set_cons_succ]
              refine wpAnyH_ready (rs := [14]) (by kernel_rfl) (by simp) ?_
              refine AllReadyH.cons rfl (fun K hK => ?_) AllReadyH.nil
              try simp only [Act.put, List.getElem_toArray, List.getElem_cons_succ, List.getElem_cons_zero, List.setIfInBounds_toArray, List.set_cons_zero, List.set_cons_succ]
              rw [if_pos (by rfl)]
              refine op_app _ _ _ 24 rfl (gn + 1) 41 i0 (.agg #[.int .i64 0, .int .i64 0, .int .i64 0]) 3 24 Tryz.underlying24 hi0 hz0 hs0 hb0 rfl (by decide) _ _ _ rfl hown5 _ _ 1 1 [.int .i64 (k : Int), .int .i64 v, .int .i64 (10 * (1 + u))] rfl rfl hrd (by intro q hq; simp at hq; rcases hq with rfl | rfl | rfl <;> rfl) (by omega) (by decide) hsz5 ?_
              intro v' w6 hown6 hgrow6 hat6
              obtain ⟨A7, c7, rfl, _⟩ := own_shape hown6
              have hbx6 : BoxN w6 gn #[.int .i64 n, tv] 26 := (hgrow6.block gn N5.out.hi (fun e => by have := (hown5.lt _ e.symm).1; omega)).trans N5.out.box
              have l0 : w6.cell? ⟨gn, 0, none⟩ = some (.int .i64 n) := hbx6.cell 0
              have l1 : w6.cell? ⟨gn, 1, none⟩ = some tv := hbx6.cell 1
              have lf := hbx6.fro 1
              have N7 := hide (N5.out.push (t := ⟨(k : Int), v, 10 * (1 + u)⟩) hbl (by obtain ⟨a1, a2, a3⟩ := HV0.out; exact ⟨⟨by dsimp only; omega, by dsimp only; omega⟩, ⟨a1, a2⟩, (fun h => a3 h.symm), by dsimp only; omega, by dsimp only; omega⟩) hown6 hgrow6)
              dsimp only
              refine hK.out _ _ (l0) (fun hHeld => ?_)
              clear hK K
              try simp only [Act.put, List.getElem_toArray, List.getElem_cons_succ, List.getElem_cons_zero, List.setIfInBounds_toArray, List.set_cons_zero, List.set_cons_succ]
              refine wpAnyH_take (i := 15) (v := ?_) rfl (by kernel_rfl) (by kernel_rfl) (by kernel_rfl) (fun _ _ _ h => h) (Or.inl ⟨by rfl, ?_⟩) (by assumption) ?_
              rotate_left 1
              · (intro w hSw; (try dsimp only at hSw); go_simp; try with_reducible rfl)
              try simp only [Act.put, List.getElem_toArray, List.getElem_cons_succ, List.getElem_cons_zero, List.setIfInBounds_toArray, List.set_cons_zero, List.set_cons_succ]
              refine wpAnyH_ready (rs := [16]) (by kernel_rfl) (by simp) ?_
              refine AllReadyH.cons rfl (fun K hK => ?_) AllReadyH.nil
              try simp only [Act.put, List.getElem_toArray, List.getElem_cons_succ, List.getElem_cons_zero, List.setIfInBounds_toArray, List.set_cons_zero, List.set_cons_succ]
              go_simp
              have m0 : (w6.setCell ⟨gn, 1, none⟩ (.slice A7 (tb.length + 1) c7)).cell? ⟨gn, 0, none⟩ = some (.int .i64 n) := N7.out.box.cell 0
              refine hK.out _ _ (m0) (fun hHeld => ?_)
              clear hK K
              try simp only [Act.put, List.getElem_toArray, List.getElem_cons_succ, List.getElem_cons_zero, List.setIfInBounds_toArray, List.set_cons_zero, List.set_cons_succ]
              refine wpAnyH_done (by kernel_rfl) ?_ _
              go_wp2_with fail
              go_roundg (n - (k + 1))
              case measure => have := hg.out; omega
              case rel => exact ⟨k + 1, .slice A7 (tb.length + 1) c7, tb ++ [⟨(k : Int), v, 10 * (1 + u)⟩], by omega, rfl, by go_num, by have := HL.out; unfold Hid; rw [List.length_append, this]; rfl, hide (N7.out.more (by omega))⟩
            · try simp only [Act.put, List.getElem_toArray, List.getElem_cons_succ, List.getElem_cons_zero, List.setIfInBounds_toArray, List.set_cons_zero, List.set_cons_succ]
              go_simp
              have N5 := hide (N4.out.alloc (.cells #[.int .i64 (k : Int), .int .i64 v, .int .i64 (10 * (1 + u))] 41))
              have j0 : (w4.alloc (.cells #[.int .i64 (k : Int), .int .i64 v, .int .i64 (10 * (1 + u))] 41)).cell? ⟨gn, 0, none⟩ = some (.int .i64 n) := N5.out.box.cell 0
              have j1 : (w4.alloc (.cells #[.int .i64 (k : Int), .int .i64 v, .int .i64 (10 * (1 + u))] 41)).cell? ⟨gn, 1, none⟩ = some tv := N5.out.box.cell 1
              have hrd := rd_new w4 [.int .i64 (k : Int), .int .i64 v, .int .i64 (10 * (1 + u))] 41 _ rfl
              have hown5 := N5.out.row
              have hsz5 : gn + 1 ≤ (w4.alloc (.cells #[.int .i64 (k : Int), .int .i64 v, .int .i64 (10 * (1 + u))] 41)).heap.size := N5.out.hi
              refine hK.out _ _ (j0) (fun hHeld => ?_)
              clear hK K
              try simp only [Act.put, List.getElem_toArray, List.getElem_cons_succ, List.getElem_cons_zero, List.setIfInBounds_toArray, List.set_cons_zero, List.set_cons_succ]
              refine wpAnyH_ready (rs := [1]) (by kernel_rfl) (by simp) ?_
              refine AllReadyH.cons rfl (fun K hK => ?_) AllReadyH.nil
              try simp only [Act.put, List.getElem_toArray, List.getElem_cons_succ, List.getElem_cons_zero, List.setIfInBounds_toArray, List.set_cons_zero, List.set_cons_succ]
              go_simp
              refine hK.out _ _ (j0) (fun hHeld => ?_)
              clear hK K
              try simp only [Act.put, List.getElem_toArray, List.getElem_cons_succ, List.getElem_cons_zero, List.setIfInBounds_toArray, List.set_cons_zero, List.set_cons_succ]
              refine wpAnyH_ready (rs := [14]) (by kernel_rfl) (by simp) ?_
              refine AllReadyH.cons rfl (fun K hK => ?_) AllReadyH.nil
              try simp only [Act.put, List.getElem_toArray, List.getElem_cons_succ, List.getElem_cons_zero, List.setIfInBounds_toArray, List.set_cons_zero, List.set_cons_succ]
              rw [if_pos (by rfl)]
              refine op_app _ _ _ 24 rfl (gn + 1) 41 i0 (.agg #[.int .i64 0, .int .i64 0, .int .i64 0]) 3 24 Tryz.underlying24 hi0 hz0 hs0 hb0 rfl (by decide) _ _ _ rfl hown5 _ _ 1 1 [.int .i64 (k : Int), .int .i64 v, .int .i64 (10 * (1 + u))] rfl rfl hrd (by intro q hq; simp at hq; rcases hq with rfl | rfl | rfl <;> rfl) (by omega) (by decide) hsz5 ?_
              intro v' w6 hown6 hgrow6 hat6
              obtain ⟨A7, c7, rfl, _⟩ := own_shape hown6
              have hbx6 : BoxN w6 gn #[.int .i64 n, tv] 26 := (hgrow6.block gn N5.out.hi (fun e => by have := (hown5.lt _ e.symm).1; omega)).trans N5.out.box
              have l0 : w6.cell? ⟨gn, 0, none⟩ = some (.int .i64 n) := hbx6.cell 0
              have l1 : w6.cell? ⟨gn, 1, none⟩ = some tv := hbx6.cell 1
              have lf := hbx6.fro 1
              have N7 := hide (N5.out.push (t := ⟨(k : Int), v, 10 * (1 + u)⟩) hbl (by obtain ⟨a1, a2, a3⟩ := HV0.out; exact ⟨⟨by dsimp only; omega, by dsimp only; omega⟩, ⟨a1, a2⟩, (fun h => a3 h.symm), by dsimp only; omega, by dsimp only; omega⟩) hown6 hgrow6)
              dsimp only
              refine hK.out _ _ (l0) (fun hHeld => ?_)
              clear hK K
              try simp only [Act.put, List.getElem_toArray, List.getElem_cons_succ, List.getElem_cons_zero, List.setIfInBounds_toArray, List.set_cons_zero, List.set_cons_succ]
              refine wpAnyH_take (i := 15) (v := ?_) rfl (by kernel_rfl) (by kernel_rfl) (by kernel_rfl) (fun _ _ _ h => h) (Or.inl ⟨by rfl, ?_⟩) (by assumption) ?_
              rotate_left 1
              · (intro w hSw; (try dsimp only at hSw); go_simp; try with_reducible rfl)
              try simp only [Act.put, List.getElem_toArray, List.getElem_cons_succ, List.getElem_cons_zero, List.setIfInBounds_toArray, List.set_cons_zero, List.set_cons_succ]
              refine wpAnyH_ready (rs := [16]) (by kernel_rfl) (by simp) ?_
              refine AllReadyH.cons rfl (fun K hK => ?_) AllReadyH.nil
              try simp only [Act.put, List.getElem_toArray, List.getElem_cons_succ, List.getElem_cons_zero, List.setIfInBounds_toArray, List.set_cons_zero, List.set_cons_succ]
              go_simp
              have m0 : (w6.setCell ⟨gn, 1, none⟩ (.slice A7 (tb.length + 1) c7)).cell? ⟨gn, 0, none⟩ = some (.int .i64 n) := N7.out.box.cell 0
              refine hK.out _ _ (m0) (fun hHeld => ?_)
              clear hK K
              try simp only [Act.put, List.getElem_toArray, List.getElem_cons_succ, List.getElem_cons_zero, List.setIfInBounds_toArray, List.set_cons_zero, List.set_cons_succ]
              refine wpAnyH_done (by kernel_rfl) ?_ _
              go_wp2_with fail
              go_roundg (n - (k + 1))
              case measure => have := hg.out; omega
              case rel => exact ⟨k + 1, .slice A7 (tb.length + 1) c7, tb ++ [⟨(k : Int), v, 10 * (1 + u)⟩], by omega, rfl, by go_num, by have := HL.out; unfold Hid; rw [List.length_append, this]; rfl, hide (N7.out.more (by omega))⟩
        · have HL6 : tb.length ≤ 6 := by have := HL.out; omega
          go_wp2_with fail
          go_meet
          exact ⟨tv, tb, HL6, NR.out.more (by omega)⟩
  case rest =>
    obtain ⟨tv0, tb0, hl0, hN0⟩ := hcut
    have NC := hide hN0
    have C2 := hide (HP.out (N + 100) 9 _ (by omega) hN0.src)
    clear hN0 N3
    go_upto_region 8 with (go_at_call 68; (with_reducible refine (C2.out).mono ?_); rintro e w5 ⟨z, rfl, ⟨hz0', hz1', _⟩, hs5, ho5⟩)
    have hz8 := hz1' (by omega)
    obtain ⟨k0, rfl⟩ := Int.eq_ofNat_of_zero_le hz0'
    have N5 := hide (NC.out.only hbl ho5 hs5)
    clear NC C2 hs5 ho5 hz1'
    go_wp2_with fail
    go_loopg [5] k0 (fun g i wr => ∃ (k : Nat) (tv : Value) (tb : List T3), g = k ∧ i = .int .i64 k ∧ k ≤ k0 ∧ k + tb.length = k0 + tb0.length ∧ Hid (NetSt b bs (N + 102 + 10 * ((k0 : Int) - k)) w gn n wr tv tb))
    case atStart => exact ⟨k0, tv0, tb0, rfl, rfl, Nat.le_refl _, rfl, N5.out.more (by omega)⟩
    case round =>
      obtain ⟨k, tv, tb, hg, rfl, hkk, hka, NR⟩ := hrel
      clear N5
      have HG := hide hg
      clear hg
      have hka1 : k + tb.length ≤ k0 + tb0.length := by omega
      have hka2 : k0 + tb0.length ≤ k + tb.length := by omega
      clear hka
      by_cases hlt : 0 < k
      · have hkn : (0 : Int) < (k : Int) := by omega
        go_wp2_with fail
        have ND := hide NR.out.drew
        have e0 : wr.drew.cell? ⟨gn, 0, none⟩ = some (.int .i64 n) := ND.out.box.cell 0
        have e1 : wr.drew.cell? ⟨gn, 1, none⟩ = some tv := ND.out.box.cell 1
        clear NR
        refine wp_region_held_drew (S := fun W => W.cell? ⟨gn, 0, none⟩ = some (.int .i64 n)) (by kernel_rfl) (e0) (fun hHeld => ?_)
        generalize wr.drew = wd at *
        have HC := hide (HNT.out (N + 102 + 10 * ((k0 : Int) - k)) (n : Int) wd (by omega) (by omega) (by omega) ND.out.src)
        refine wpAnyH_take (i := 0) (v := ?_) rfl (by kernel_rfl) (by kernel_rfl) (by kernel_rfl) (fun _ _ _ h => h) (Or.inl ⟨by rfl, ?_⟩) (by assumption) ?_
        rotate_left 1
        · (intro w hSw; (try dsimp only at hSw); go_simp; try with_reducible rfl)
        try simp only [Act.put, List.getElem_toArray, List.getElem_cons_succ, List.getElem_cons_zero, List.setIfInBounds_toArray, List.set_cons_zero, List.set_cons_succ]
        refine wpAnyH_take (i := 2) (v := ?_) rfl (by kernel_rfl) (by kernel_rfl) (by kernel_rfl) (fun _ _ _ h => h) (Or.inl ⟨by rfl, ?_⟩) (by assumption) ?_
        rotate_left 1
        · (intro w hSw; (try dsimp only at hSw); go_simp; try with_reducible rfl)
        try simp only [Act.put, List.getElem_toArray, List.getElem_cons_succ, List.getElem_cons_zero, List.setIfInBounds_toArray, List.set_cons_zero, List.set_cons_succ]
        refine wpAnyH_take (i := 3) (v := ?_) rfl (by kernel_rfl) (by kernel_rfl) (by kernel_rfl) (fun _ _ _ h => h) (Or.inl ⟨by rfl, ?_⟩) (by assumption) ?_
        rotate_left 1
        · (intro w hSw; (try dsimp only at hSw); go_simp; try with_reducible rfl)
        try simp only [Act.put, List.getElem_toArray, List.getElem_cons_succ, List.getElem_cons_zero, List.setIfInBounds_toArray, List.set_cons_zero, List.set_cons_succ]
        refine wpAnyH_take (i := 4) (v := ?_) rfl (by kernel_rfl) (by kernel_rfl) (by kernel_rfl) (fun _ _ _ h => h) (Or.inl ⟨by rfl, ?_⟩) (by assumption) ?_
        rotate_left 1
        · (intro w hSw; (try dsimp only at hSw); go_simp; try with_reducible rfl)
        try simp only [Act.put, List.getElem_toArray, List.getElem_cons_succ, List.getElem_cons_zero, List.setIfInBounds_toArray, List.set_cons_zero, List.set_cons_succ]
        refine wpAnyH_ready (rs := [1, 5]) (by kernel_rfl) (by simp) ?_
        refine AllReadyH.cons rfl (fun K hK => ?_) (AllReadyH.cons rfl (fun K hK => ?_) AllReadyH.nil)
        · try simp only [Act.put, List.getElem_toArray, List.getElem_cons_succ, List.getElem_cons_zero, List.setIfInBounds_toArray, List.set_cons_zero, List.set_cons_succ]
          go_simp
          refine hK.out _ _ (e0) (fun hHeld => ?_)
          clear hK K
          try simp only [Act.put, List.getElem_toArray, List.getElem_cons_succ, List.getElem_cons_zero, List.setIfInBounds_toArray, List.set_cons_zero, List.set_cons_succ]
          refine wpAnyH_ready (rs := [5]) (by kernel_rfl) (by simp) ?_
          refine AllReadyH.cons rfl (fun K hK => ?_) AllReadyH.nil
          try simp only [Act.put, List.getElem_toArray, List.getElem_cons_succ, List.getElem_cons_zero, List.setIfInBounds_toArray, List.set_cons_zero, List.set_cons_succ]
          go_simp
          go_at_call 69
          refine (HC.out).mono ?_
          rintro e w4 ⟨t, rfl, hot, hs4, ho4⟩
          have HOT := hide hot
          have N4 := hide (ND.out.only hbl ho4 hs4)
          have g0 : w4.cell? ⟨gn, 0, none⟩ = some (.int .i64 n) := N4.out.box.cell 0
          have g1 : w4.cell? ⟨gn, 1, none⟩ = some tv := N4.out.box.cell 1
          clear hs4 ho4 hot
          dsimp only
          refine hK.out _ _ (g0) (fun hHeld => ?_)
          clear hK K
          try simp only [Act.put, List.getElem_toArray, List.getElem_cons_succ, List.getElem_cons_zero, List.setIfInBounds_toArray, List.set_cons_zero, List.set_cons_succ]
          refine wpAnyH_ready (rs := [6]) (by kernel_rfl) (by simp) ?_
          refine AllReadyH.cons rfl (fun K hK => ?_) AllReadyH.nil
          try simp only [Act.put, List.getElem_toArray, List.getElem_cons_succ, List.getElem_cons_zero, List.setIfInBounds_toArray, List.set_cons_zero, List.set_cons_succ]
          go_simp
          have N5 := hide (N4.out.alloc (.cells #[.int .i64 t.a, .int .i64 t.b, .int .i64 t.c] 41))
          have j0 : (w4.alloc (.cells #[.int .i64 t.a, .int .i64 t.b, .int .i64 t.c] 41)).cell? ⟨gn, 0, none⟩ = some (.int .i64 n) := N5.out.box.cell 0
          have j1 : (w4.alloc (.cells #[.int .i64 t.a, .int .i64 t.b, .int .i64 t.c] 41)).cell? ⟨gn, 1, none⟩ = some tv := N5.out.box.cell 1
          have hrd := rd_new w4 [.int .i64 t.a, .int .i64 t.b, .int .i64 t.c] 41 _ rfl
          have hown5 := N5.out.row
          have hsz5 : gn + 1 ≤ (w4.alloc (.cells #[.int .i64 t.a, .int .i64 t.b, .int .i64 t.c] 41)).heap.size := N5.out.hi
          refine hK.out _ _ (j0) (fun hHeld => ?_)
          clear hK K
          try simp only [Act.put, List.getElem_toArray, List.getElem_cons_succ, List.getElem_cons_zero, List.setIfInBounds_toArray, List.set_cons_zero, List.set_cons_succ]
          refine wpAnyH_ready (rs := [7]) (by kernel_rfl) (by simp) ?_
          refine AllReadyH.cons rfl (fun K hK => ?_) AllReadyH.nil
          try simp only [Act.put, List.getElem_toArray, List.getElem_cons_succ, List.getElem_cons_zero, List.setIfInBounds_toArray, List.set_cons_zero, List.set_cons_succ]
          rw [if_pos (by rfl)]
          refine op_app _ _ _ 24 rfl (gn + 1) 41 i0 (.agg #[.int .i64 0, .int .i64 0, .int .i64 0]) 3 24 Tryz.underlying24 hi0 hz0 hs0 hb0 rfl (by decide) _ _ _ rfl hown5 _ _ 1 1 [.int .i64 t.a, .int .i64 t.b, .int .i64 t.c] rfl rfl hrd (by intro q hq; simp at hq; rcases hq with rfl | rfl | rfl <;> rfl) (by omega) (by decide) hsz5 ?_
          intro v' w6 hown6 hgrow6 hat6
          obtain ⟨A7, c7, rfl, _⟩ := own_shape hown6
          have hbx6 : BoxN w6 gn #[.int .i64 n, tv] 26 := (hgrow6.block gn N5.out.hi (fun e => by have := (hown5.lt _ e.symm).1; omega)).trans N5.out.box
          have l0 : w6.cell? ⟨gn, 0, none⟩ = some (.int .i64 n) := hbx6.cell 0
          have l1 : w6.cell? ⟨gn, 1, none⟩ = some tv := hbx6.cell 1
          have lf := hbx6.fro 1
          have N7 := hide (N5.out.push (t := t) hbl (HOT.out) hown6 hgrow6)
          dsimp only
          refine hK.out _ _ (l0) (fun hHeld => ?_)
          clear hK K
          try simp only [Act.put, List.getElem_toArray, List.getElem_cons_succ, List.getElem_cons_zero, List.setIfInBounds_toArray, List.set_cons_zero, List.set_cons_succ]
          refine wpAnyH_take (i := 8) (v := ?_) rfl (by kernel_rfl) (by kernel_rfl) (by kernel_rfl) (fun _ _ _ h => h) (Or.inl ⟨by rfl, ?_⟩) (by assumption) ?_
          rotate_left 1
          · (intro w hSw; (try dsimp only at hSw); go_simp; try with_reducible rfl)
          try simp only [Act.put, List.getElem_toArray, List.getElem_cons_succ, List.getElem_cons_zero, List.setIfInBounds_toArray, List.set_cons_zero, List.set_cons_succ]
          refine wpAnyH_ready (rs := [9]) (by kernel_rfl) (by simp) ?_
          refine AllReadyH.cons rfl (fun K hK => ?_) AllReadyH.nil
          try simp only [Act.put, List.getElem_toArray, List.getElem_cons_succ, List.getElem_cons_zero, List.setIfInBounds_toArray, List.set_cons_zero, List.set_cons_succ]
          go_simp
          have m0 : (w6.setCell ⟨gn, 1, none⟩ (.slice A7 (tb.length + 1) c7)).cell? ⟨gn, 0, none⟩ = some (.int .i64 n) := N7.out.box.cell 0
          refine hK.out _ _ (m0) (fun hHeld => ?_)
          clear hK K
          try simp only [Act.put, List.getElem_toArray, List.getElem_cons_succ, List.getElem_cons_zero, List.setIfInBounds_toArray, List.set_cons_zero, List.set_cons_succ]
          refine wpAnyH_done (by kernel_rfl) ?_ _
          go_wp2_with fail
          go_roundg (k - 1)
          case measure => have := HG.out; omega
          case rel => exact ⟨k - 1, .slice A7 (tb.length + 1) c7, tb ++ [t], rfl, by congr 1; omega, by omega, by rw [List.length_append]; simp only [List.length_cons, List.length_nil]; omega, hide (N7.out.more (by omega))⟩
        · try simp only [Act.put, List.getElem_toArray, List.getElem_cons_succ, List.getElem_cons_zero, List.setIfInBounds_toArray, List.set_cons_zero, List.set_cons_succ]
          go_simp
          go_at_call 69
          refine (HC.out).mono ?_
          rintro e w4 ⟨t, rfl, hot, hs4, ho4⟩
          have HOT := hide hot
          have N4 := hide (ND.out.only hbl ho4 hs4)
          have g0 : w4.cell? ⟨gn, 0, none⟩ = some (.int .i64 n) := N4.out.box.cell 0
          have g1 : w4.cell? ⟨gn, 1, none⟩ = some tv := N4.out.box.cell 1
          clear hs4 ho4 hot
          dsimp only
          refine hK.out _ _ (g0) (fun hHeld => ?_)
          clear hK K
          try simp only [Act.put, List.getElem_toArray, List.getElem_cons_succ, List.getElem_cons_zero, List.setIfInBounds_toArray, List.set_cons_zero, List.set_cons_succ]
          refine wpAnyH_ready (rs := [1, 6]) (by kernel_rfl) (by simp) ?_
          refine AllReadyH.cons rfl (fun K hK => ?_) (AllReadyH.cons rfl (fun K hK => ?_) AllReadyH.nil)
          · try simp only [Act.put, List.getElem_toArray, List.getElem_cons_succ, List.getElem_cons_zero, List.setIfInBounds_toArray, List.set_cons_zero, List.set_cons_succ]
            go_simp
            refine hK.out _ _ (g0) (fun hHeld => ?_)
            clear hK K
            try simp only [Act.put, List.getElem_toArray, List.getElem_cons_succ, List.getElem_cons_zero, List.setIfInBounds_toArray, List.set_cons_zero, List.set_cons_succ]
            refine wpAnyH_ready (rs := [6]) (by kernel_rfl) (by simp) ?_
            refine AllReadyH.cons rfl (fun K hK => ?_) AllReadyH.nil
            try simp only [Act.put, List.getElem_toArray, List.getElem_cons_succ, List.getElem_cons_zero, List.setIfInBounds_toArray, List.set_cons_zero, List.set_cons_succ]
            go_simp
            have N5 := hide (N4.out.alloc (.cells #[.int .i64 t.a, .int .i64 t.b, .int .i64 t.c] 41))
            have j0 : (w4.alloc (.cells #[.int .i64 t.a, .int .i64 t.b, .int .i64 t.c] 41)).cell? ⟨gn, 0, none⟩ = some (.int .i64 n) := N5.out.box.cell 0
            have j1 : (w4.alloc (.cells #[.int .i64 t.a, .int .i64 t.b, .int .i64 t.c] 41)).cell? ⟨gn, 1, none⟩ = some tv := N5.out.box.cell 1
            have hrd := rd_new w4 [.int .i64 t.a, .int .i64 t.b, .int .i64 t.c] 41 _ rfl
            have hown5 := N5.out.row
            have hsz5 : gn + 1 ≤ (w4.alloc (.cells #[.int .i64 t.a, .int .i64 t.b, .int .i64 t.c] 41)).heap.size := N5.out.hi
            refine hK.out _ _ (j0) (fun hHeld => ?_)
            clear hK K
            try simp only [Act.put, List.getElem_toArray, List.getElem_cons_succ, List.getElem_cons_zero, List.setIfInBounds_toArray, List.set_cons_zero, List.set_cons_succ]
            refine wpAnyH_ready (rs := [7]) (by kernel_rfl) (by simp) ?_
            refine AllReadyH.cons rfl (fun K hK => ?_) AllReadyH.nil
            try simp only [Act.put, List.getElem_toArray, List.getElem_cons_succ, List.getElem_cons_zero, List.setIfInBounds_toArray, List.set_cons_zero, List.set_cons_succ]
            rw [if_pos (by rfl)]
            refine op_app _ _ _ 24 rfl (gn + 1) 41 i0 (.agg #[.int .i64 0, .int .i64 0, .int .i64 0]) 3 24 Tryz.underlying24 hi0 hz0 hs0 hb0 rfl (by decide) _ _ _ rfl hown5 _ _ 1 1 [.int .i64 t.a, .int .i64 t.b, .int .i64 t.c] rfl rfl hrd (by intro q hq; simp at hq; rcases hq with rfl | rfl | rfl <;> rfl) (by omega) (by decide) hsz5 ?_
            intro v' w6 hown6 hgrow6 hat6
            obtain ⟨A7, c7, rfl, _⟩ := own_shape hown6
            have hbx6 : BoxN w6 gn #[.int .i64 n, tv] 26 := (hgrow6.block gn N5.out.hi (fun e => by have := (hown5.lt _ e.symm).1; omega)).trans N5.out.box
            have l0 : w6.cell? ⟨gn, 0, none⟩ = some (.int .i64 n) := hbx6.cell 0
            have l1 : w6.cell? ⟨gn, 1, none⟩ = some tv := hbx6.cell 1
            have lf := hbx6.fro 1
            have N7 := hide (N5.out.push (t := t) hbl (HOT.out) hown6 hgrow6)
            dsimp only
            refine hK.out _ _ (l0) (fun hHeld => ?_)
            clear hK K
            try simp only [Act.put, List.getElem_toArray, List.getElem_cons_succ, List.getElem_cons_zero, List.setIfInBounds_toArray, List.set_cons_zero, List.set_cons_succ]
            refine wpAnyH_take (i := 8) (v := ?_) rfl (by kernel_rfl) (by kernel_rfl) (by kernel_rfl) (fun _ _ _ h => h) (Or.inl ⟨by rfl, ?_⟩) (by assumption) ?_
            rotate_left 1
            · (intro w hSw; (try dsimp only at hSw); go_simp; try with_reducible rfl)
            try simp only [Act.put, List.getElem_toArray, List.getElem_cons_succ, List.getElem_cons_zero, List.setIfInBounds_toArray, List.set_cons_zero, List.set_cons_succ]
            refine wpAnyH_ready (rs := [9]) (by kernel_rfl) (by simp) ?_
            refine AllReadyH.cons rfl (fun K hK => ?_) AllReadyH.nil
            try simp only [Act.put, List.getElem_toArray, List.getElem_cons_succ, List.getElem_cons_zero, List.setIfInBounds_toArray, List.set_cons_zero, List.set_cons_succ]
            go_simp
            have m0 : (w6.setCell ⟨gn, 1, none⟩ (.slice A7 (tb.length + 1) c7)).cell? ⟨gn, 0, none⟩ = some (.int .i64 n) := N7.out.box.cell 0
            refine hK.out _ _ (m0) (fun hHeld => ?_)
            clear hK K
            try simp only [Act.put, List.getElem_toArray, List.getElem_cons_succ, List.getElem_cons_zero, List.setIfInBounds_toArray, List.set_cons_zero, List.set_cons_succ]
            refine wpAnyH_done (by kernel_rfl) ?_ _
            go_wp2_with fail
            go_roundg (k - 1)
            case measure => have := HG.out; omega
            case rel => exact ⟨k - 1, .slice A7 (tb.length + 1) c7, tb ++ [t], rfl, by congr 1; omega, by omega, by rw [List.length_append]; simp only [List.length_cons, List.length_nil]; omega, hide (N7.out.more (by omega))⟩
          · try simp only [Act.put, List.getElem_toArray, List.getElem_cons_succ, List.getElem_cons_zero, List.setIfInBounds_toArray, List.set_cons_zero, List.set_cons_succ]
            go_simp
            have N5 := hide (N4.out.alloc (.cells #[.int .i64 t.a, .int .i64 t.b, .int .i64 t.c] 41))
            have j0 : (w4.alloc (.cells #[.int .i64 t.a, .int .i64 t.b, .int .i64 t.c] 41)).cell? ⟨gn, 0, none⟩ = some (.int .i64 n) := N5.out.box.cell 0
            have j1 : (w4.alloc (.cells #[.int .i64 t.a, .int .i64 t.b, .int .i64 t.c] 41)).cell? ⟨gn, 1, none⟩ = some tv := N5.out.box.cell 1
            have hrd := rd_new w4 [.int .i64 t.a, .int .i64 t.b, .int .i64 t.c] 41 _ rfl
            have hown5 := N5.out.row
            have hsz5 : gn + 1 ≤ (w4.alloc (.cells #[.int .i64 t.a, .int .i64 t.b, .int .i64 t.c] 41)).heap.size := N5.out.hi
            refine hK.out _ _ (j0) (fun hHeld => ?_)
            clear hK K
            try simp only [Act.put, List.getElem_toArray, List.getElem_cons_succ, List.getElem_cons_zero, List.setIfInBounds_toArray, List.set_cons_zero, List.set_cons_succ]
            refine wpAnyH_ready (rs := [1]) (by kernel_rfl) (by simp) ?_
            refine AllReadyH.cons rfl (fun K hK => ?_) AllReadyH.nil
            try simp only [Act.put, List.getElem_toArray, List.getElem_cons_succ, List.getElem_cons_zero, List.setIfInBounds_toArray, List.set_cons_zero, List.set_cons_succ]
            go_simp
            refine hK.out _ _ (j0) (fun hHeld => ?_)
            clear hK K
            try simp only [Act.put, List.getElem_toArray, List.getElem_cons_succ, List.getElem_cons_zero, List.setIfInBounds_toArray, List.set_cons_zero, List.set_cons_succ]
            refine wpAnyH_ready (rs := [7]) (by kernel_rfl) (by simp) ?_
            refine AllReadyH.cons rfl (fun K hK => ?_) AllReadyH.nil
            try simp only [Act.put, List.getElem_toArray, List.getElem_cons_succ, List.getElem_cons_zero, List.setIfInBounds_toArray, List.set_cons_zero, List.set_cons_succ]
            rw [if_pos (by rfl)]
            refine op_app _ _ _ 24 rfl (gn + 1) 41 i0 (.agg #[.int .i64 0, .int .i64 0, .int .i64 0]) 3 24 Tryz.underlying24 hi0 hz0 hs0 hb0 rfl (by decide) _ _ _ rfl hown5 _ _ 1 1 [.int .i64 t.a, .int .i64 t.b, .int .i64 t.c] rfl rfl hrd (by intro q hq; simp at hq; rcases hq with rfl | rfl | rfl <;> rfl) (by omega) (by decide) hsz5 ?_
            intro v' w6 hown6 hgrow6 hat6
            obtain ⟨A7, c7, rfl, _⟩ := own_shape hown6
            have hbx6 : BoxN w6 gn #[.int .i64 n, tv] 26 := (hgrow6.block gn N5.out.hi (fun e => by have := (hown5.lt _ e.symm).1; omega)).trans N5.out.box
            have l0 : w6.cell? ⟨gn, 0, none⟩ = some (.int .i64 n) := hbx6.cell 0
            have l1 : w6.cell? ⟨gn, 1, none⟩ = some tv := hbx6.cell 1
            have lf := hbx6.fro 1
            have N7 := hide (N5.out.push (t := t) hbl (HOT.out) hown6 hgrow6)
            dsimp only
            refine hK.out _ _ (l0) (fun hHeld => ?_)
            clear hK K
            try simp only [Act.put, List.getElem_toArray, List.getElem_cons_succ, List.getElem_cons_zero, List.setIfInBounds_toArray, List.set_cons_zero, List.set_cons_succ]
            refine wpAnyH_take (i := 8) (v := ?_) rfl (by kernel_rfl) (by kernel_rfl) (by kernel_rfl) (fun _ _ _ h => h) (Or.inl ⟨by rfl, ?_⟩) (by assumption) ?_
            rotate_left 1
            · (intro w hSw; (try dsimp only at hSw); go_simp; try with_reducible rfl)
            try simp only [Act.put, List.getElem_toArray, List.getElem_cons_succ, List.getElem_cons_zero, List.setIfInBounds_toArray, List.set_cons_zero, List.set_cons_succ]
            refine wpAnyH_ready (rs := [9]) (by kernel_rfl) (by simp) ?_
            refine AllReadyH.cons rfl (fun K hK => ?_) AllReadyH.nil
            try simp only [Act.put, List.getElem_toArray, List.getElem_cons_succ, List.getElem_cons_zero, List.setIfInBounds_toArray, List.set_cons_zero, List.set_cons_succ]
            go_simp
            have m0 : (w6.setCell ⟨gn, 1, none⟩ (.slice A7 (tb.length + 1) c7)).cell? ⟨gn, 0, none⟩ = some (.int .i64 n) := N7.out.box.cell 0
            refine hK.out _ _ (m0) (fun hHeld => ?_)
            clear hK K
            try simp only [Act.put, List.getElem_toArray, List.getElem_cons_succ, List.getElem_cons_zero, List.setIfInBounds_toArray, List.set_cons_zero, List.set_cons_succ]
            refine wpAnyH_done (by kernel_rfl) ?_ _
            go_wp2_with fail
            go_roundg (k - 1)
            case measure => have := HG.out; omega
            case rel => exact ⟨k - 1, .slice A7 (tb.length + 1) c7, tb ++ [t], rfl, by congr 1; omega, by omega, by rw [List.length_append]; simp only [List.length_cons, List.length_nil]; omega, hide (N7.out.more (by omega))⟩
      · obtain ⟨A9, c9, rfl, _⟩ := own_shape NR.out.row
        have l0 : wr.cell? ⟨gn, 0, none⟩ = some (.int .i64 n) := NR.out.box.cell 0
        have l1 : wr.cell? ⟨gn, 1, none⟩ = some (.slice A9 tb.length c9) := NR.out.box.cell 1
        have T0 := hide (NR.out.res.set 0 (.int .i64 n))
        have T1 := hide (T0.out.set 1 (.slice A9 tb.length c9))
        have m0 : wr.cell? ⟨w.heap.size, 0, none⟩ = some (.int .i64 0) := NR.out.res.cell 0
        have n0' := NR.out.res.fro 0
        have m1 : (wr.setCell ⟨w.heap.size, 0, none⟩ (.int .i64 n)).cell? ⟨w.heap.size, 1, none⟩ = some (.slice none 0 0) := T0.out.cell 1
        have n1 := T0.out.fro 1
        have hlo := NR.out.lo
        go_wp2_with fail
        have q0 : ((wr.setCell ⟨w.heap.size, 0, none⟩ (.int .i64 n)).setCell ⟨w.heap.size, 1, none⟩ (.slice A9 tb.length c9)).cell? ⟨w.heap.size, 0, none⟩ = some (.int .i64 n) := T1.out.cell 0
        have q1 : ((wr.setCell ⟨w.heap.size, 0, none⟩ (.int .i64 n)).setCell ⟨w.heap.size, 1, none⟩ (.slice A9 tb.length c9)).cell? ⟨w.heap.size, 1, none⟩ = some (.slice A9 tb.length c9) := T1.out.cell 1
        have hne : (Value.slice A9 tb.length c9).ownBlock = none ∨ (Value.slice A9 tb.length c9).ownBlock ≠ some w.heap.size := .inr (fun e => by have := (NR.out.row.lt _ e).1; omega)
        have hrow := (NR.out.row.kept (grown_setCell wr ⟨w.heap.size, 0, none⟩ (.int .i64 n)) hne).kept (grown_setCell _ ⟨w.heap.size, 1, none⟩ (.slice A9 tb.length c9)) hne
        refine bodyPost_ret (v := .agg #[.int .i64 n, .slice A9 tb.length c9]) (by simp [results, Tryz.results34, go_sem, q0, q1]) rfl ⟨n, A9, c9, tb, rfl, own_base hrow (by omega), ⟨⟨by omega, by omega⟩, by omega, NR.out.ok⟩, by omega, ?_⟩
        exact only_setNew (only_setNew NR.out.onl ⟨w.heap.size, 0, none⟩ (.int .i64 n) (Nat.le_refl _)) ⟨w.heap.size, 1, none⟩ (.slice A9 tb.length c9) (Nat.le_refl _)
set_option maxRecDepth 100000 in
set_option maxHeartbeats 4000000 in
theorem a2Net_any (bs : List Int) (A : Option Addr) (c : Nat) (w : World) (hbs : BsOk bs) (h1 : RdB w w.heap.size A bs) :
    Calls Tryz.prog 6 #[.slice A bs.length c] w fun e w' => ∃ (n : Nat) (A' : Option Addr) (c' : Nat) (tb : List T3), e = .returned (.agg #[.int .i64 n, .slice A' tb.length c']) ∧ Rd3 w' w'.heap.size A' tb ∧ OkNet n tb ∧ (tb.length ≤ 14 ∧ tb.length ≤ c') ∧ Below w.heap.size w w' := by
  have hbA : Below w.heap.size w (w.alloc (.cells #[.int .i64 0, .slice none 0 0] 26)) := (Below.refl _ _).alloc (Nat.le_refl _) _
  have X0 := hide (BoxN.new w #[.int .i64 0, .slice none 0 0] 26)
  have z0 : w.heap.size < (w.alloc (.cells #[.int .i64 0, .slice none 0 0] 26)).heap.size := by simp
  have HF := hide (l00From_any bs A c _ hbs.1 ((h1.below hbA).more (Nat.le_of_lt z0)))
  have HBA := hide hbA
  clear h1 hbA
  go_enter Tryz.func6, Tryz.ntmps6
  go_upto_region 1 with fail
  generalize w.alloc (.cells #[.int .i64 0, .slice none 0 0] 26) = W0 at *
  have HD := hide fun W (hW : SrcAt W0.heap.size bs 0 W) => drawNet_any W0.heap.size bs 0 W hbs (by omega) hW
  go_upto_if 99 with (first | (go_at_call 35; (with_reducible refine (HF.out).mono ?_); rintro e w1 ⟨rfl, hs1, hz1, hb1⟩; have HS := hide hs1; have hz1a := Nat.le_of_eq hz1.symm; have X1 := hide (X0.out.only (lo := W0.heap.size) (hi := W0.heap.size) (only_of_below hb1) (.inl (by omega))); have HB1 := hide (HBA.out.trans (hb1.mono (Nat.le_of_lt z0))); clear hs1 hz1 hb1) | (go_at_call 34; (with_reducible refine (HD.out _ HS.out).mono ?_); rintro e w2 ⟨n, A2, c2, tb, rfl, hrd, hok, hl14, ho2⟩; have X2 := hide (X1.out.only ho2 (.inl z0)); have m0 : w2.cell? ⟨w.heap.size, 0, none⟩ = some (.int .i64 0) := X2.out.cell 0; have n0 := X2.out.fro 0; have T0 := hide (X2.out.set 0 (.int .i64 n)); have T1 := hide (T0.out.set 1 (.slice A2 tb.length c2)); have m1 : (w2.setCell ⟨w.heap.size, 0, none⟩ (.int .i64 n)).cell? ⟨w.heap.size, 1, none⟩ = some (.slice none 0 0) := T0.out.cell 1; have n1 := T0.out.fro 1))
  have q0 : ((w2.setCell ⟨w.heap.size, 0, none⟩ (.int .i64 n)).setCell ⟨w.heap.size, 1, none⟩ (.slice A2 tb.length c2)).cell? ⟨w.heap.size, 0, none⟩ = some (.int .i64 n) := T1.out.cell 0
  have q1 : ((w2.setCell ⟨w.heap.size, 0, none⟩ (.int .i64 n)).setCell ⟨w.heap.size, 1, none⟩ (.slice A2 tb.length c2)).cell? ⟨w.heap.size, 1, none⟩ = some (.slice A2 tb.length c2) := T1.out.cell 1
  have hne : (Value.slice A2 tb.length c2).ownBlock = none ∨ (Value.slice A2 tb.length c2).ownBlock ≠ some w.heap.size := .inr (fun e => by have := (hrd.lt _ e).1; omega)
  have hrow := (hrd.kept (grown_setCell w2 ⟨w.heap.size, 0, none⟩ (.int .i64 n)) hne).kept (grown_setCell _ ⟨w.heap.size, 1, none⟩ (.slice A2 tb.length c2)) hne
  have hB := HB1.out.trans (ho2.below (B := w.heap.size) (Nat.le_of_lt z0) HB1.out.size)
  refine bodyPost_ret (v := .agg #[.int .i64 n, .slice A2 tb.length c2]) (by simp [results, Tryz.results6, go_sem, q0, q1]) rfl ⟨n, A2, c2, tb, rfl, Rd.of_own hrow, hok, ⟨hl14, by obtain ⟨_, _, e, h, _⟩ := own_shape hrd; simp only [Value.slice.injEq] at e; omega⟩, ?_⟩
  exact (hB.setCell (Nat.le_refl _) _).setCell (Nat.le_refl _) _
end Go.Proofs.YtaajkmjilcamgaaGreatDoor
