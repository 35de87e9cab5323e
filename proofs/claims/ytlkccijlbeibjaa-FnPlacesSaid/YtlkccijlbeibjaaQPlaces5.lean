/-
  Rides in the program: the slowest one, catching up.
-/
import Derived.Test.YtlkccijlbeibjaaQPlaces4
namespace Go.Proofs.Ytlkccijlbeibjaa
open Go.RowKit
theorem slowGo_step {xs : List T4} {k : Nat} {z y : T4} {kb : Nat} (h : xs[k]? = some z) : slowGo (xs.drop k) k y kb = if z.c * denR y < y.c * denR z then slowGo (xs.drop (k + 1)) (k + 1) z k else slowGo (xs.drop (k + 1)) (k + 1) y kb := by
  rw [drop_cons h, slowGo]
set_option maxRecDepth 100000 in
set_option maxHeartbeats 4000000 in
theorem implSlowest_any (xs : List T4) (A : Option Addr) (c : Nat) (w : World) (hl : xs.length ≤ 1048576) (h : Rd4 w w.heap.size A xs) :
    Calls Try.prog 53 #[.slice A xs.length c] w fun e w' => e = .returned (.tuple #[.int .i64 (slowest xs).1, .int .i64 (slowest xs).2]) ∧ Below w.heap.size w w' := by
  have HV := hide (implValidRides_any xs A c w hl h)
  cases ho : okRs xs
  · have HK := hide (show slowest xs = (0, 1) by unfold slowest; rw [if_pos ho])
    rw [ho] at HV
    clear ho h
    go_enter Try.func53, Try.ntmps53
    go_wp2_with (go_at_call 122; refine HV.out.mono ?_; rintro e w1 ⟨rfl, s1⟩)
    refine bodyPost_ret (v := .tuple #[.int .i64 0, .int .i64 1]) (by simp [results, Try.results53, go_sem]) rfl ⟨by rw [HK.out], s1⟩
  obtain ⟨h8, hx⟩ := okRs_iff.1 ho
  rw [ho] at HV
  by_cases h0 : xs.length = 0
  · obtain rfl : xs = [] := List.eq_nil_of_length_eq_zero h0
    have HK := hide (show slowest [] = (0, 3) by unfold slowest; rw [if_neg (by simp [ho])])
    clear ho h hx
    go_enter Try.func53, Try.ntmps53
    go_wp2_with (go_at_call 122; refine HV.out.mono ?_; rintro e w1 ⟨rfl, s1⟩)
    refine bodyPost_ret (v := .tuple #[.int .i64 0, .int .i64 3]) (by simp [results, Try.results53, go_sem]) rfl ⟨by rw [HK.out], s1⟩
  obtain ⟨x0, hx0⟩ : ∃ x0, xs[0]? = some x0 := ⟨_, List.getElem?_eq_getElem (by omega)⟩
  have HK := hide (show slowest xs = (((slowGo xs 0 x0 0 : Nat) : Int), 0) by
    cases xs with
    | nil => cases hx0
    | cons y ys => simp at hx0; subst hx0; unfold slowest; rw [if_neg (by simp [ho])])
  have HX := hide h
  have HO := hide hx
  have HX0 := hide hx0
  have hn0 : ¬ ((xs.length : Int) = 0) := by omega
  have hn0b : ((xs.length : Int) == 0) = false := by simpa using hn0
  clear ho h hx hx0
  go_enter Try.func53, Try.ntmps53
  go_wp2_with (go_at_call 122; refine HV.out.mono ?_; rintro e w1 ⟨rfl, s1⟩)
  go_loopg [4, 17] xs.length (fun g bv i wr => ∃ (k kb : Nat) (yb : T4), k ≤ xs.length ∧ Hid (g = xs.length - k) ∧ bv = .int .i64 kb ∧ i = .int .i64 k ∧ kb < xs.length ∧ Hid (xs[kb]? = some yb) ∧ Hid (slowGo xs 0 x0 0 = slowGo (xs.drop k) k yb kb) ∧ Hid (Below w.heap.size w wr))
  case atStart => exact ⟨0, 0, x0, Nat.zero_le _, by simp [Hid], rfl, rfl, by omega, HX0, by simp [Hid], hide s1⟩
  case round =>
    obtain ⟨k, kb, yb, hk, hg, rfl, rfl, hkb, HYB, HS, HB⟩ := hrel
    by_cases hlt : k < xs.length
    · obtain ⟨b1, o1, z1, rfl, hb1, hz1, hca, hcb, hcc, hcd⟩ := (HX.out.below HB.out).at_ hlt
      obtain ⟨b2, o2, z2, he, hb2, hz2, hda, hdb, hdc, hdd⟩ := (HX.out.below HB.out).at_ hkb
      cases he
      obtain rfl : z2 = yb := by have := HYB.out; rw [hz2] at this; cases this; rfl
      have hlt' : (k : Int) < (xs.length : Int) := by omega
      have hkb' : (kb : Int) < (xs.length : Int) := by omega
      have hkb0 : (0 : Int) ≤ (kb : Int) := by omega
      have hzo := HO.out z1 (List.mem_of_getElem? hz1)
      have hyo := HO.out z2 (List.mem_of_getElem? hz2)
      have hst := HS.out.trans (slowGo_step hz1)
      obtain ⟨⟨_, _⟩, ⟨_, _⟩, ⟨c1, c2⟩, _, _⟩ := okR_bd hzo
      obtain ⟨⟨_, _⟩, ⟨_, _⟩, ⟨d1, d2⟩, _, _⟩ := okR_bd hyo
      obtain ⟨n1, n2⟩ := denR_pos hzo
      obtain ⟨m1, m2⟩ := denR_pos hyo
      have HDz := hide fun W => drag_any z1 W hzo
      have HDy := hide fun W => drag_any z2 W hyo
      obtain ⟨t1, t2⟩ := mul_bd (a := z1.c) (b := denR z2) (m := 100) (n := 1000) (by omega) c2 (by omega) m2
      obtain ⟨t3, t4⟩ := mul_bd (a := z2.c) (b := denR z1) (m := 100) (n := 1000) (by omega) d2 (by omega) n2
      have e1 : IntKind.i64.wrap (z1.c * denR z2) = z1.c * denR z2 := wrap_in (by omega) (by omega)
      have e2 : IntKind.i64.wrap (z2.c * denR z1) = z2.c * denR z1 := wrap_in (by omega) (by omega)
      have b0 : Below w.heap.size w (wr.alloc (.cells #[.int .i64 z1.a, .int .i64 z1.b, .int .i64 z1.c, .int .i64 z1.d] 83)) := HB.out.alloc HB.out.size _
      have B0 := hide b0
      have X0 := hide (BoxN.new wr #[.int .i64 z1.a, .int .i64 z1.b, .int .i64 z1.c, .int .i64 z1.d] 83)
      have hwz := HB.out.size
      have hq : ∀ j v, wr.cell? ⟨b1, j, none⟩ = some v → (wr.alloc (.cells #[.int .i64 z1.a, .int .i64 z1.b, .int .i64 z1.c, .int .i64 z1.d] 83)).cell? ⟨b1, j, none⟩ = some v := fun j v h => (((Below.refl wr.heap.size wr).alloc (Nat.le_refl _) _).cell (p := ⟨b1, j, none⟩) (by dsimp only; omega)).trans h
      have hea := hq _ _ hda
      have heb := hq _ _ hdb
      have hec := hq _ _ hdc
      have hed := hq _ _ hdd
      have zz := X0.out.lt
      have HZ1 := hide hz1
      have HST := hide hst
      clear hda hdb hdc hdd hq hz1 hz2 hst b0 hzo hyo
      go_upto_region 9 with fail
      generalize wr.alloc (.cells #[.int .i64 z1.a, .int .i64 z1.b, .int .i64 z1.c, .int .i64 z1.d] 83) = wa at *
      have BD : Hid (Below w.heap.size w wa.drew) := B0.out.drew
      have XD := hide (X0.out.below (Below.refl wa.heap.size wa).drew zz)
      have zd : wr.heap.size < wa.drew.heap.size := zz
      have ga : wa.drew.cell? ⟨b1, o1 + kb * 4, none⟩ = some (.int .i64 z2.a) := hea
      have gb : wa.drew.cell? ⟨b1, o1 + kb * 4 + 1, none⟩ = some (.int .i64 z2.b) := heb
      have gc : wa.drew.cell? ⟨b1, o1 + kb * 4 + 2, none⟩ = some (.int .i64 z2.c) := hec
      have gd : wa.drew.cell? ⟨b1, o1 + kb * 4 + 3, none⟩ = some (.int .i64 z2.d) := hed
      clear hca hcb hcc hcd hea heb hec hed
      refine wp_region_held_drew (S := fun W => W.cell? ⟨b1, o1 + kb * 4, none⟩ = some (.int .i64 z2.a) ∧ W.cell? ⟨b1, o1 + kb * 4 + 1, none⟩ = some (.int .i64 z2.b) ∧ W.cell? ⟨b1, o1 + kb * 4 + 2, none⟩ = some (.int .i64 z2.c) ∧ W.cell? ⟨b1, o1 + kb * 4 + 3, none⟩ = some (.int .i64 z2.d) ∧ W.cell? ⟨wr.heap.size, 0, none⟩ = some (.int .i64 z1.a) ∧ W.cell? ⟨wr.heap.size, 1, none⟩ = some (.int .i64 z1.b) ∧ W.cell? ⟨wr.heap.size, 2, none⟩ = some (.int .i64 z1.c) ∧ W.cell? ⟨wr.heap.size, 3, none⟩ = some (.int .i64 z1.d)) (by kernel_rfl) (⟨ga, gb, gc, gd, XD.out.cell 0, XD.out.cell 1, XD.out.cell 2, XD.out.cell 3⟩) (fun hHeld => ?_)
      generalize wa.drew = wd at *
      refine wpAnyH_take (i := 0) (v := ?_) rfl (by kernel_rfl) (by kernel_rfl) (by kernel_rfl) (fun _ _ _ h => h) (Or.inl ⟨by rfl, ?_⟩) (by assumption) ?_
      rotate_left 1
      · (intro w hSw; (try dsimp only at hSw); go_simp; try with_reducible rfl)
      try simp only [Act.put, List.getElem_toArray, List.getElem_cons_succ, List.getElem_cons_zero, List.setIfInBounds_toArray, List.set_cons_zero, List.set_cons_succ]
      refine wpAnyH_take (i := 1) (v := ?_) rfl (by kernel_rfl) (by kernel_rfl) (by kernel_rfl) (fun _ _ _ h => h) (Or.inl ⟨by rfl, ?_⟩) (by assumption) ?_
      rotate_left 1
      · (intro w hSw; (try dsimp only at hSw); go_simp; try with_reducible rfl)
      try simp only [Act.put, List.getElem_toArray, List.getElem_cons_succ, List.getElem_cons_zero, List.setIfInBounds_toArray, List.set_cons_zero, List.set_cons_succ]
      refine wpAnyH_take (i := 2) (v := ?_) rfl (by kernel_rfl) (by kernel_rfl) (by kernel_rfl) (fun _ _ _ h => h) (Or.inl ⟨by rfl, ?_⟩) (by assumption) ?_
      rotate_left 1
      · (intro w hSw; (try dsimp only at hSw); go_simp; try with_reducible rfl)
      try simp only [Act.put, List.getElem_toArray, List.getElem_cons_succ, List.getElem_cons_zero, List.setIfInBounds_toArray, List.set_cons_zero, List.set_cons_succ]
      refine wpAnyH_take (i := 3) (v := ?_) rfl (by kernel_rfl) (by kernel_rfl) (by kernel_rfl) (fun _ _ _ h => h) (Or.inl ⟨by rfl, ?_⟩) (by assumption) ?_
      rotate_left 1
      · (intro w hSw; (try dsimp only at hSw); go_simp; try with_reducible rfl)
      try simp only [Act.put, List.getElem_toArray, List.getElem_cons_succ, List.getElem_cons_zero, List.setIfInBounds_toArray, List.set_cons_zero, List.set_cons_succ]
      refine wpAnyH_take (i := 4) (v := ?_) rfl (by kernel_rfl) (by kernel_rfl) (by kernel_rfl) (fun _ _ _ h => h) (Or.inl ⟨by rfl, ?_⟩) (by assumption) ?_
      rotate_left 1
      · (intro w hSw; (try dsimp only at hSw); go_simp; try with_reducible rfl)
      try simp only [Act.put, List.getElem_toArray, List.getElem_cons_succ, List.getElem_cons_zero, List.setIfInBounds_toArray, List.set_cons_zero, List.set_cons_succ]
      refine wpAnyH_take (i := 5) (v := ?_) rfl (by kernel_rfl) (by kernel_rfl) (by kernel_rfl) (fun _ _ _ h => h) (Or.inl ⟨by rfl, ?_⟩) (by assumption) ?_
      rotate_left 1
      · (intro w hSw; (try dsimp only at hSw); go_simp; try with_reducible rfl)
      try simp only [Act.put, List.getElem_toArray, List.getElem_cons_succ, List.getElem_cons_zero, List.setIfInBounds_toArray, List.set_cons_zero, List.set_cons_succ]
      refine wpAnyH_take (i := 8) (v := ?_) rfl (by kernel_rfl) (by kernel_rfl) (by kernel_rfl) (fun _ _ _ h => h) (Or.inl ⟨by rfl, ?_⟩) (by assumption) ?_
      rotate_left 1
      · (intro w hSw; (try dsimp only at hSw); go_simp; try with_reducible rfl)
      try simp only [Act.put, List.getElem_toArray, List.getElem_cons_succ, List.getElem_cons_zero, List.setIfInBounds_toArray, List.set_cons_zero, List.set_cons_succ]
      refine wpAnyH_take (i := 9) (v := ?_) rfl (by kernel_rfl) (by kernel_rfl) (by kernel_rfl) (fun _ _ _ h => h) (Or.inl ⟨by rfl, ?_⟩) (by assumption) ?_
      rotate_left 1
      · (intro w hSw; (try dsimp only at hSw); go_simp; try with_reducible rfl)
      try simp only [Act.put, List.getElem_toArray, List.getElem_cons_succ, List.getElem_cons_zero, List.setIfInBounds_toArray, List.set_cons_zero, List.set_cons_succ]
      refine wpAnyH_take (i := 10) (v := ?_) rfl (by kernel_rfl) (by kernel_rfl) (by kernel_rfl) (fun _ _ _ h => h) (Or.inl ⟨by rfl, ?_⟩) (by assumption) ?_
      rotate_left 1
      · (intro w hSw; (try dsimp only at hSw); go_simp; try with_reducible rfl)
      try simp only [Act.put, List.getElem_toArray, List.getElem_cons_succ, List.getElem_cons_zero, List.setIfInBounds_toArray, List.set_cons_zero, List.set_cons_succ]
      refine wpAnyH_take (i := 11) (v := ?_) rfl (by kernel_rfl) (by kernel_rfl) (by kernel_rfl) (fun _ _ _ h => h) (Or.inl ⟨by rfl, ?_⟩) (by assumption) ?_
      rotate_left 1
      · (intro w hSw; (try dsimp only at hSw); go_simp; try with_reducible rfl)
      try simp only [Act.put, List.getElem_toArray, List.getElem_cons_succ, List.getElem_cons_zero, List.setIfInBounds_toArray, List.set_cons_zero, List.set_cons_succ]
      refine wpAnyH_take (i := 12) (v := ?_) rfl (by kernel_rfl) (by kernel_rfl) (by kernel_rfl) (fun _ _ _ h => h) (Or.inl ⟨by rfl, ?_⟩) (by assumption) ?_
      rotate_left 1
      · (intro w hSw; (try dsimp only at hSw); go_simp; try with_reducible rfl)
      try simp only [Act.put, List.getElem_toArray, List.getElem_cons_succ, List.getElem_cons_zero, List.setIfInBounds_toArray, List.set_cons_zero, List.set_cons_succ]
      refine wpAnyH_take (i := 13) (v := ?_) rfl (by kernel_rfl) (by kernel_rfl) (by kernel_rfl) (fun _ _ _ h => h) (Or.inl ⟨by rfl, ?_⟩) (by assumption) ?_
      rotate_left 1
      · (intro w hSw; (try dsimp only at hSw); go_simp; try with_reducible rfl)
      try simp only [Act.put, List.getElem_toArray, List.getElem_cons_succ, List.getElem_cons_zero, List.setIfInBounds_toArray, List.set_cons_zero, List.set_cons_succ]
      refine wpAnyH_ready (rs := [6]) (by kernel_rfl) (by simp) ?_
      refine AllReadyH.cons rfl (fun K hK => ?_) AllReadyH.nil
      try simp only [Act.put, List.getElem_toArray, List.getElem_cons_succ, List.getElem_cons_zero, List.setIfInBounds_toArray, List.set_cons_zero, List.set_cons_succ]
      go_simp
      go_at_call 125
      refine (HDy.out _).mono ?_
      rintro e w2 ⟨rfl, s2⟩
      have X2 := hide (XD.out.below s2 zd)
      have B2 := hide (BD.out.trans (s2.mono BD.out.size))
      have ga2 := (s2.cell (p := ⟨b1, o1 + kb * 4, none⟩) (by dsimp only; omega)).trans ga
      have gb2 := (s2.cell (p := ⟨b1, o1 + kb * 4 + 1, none⟩) (by dsimp only; omega)).trans gb
      have gc2 := (s2.cell (p := ⟨b1, o1 + kb * 4 + 2, none⟩) (by dsimp only; omega)).trans gc
      have gd2 := (s2.cell (p := ⟨b1, o1 + kb * 4 + 3, none⟩) (by dsimp only; omega)).trans gd
      have z2s := s2.size
      dsimp only
      refine hK.out _ _ (⟨ga2, gb2, gc2, gd2, X2.out.cell 0, X2.out.cell 1, X2.out.cell 2, X2.out.cell 3⟩) (fun hHeld => ?_)
      clear hK K
      try simp only [Act.put, List.getElem_toArray, List.getElem_cons_succ, List.getElem_cons_zero, List.setIfInBounds_toArray, List.set_cons_zero, List.set_cons_succ]
      refine wpAnyH_take (i := 7) (v := ?_) rfl (by kernel_rfl) (by kernel_rfl) (by kernel_rfl) (fun _ _ _ h => h) (Or.inl ⟨by rfl, ?_⟩) (by assumption) ?_
      rotate_left 1
      · (intro w hSw; (try dsimp only at hSw); go_simp; try with_reducible rfl)
      try simp only [Act.put, List.getElem_toArray, List.getElem_cons_succ, List.getElem_cons_zero, List.setIfInBounds_toArray, List.set_cons_zero, List.set_cons_succ]
      refine wpAnyH_ready (rs := [14]) (by kernel_rfl) (by simp) ?_
      refine AllReadyH.cons rfl (fun K hK => ?_) AllReadyH.nil
      try simp only [Act.put, List.getElem_toArray, List.getElem_cons_succ, List.getElem_cons_zero, List.setIfInBounds_toArray, List.set_cons_zero, List.set_cons_succ]
      go_simp
      go_at_call 125
      refine (HDz.out _).mono ?_
      rintro e w3 ⟨rfl, s3⟩
      have X3 := hide (X2.out.below s3 (by omega))
      have B3 := hide (B2.out.trans (s3.mono B2.out.size))
      have ga3 := (s3.cell (p := ⟨b1, o1 + kb * 4, none⟩) (by dsimp only; omega)).trans ga2
      have gb3 := (s3.cell (p := ⟨b1, o1 + kb * 4 + 1, none⟩) (by dsimp only; omega)).trans gb2
      have gc3 := (s3.cell (p := ⟨b1, o1 + kb * 4 + 2, none⟩) (by dsimp only; omega)).trans gc2
      have gd3 := (s3.cell (p := ⟨b1, o1 + kb * 4 + 3, none⟩) (by dsimp only; omega)).trans gd2
      dsimp only
      refine hK.out _ _ (⟨ga3, gb3, gc3, gd3, X3.out.cell 0, X3.out.cell 1, X3.out.cell 2, X3.out.cell 3⟩) (fun hHeld => ?_)
      clear hK K
      try simp only [Act.put, List.getElem_toArray, List.getElem_cons_succ, List.getElem_cons_zero, List.setIfInBounds_toArray, List.set_cons_zero, List.set_cons_succ]
      refine wpAnyH_take (i := 15) (v := ?_) rfl (by kernel_rfl) (by kernel_rfl) (by kernel_rfl) (fun _ _ _ h => h) (Or.inl ⟨by rfl, ?_⟩) (by assumption) ?_
      rotate_left 1
      · (intro w hSw; (try dsimp only at hSw); go_simp; try with_reducible rfl)
      try simp only [Act.put, List.getElem_toArray, List.getElem_cons_succ, List.getElem_cons_zero, List.setIfInBounds_toArray, List.set_cons_zero, List.set_cons_succ]
      by_cases hcm : z1.c * denR z2 < z2.c * denR z1
      · refine wpAnyH_take (i := 16) (v := ?_) rfl (by kernel_rfl) (by kernel_rfl) (by kernel_rfl) (fun _ _ _ h => h) (Or.inl ⟨by rfl, ?_⟩) (by assumption) ?_
        rotate_left 1
        · (intro w hSw; (try dsimp only at hSw); go_simp; try with_reducible rfl)
        try simp only [Act.put, List.getElem_toArray, List.getElem_cons_succ, List.getElem_cons_zero, List.setIfInBounds_toArray, List.set_cons_zero, List.set_cons_succ]
        refine wpAnyH_done (by kernel_rfl) ?_ _
        go_wp2_with fail
        go_roundg (xs.length - (k + 1))
        case measure => have := hg.out; omega
        case rel => exact ⟨k + 1, k, z1, by omega, rfl, rfl, by go_num, hlt, HZ1, hide (by rw [HST.out, if_pos hcm]), B3⟩
      · refine wpAnyH_take (i := 16) (v := ?_) rfl (by kernel_rfl) (by kernel_rfl) (by kernel_rfl) (fun _ _ _ h => h) (Or.inl ⟨by rfl, ?_⟩) (by assumption) ?_
        rotate_left 1
        · (intro w hSw; (try dsimp only at hSw); go_simp; try with_reducible rfl)
        try simp only [Act.put, List.getElem_toArray, List.getElem_cons_succ, List.getElem_cons_zero, List.setIfInBounds_toArray, List.set_cons_zero, List.set_cons_succ]
        refine wpAnyH_done (by kernel_rfl) ?_ _
        go_wp2_with fail
        go_roundg (xs.length - (k + 1))
        case measure => have := hg.out; omega
        case rel => exact ⟨k + 1, kb, z2, by omega, rfl, rfl, by go_num, hkb, HYB, hide (by rw [HST.out, if_neg (by omega)]), B3⟩
    · obtain rfl : k = xs.length := by omega
      have HE := hide (HS.out.trans (by rw [List.drop_eq_nil_of_le (Nat.le_refl _), slowGo]))
      go_wp2_with fail
      refine bodyPost_ret (v := .tuple #[.int .i64 kb, .int .i64 0]) (by simp [results, Try.results53, go_sem]) rfl ⟨by rw [HK.out, HE.out], HB.out⟩
set_option maxRecDepth 100000 in
set_option maxHeartbeats 4000000 in
theorem implCatchUp_any (a b : T4) (later : Int) (w : World) :
    Calls Try.prog 56 #[.agg #[.int .i64 a.a, .int .i64 a.b, .int .i64 a.c, .int .i64 a.d], .agg #[.int .i64 b.a, .int .i64 b.b, .int .i64 b.c, .int .i64 b.d], .int .i64 later] w fun e w' => e = .returned (.tuple #[.int .i64 (catchUp a b later).1, .int .i64 (catchUp a b later).2]) ∧ Below w.heap.size w w' := by
  have X0 := hide (show BoxN ((w.alloc (.cells #[.int .i64 a.a, .int .i64 a.b, .int .i64 a.c, .int .i64 a.d] 83)).alloc (.cells #[.int .i64 b.a, .int .i64 b.b, .int .i64 b.c, .int .i64 b.d] 83)) w.heap.size #[.int .i64 a.a, .int .i64 a.b, .int .i64 a.c, .int .i64 a.d] 83 from (BoxN.new w _ _).alloc _)
  have Y0 := hide (show BoxN ((w.alloc (.cells #[.int .i64 a.a, .int .i64 a.b, .int .i64 a.c, .int .i64 a.d] 83)).alloc (.cells #[.int .i64 b.a, .int .i64 b.b, .int .i64 b.c, .int .i64 b.d] 83)) (w.heap.size + 1) #[.int .i64 b.a, .int .i64 b.b, .int .i64 b.c, .int .i64 b.d] 83 by have h := BoxN.new (w.alloc (.cells #[.int .i64 a.a, .int .i64 a.b, .int .i64 a.c, .int .i64 a.d] 83)) #[.int .i64 b.a, .int .i64 b.b, .int .i64 b.c, .int .i64 b.d] 83; simpa using h)
  have b0 : Below w.heap.size w ((w.alloc (.cells #[.int .i64 a.a, .int .i64 a.b, .int .i64 a.c, .int .i64 a.d] 83)).alloc (.cells #[.int .i64 b.a, .int .i64 b.b, .int .i64 b.c, .int .i64 b.d] 83)) := (by repeat (first | exact Below.refl _ _ | assumption | (refine Below.alloc ?_ (by simp <;> omega) _) | refine Below.drew ?_ | refine bdn ?_ _))
  have B0 := hide b0
  have z0 := Y0.out.lt
  have HVa := hide fun W => implValidRide_any a W
  have HVb := hide fun W => implValidRide_any b W
  clear b0
  cases hoa : okR a
  · have HK := hide (show catchUp a b later = (0, 1) by unfold catchUp; rw [if_pos (.inl hoa)])
    rw [hoa] at HVa
    clear hoa
    go_enter Try.func56, Try.ntmps56
    go_upto_region 1 with fail
    generalize ((w.alloc (.cells #[.int .i64 a.a, .int .i64 a.b, .int .i64 a.c, .int .i64 a.d] 83)).alloc (.cells #[.int .i64 b.a, .int .i64 b.b, .int .i64 b.c, .int .i64 b.d] 83)) = w1 at *
    have k0 := X0.out.cell 0
    have k1 := X0.out.cell 1
    have k2 := X0.out.cell 2
    have k3 := X0.out.cell 3
    go_wp2_with (go_at_call 134; refine (HVa.out _).mono ?_; rintro e w2 ⟨rfl, s2⟩)
    refine bodyPost_ret (v := .tuple #[.int .i64 0, .int .i64 1]) (by simp [results, Try.results56, go_sem]) rfl ⟨by rw [HK.out], B0.out.trans (s2.mono B0.out.size)⟩
  cases hob : okR b
  · have HK := hide (show catchUp a b later = (0, 1) by unfold catchUp; rw [if_pos (.inr hob)])
    rw [hoa] at HVa
    rw [hob] at HVb
    clear hoa hob
    go_enter Try.func56, Try.ntmps56
    go_upto_region 1 with fail
    generalize ((w.alloc (.cells #[.int .i64 a.a, .int .i64 a.b, .int .i64 a.c, .int .i64 a.d] 83)).alloc (.cells #[.int .i64 b.a, .int .i64 b.b, .int .i64 b.c, .int .i64 b.d] 83)) = w1 at *
    have k0 := X0.out.cell 0
    have k1 := X0.out.cell 1
    have k2 := X0.out.cell 2
    have k3 := X0.out.cell 3
    go_wp2_with (first | (go_at_call 134; with_reducible refine (HVa.out _).mono ?_; rintro e w2 ⟨rfl, s2⟩; have Y2 := hide (Y0.out.below s2 (by omega)); have l0 := Y2.out.cell 0; have l1 := Y2.out.cell 1; have l2 := Y2.out.cell 2; have l3 := Y2.out.cell 3) | (go_at_call 134; with_reducible refine (HVb.out _).mono ?_; rintro e w3 ⟨rfl, s3⟩))
    refine bodyPost_ret (v := .tuple #[.int .i64 0, .int .i64 1]) (by simp [results, Try.results56, go_sem]) rfl ⟨by rw [HK.out], (B0.out.trans (s2.mono B0.out.size)).trans (s3.mono (Nat.le_trans B0.out.size s2.size))⟩
  rw [hoa] at HVa
  rw [hob] at HVb
  by_cases hr : 0 ≤ later ∧ later ≤ 10000
  case neg =>
    have hr' : later < 0 ∨ 10000 < later := by omega
    have HK := hide (show catchUp a b later = (0, 2) by unfold catchUp; rw [if_neg (by simp [hoa, hob]), if_pos (inB_f hr')])
    clear hoa hob hr
    go_enter Try.func56, Try.ntmps56
    go_upto_region 1 with fail
    generalize ((w.alloc (.cells #[.int .i64 a.a, .int .i64 a.b, .int .i64 a.c, .int .i64 a.d] 83)).alloc (.cells #[.int .i64 b.a, .int .i64 b.b, .int .i64 b.c, .int .i64 b.d] 83)) = w1 at *
    have k0 := X0.out.cell 0
    have k1 := X0.out.cell 1
    have k2 := X0.out.cell 2
    have k3 := X0.out.cell 3
    go_wp2_with (first | (go_at_call 115; first | (refine (within_t _ _ _ _ (by omega)).mono ?_; rintro e w' ⟨rfl, rfl⟩) | (refine (within_f _ _ _ _ (by omega)).mono ?_; rintro e w' ⟨rfl, rfl⟩)) | (go_at_call 134; with_reducible refine (HVa.out _).mono ?_; rintro e w2 ⟨rfl, s2⟩; have Y2 := hide (Y0.out.below s2 (by omega)); have l0 := Y2.out.cell 0; have l1 := Y2.out.cell 1; have l2 := Y2.out.cell 2; have l3 := Y2.out.cell 3) | (go_at_call 134; with_reducible refine (HVb.out _).mono ?_; rintro e w3 ⟨rfl, s3⟩))
    refine bodyPost_ret (v := .tuple #[.int .i64 0, .int .i64 2]) (by simp [results, Try.results56, go_sem]) rfl ⟨by rw [HK.out], (B0.out.trans (s2.mono B0.out.size)).trans (s3.mono (Nat.le_trans B0.out.size s2.size))⟩
  obtain ⟨hr1, hr2⟩ := hr
  have HRB := hide (inB_t ⟨hr1, hr2⟩)
  by_cases hab : a.a = b.a
  case neg =>
    have HK := hide (show catchUp a b later = (0, 8) by unfold catchUp; rw [if_neg (by simp [hoa, hob]), if_neg (by simp [HRB.out]), if_pos hab])
    have habb : (a.a != b.a) = true := by simpa using hab
    clear hoa hob
    go_enter Try.func56, Try.ntmps56
    go_upto_region 1 with fail
    generalize ((w.alloc (.cells #[.int .i64 a.a, .int .i64 a.b, .int .i64 a.c, .int .i64 a.d] 83)).alloc (.cells #[.int .i64 b.a, .int .i64 b.b, .int .i64 b.c, .int .i64 b.d] 83)) = w1 at *
    have k0 := X0.out.cell 0
    have k1 := X0.out.cell 1
    have k2 := X0.out.cell 2
    have k3 := X0.out.cell 3
    go_wp2_with (first | (go_at_call 115; first | (refine (within_t _ _ _ _ (by omega)).mono ?_; rintro e w' ⟨rfl, rfl⟩) | (refine (within_f _ _ _ _ (by omega)).mono ?_; rintro e w' ⟨rfl, rfl⟩)) | (go_at_call 134; with_reducible refine (HVa.out _).mono ?_; rintro e w2 ⟨rfl, s2⟩; have Y2 := hide (Y0.out.below s2 (by omega)); have l0 := Y2.out.cell 0; have l1 := Y2.out.cell 1; have l2 := Y2.out.cell 2; have l3 := Y2.out.cell 3) | (go_at_call 134; with_reducible refine (HVb.out _).mono ?_; rintro e w3 ⟨rfl, s3⟩; have X3 := hide ((X0.out.below s2 (by omega)).below s3 (by have := s2.size; omega)); have Y3 := hide (Y2.out.below s3 (by have := s2.size; omega)); have i0 := X3.out.cell 0; have j0 := Y3.out.cell 0))
    refine bodyPost_ret (v := .tuple #[.int .i64 0, .int .i64 8]) (by simp [results, Try.results56, go_sem]) rfl ⟨by rw [HK.out], (B0.out.trans (s2.mono B0.out.size)).trans (s3.mono (Nat.le_trans B0.out.size s2.size))⟩
  have HK := hide (show catchUp a b later = catchGo a b later (ticksR a - later).toNat later by unfold catchUp; rw [if_neg (by simp [hoa, hob]), if_neg (by simp [HRB.out]), if_neg (by simpa using hab)])
  have habb : (a.a != b.a) = false := by simpa using hab
  clear hab
  have HT := hide fun W => ticks_any a W hoa
  have HDa := hide fun W => drag_any a W hoa
  have HDb := hide fun W => drag_any b W hob
  have ht1 := ticksR_pos hoa
  have ht2 := ticksR_le hoa
  obtain ⟨⟨_, _⟩, ⟨_, _⟩, ⟨c1, c2⟩, _, _⟩ := okR_bd hoa
  obtain ⟨⟨_, _⟩, ⟨_, _⟩, ⟨d1, d2⟩, _, _⟩ := okR_bd hob
  obtain ⟨n1, n2⟩ := denR_pos hoa
  obtain ⟨m1, m2⟩ := denR_pos hob
  have HC := hide (show ∀ t, caught a b later t = decide (a.c * t * denR b ≤ b.c * (t - later) * denR a) from fun _ => rfl)
  obtain ⟨ta, hta⟩ : ∃ ta, ta = ticksR a := ⟨_, rfl⟩
  rw [← hta] at HT HK ht1 ht2
  clear hoa hob hta
  go_enter Try.func56, Try.ntmps56
  go_upto_region 1 with fail
  generalize ((w.alloc (.cells #[.int .i64 a.a, .int .i64 a.b, .int .i64 a.c, .int .i64 a.d] 83)).alloc (.cells #[.int .i64 b.a, .int .i64 b.b, .int .i64 b.c, .int .i64 b.d] 83)) = w1 at *
  have k0 := X0.out.cell 0
  have k1 := X0.out.cell 1
  have k2 := X0.out.cell 2
  have k3 := X0.out.cell 3
  go_upto_region 7 with (first | (go_at_call 115; first | (refine (within_t _ _ _ _ (by omega)).mono ?_; rintro e w' ⟨rfl, rfl⟩) | (refine (within_f _ _ _ _ (by omega)).mono ?_; rintro e w' ⟨rfl, rfl⟩)) | (go_at_call 134; with_reducible refine (HVa.out _).mono ?_; rintro e w2 ⟨rfl, s2⟩; have Y2 := hide (Y0.out.below s2 (by omega)); have l0 := Y2.out.cell 0; have l1 := Y2.out.cell 1; have l2 := Y2.out.cell 2; have l3 := Y2.out.cell 3) | (go_at_call 134; with_reducible refine (HVb.out _).mono ?_; rintro e w3 ⟨rfl, s3⟩; have X3 := hide ((X0.out.below s2 (by omega)).below s3 (by have := s2.size; omega)); have Y3 := hide (Y2.out.below s3 (by have := s2.size; omega)); have i0 := X3.out.cell 0; have j0 := Y3.out.cell 0))
  have B3 := hide ((B0.out.trans (s2.mono B0.out.size)).trans (s3.mono (Nat.le_trans B0.out.size s2.size)))
  clear k0 k1 k2 k3 l0 l1 l2 l3 i0 j0 s2 s3 Y2 B0 X0 Y0 HVa HVb
  go_wp2_with fail
  go_loopg [8] (ta - later).toNat (fun g tv wr => ∃ t : Int, tv = .int .i64 t ∧ later ≤ t ∧ (t ≤ ta ∨ t = later) ∧ Hid (g = (ta - t).toNat) ∧ Hid (catchGo a b later (ta - later).toNat later = catchGo a b later (ta - t).toNat t) ∧ Hid (BoxN wr w.heap.size #[.int .i64 a.a, .int .i64 a.b, .int .i64 a.c, .int .i64 a.d] 83) ∧ Hid (BoxN wr (w.heap.size + 1) #[.int .i64 b.a, .int .i64 b.b, .int .i64 b.c, .int .i64 b.d] 83) ∧ Hid (Below w.heap.size w wr))
  case atStart => exact ⟨later, rfl, Int.le_refl _, .inr rfl, rfl, rfl, X3, Y3, B3⟩
  case round =>
    obtain ⟨t, rfl, ht3, ht4, hg, HS, XR, YR, HB⟩ := hrel
    have zr := YR.out.lt
    have k0 := XR.out.cell 0
    have k1 := XR.out.cell 1
    have k2 := XR.out.cell 2
    have k3 := XR.out.cell 3
    by_cases hlt : t < ta
    · have hst : catchGo a b later (ta - t).toNat t = if caught a b later t then (t, 0) else catchGo a b later (ta - (t + 1)).toNat (t + 1) := by
        rw [show (ta - t).toNat = (ta - (t + 1)).toNat + 1 by omega, catchGo]
      have HST := hide (HS.out.trans hst)
      obtain ⟨p1, p2⟩ := mul_bd (a := b.c) (b := t - later) (m := 100) (n := 2010000) (by omega) d2 (by omega) (by omega)
      obtain ⟨p3, p4⟩ := mul_bd (a := b.c * (t - later)) (b := denR a) (m := 201000000) (n := 1000) (by omega) (by omega) (by omega) n2
      obtain ⟨p5, p6⟩ := mul_bd (a := a.c) (b := t) (m := 100) (n := 2020000) (by omega) c2 (by omega) (by omega)
      obtain ⟨p7, p8⟩ := mul_bd (a := a.c * t) (b := denR b) (m := 202000000) (n := 1000) (by omega) (by omega) (by omega) m2
      have e1 : IntKind.i64.wrap (b.c * (t - later)) = b.c * (t - later) := wrap_in (by omega) (by omega)
      have e2 : IntKind.i64.wrap (b.c * (t - later) * denR a) = b.c * (t - later) * denR a := wrap_in (by omega) (by omega)
      have e3 : IntKind.i64.wrap (a.c * t) = a.c * t := wrap_in (by omega) (by omega)
      have e4 : IntKind.i64.wrap (a.c * t * denR b) = a.c * t * denR b := wrap_in (by omega) (by omega)
      have e5 : IntKind.i64.wrap (t - later) = t - later := wrap_in (by omega) (by omega)
      clear hst p1 p2 p3 p4 p5 p6 p7 p8
      go_upto_region 10 with (go_at_call 123; refine (HT.out _).mono ?_; rintro e w2 ⟨rfl, s2⟩)
      have XD := hide ((XR.out.below s2 (by omega)).below (Below.refl w2.heap.size w2).drew (by have := s2.size; omega))
      have YD := hide ((YR.out.below s2 (by omega)).below (Below.refl w2.heap.size w2).drew (by have := s2.size; omega))
      have BD : Hid (Below w.heap.size w w2.drew) := (HB.out.trans (s2.mono HB.out.size)).drew
      have zd : w.heap.size + 1 < w2.drew.heap.size := Nat.lt_of_lt_of_le zr s2.size
      clear k0 k1 k2 k3 s2
      refine wp_region_held_drew (S := fun W => W.cell? ⟨w.heap.size, 0, none⟩ = some (.int .i64 a.a) ∧ W.cell? ⟨w.heap.size, 1, none⟩ = some (.int .i64 a.b) ∧ W.cell? ⟨w.heap.size, 2, none⟩ = some (.int .i64 a.c) ∧ W.cell? ⟨w.heap.size, 3, none⟩ = some (.int .i64 a.d) ∧ W.cell? ⟨w.heap.size + 1, 0, none⟩ = some (.int .i64 b.a) ∧ W.cell? ⟨w.heap.size + 1, 1, none⟩ = some (.int .i64 b.b) ∧ W.cell? ⟨w.heap.size + 1, 2, none⟩ = some (.int .i64 b.c) ∧ W.cell? ⟨w.heap.size + 1, 3, none⟩ = some (.int .i64 b.d)) (by kernel_rfl) (⟨XD.out.cell 0, XD.out.cell 1, XD.out.cell 2, XD.out.cell 3, YD.out.cell 0, YD.out.cell 1, YD.out.cell 2, YD.out.cell 3⟩) (fun hHeld => ?_)
      generalize w2.drew = wd at *
      refine wpAnyH_take (i := 0) (v := ?_) rfl (by kernel_rfl) (by kernel_rfl) (by kernel_rfl) (fun _ _ _ h => h) (Or.inl ⟨by rfl, ?_⟩) (by assumption) ?_
      rotate_left 1
      · (intro w hSw; (try dsimp only at hSw); go_simp; try with_reducible rfl)
      try simp only [Act.put, List.getElem_toArray, List.getElem_cons_succ, List.getElem_cons_zero, List.setIfInBounds_toArray, List.set_cons_zero, List.set_cons_succ]
      refine wpAnyH_take (i := 1) (v := ?_) rfl (by kernel_rfl) (by kernel_rfl) (by kernel_rfl) (fun _ _ _ h => h) (Or.inl ⟨by rfl, ?_⟩) (by assumption) ?_
      rotate_left 1
      · (intro w hSw; (try dsimp only at hSw); go_simp; try with_reducible rfl)
      try simp only [Act.put, List.getElem_toArray, List.getElem_cons_succ, List.getElem_cons_zero, List.setIfInBounds_toArray, List.set_cons_zero, List.set_cons_succ]
      refine wpAnyH_take (i := 2) (v := ?_) rfl (by kernel_rfl) (by kernel_rfl) (by kernel_rfl) (fun _ _ _ h => h) (Or.inl ⟨by rfl, ?_⟩) (by assumption) ?_
      rotate_left 1
      · (intro w hSw; (try dsimp only at hSw); go_simp; try with_reducible rfl)
      try simp only [Act.put, List.getElem_toArray, List.getElem_cons_succ, List.getElem_cons_zero, List.setIfInBounds_toArray, List.set_cons_zero, List.set_cons_succ]
      refine wpAnyH_take (i := 3) (v := ?_) rfl (by kernel_rfl) (by kernel_rfl) (by kernel_rfl) (fun _ _ _ h => h) (Or.inl ⟨by rfl, ?_⟩) (by assumption) ?_
      rotate_left 1
      · (intro w hSw; (try dsimp only at hSw); go_simp; try with_reducible rfl)
      try simp only [Act.put, List.getElem_toArray, List.getElem_cons_succ, List.getElem_cons_zero, List.setIfInBounds_toArray, List.set_cons_zero, List.set_cons_succ]
      refine wpAnyH_take (i := 4) (v := ?_) rfl (by kernel_rfl) (by kernel_rfl) (by kernel_rfl) (fun _ _ _ h => h) (Or.inl ⟨by rfl, ?_⟩) (by assumption) ?_
      rotate_left 1
      · (intro w hSw; (try dsimp only at hSw); go_simp; try with_reducible rfl)
      try simp only [Act.put, List.getElem_toArray, List.getElem_cons_succ, List.getElem_cons_zero, List.setIfInBounds_toArray, List.set_cons_zero, List.set_cons_succ]
      refine wpAnyH_take (i := 5) (v := ?_) rfl (by kernel_rfl) (by kernel_rfl) (by kernel_rfl) (fun _ _ _ h => h) (Or.inl ⟨by rfl, ?_⟩) (by assumption) ?_
      rotate_left 1
      · (intro w hSw; (try dsimp only at hSw); go_simp; try with_reducible rfl)
      try simp only [Act.put, List.getElem_toArray, List.getElem_cons_succ, List.getElem_cons_zero, List.setIfInBounds_toArray, List.set_cons_zero, List.set_cons_succ]
      refine wpAnyH_take (i := 6) (v := ?_) rfl (by kernel_rfl) (by kernel_rfl) (by kernel_rfl) (fun _ _ _ h => h) (Or.inl ⟨by rfl, ?_⟩) (by assumption) ?_
      rotate_left 1
      · (intro w hSw; (try dsimp only at hSw); go_simp; try with_reducible rfl)
      try simp only [Act.put, List.getElem_toArray, List.getElem_cons_succ, List.getElem_cons_zero, List.setIfInBounds_toArray, List.set_cons_zero, List.set_cons_succ]
      refine wpAnyH_take (i := 9) (v := ?_) rfl (by kernel_rfl) (by kernel_rfl) (by kernel_rfl) (fun _ _ _ h => h) (Or.inl ⟨by rfl, ?_⟩) (by assumption) ?_
      rotate_left 1
      · (intro w hSw; (try dsimp only at hSw); go_simp; try with_reducible rfl)
      try simp only [Act.put, List.getElem_toArray, List.getElem_cons_succ, List.getElem_cons_zero, List.setIfInBounds_toArray, List.set_cons_zero, List.set_cons_succ]
      refine wpAnyH_take (i := 10) (v := ?_) rfl (by kernel_rfl) (by kernel_rfl) (by kernel_rfl) (fun _ _ _ h => h) (Or.inl ⟨by rfl, ?_⟩) (by assumption) ?_
      rotate_left 1
      · (intro w hSw; (try dsimp only at hSw); go_simp; try with_reducible rfl)
      try simp only [Act.put, List.getElem_toArray, List.getElem_cons_succ, List.getElem_cons_zero, List.setIfInBounds_toArray, List.set_cons_zero, List.set_cons_succ]
      refine wpAnyH_take (i := 11) (v := ?_) rfl (by kernel_rfl) (by kernel_rfl) (by kernel_rfl) (fun _ _ _ h => h) (Or.inl ⟨by rfl, ?_⟩) (by assumption) ?_
      rotate_left 1
      · (intro w hSw; (try dsimp only at hSw); go_simp; try with_reducible rfl)
      try simp only [Act.put, List.getElem_toArray, List.getElem_cons_succ, List.getElem_cons_zero, List.setIfInBounds_toArray, List.set_cons_zero, List.set_cons_succ]
      refine wpAnyH_take (i := 12) (v := ?_) rfl (by kernel_rfl) (by kernel_rfl) (by kernel_rfl) (fun _ _ _ h => h) (Or.inl ⟨by rfl, ?_⟩) (by assumption) ?_
      rotate_left 1
      · (intro w hSw; (try dsimp only at hSw); go_simp; try with_reducible rfl)
      try simp only [Act.put, List.getElem_toArray, List.getElem_cons_succ, List.getElem_cons_zero, List.setIfInBounds_toArray, List.set_cons_zero, List.set_cons_succ]
      refine wpAnyH_take (i := 13) (v := ?_) rfl (by kernel_rfl) (by kernel_rfl) (by kernel_rfl) (fun _ _ _ h => h) (Or.inl ⟨by rfl, ?_⟩) (by assumption) ?_
      rotate_left 1
      · (intro w hSw; (try dsimp only at hSw); go_simp; try with_reducible rfl)
      try simp only [Act.put, List.getElem_toArray, List.getElem_cons_succ, List.getElem_cons_zero, List.setIfInBounds_toArray, List.set_cons_zero, List.set_cons_succ]
      refine wpAnyH_ready (rs := [7]) (by kernel_rfl) (by simp) ?_
      refine AllReadyH.cons rfl (fun K hK => ?_) AllReadyH.nil
      try simp only [Act.put, List.getElem_toArray, List.getElem_cons_succ, List.getElem_cons_zero, List.setIfInBounds_toArray, List.set_cons_zero, List.set_cons_succ]
      go_simp
      go_at_call 125
      refine (HDa.out _).mono ?_
      rintro e w3 ⟨rfl, s3⟩
      have X4 := hide (XD.out.below s3 (by omega))
      have Y4 := hide (YD.out.below s3 (by omega))
      have B4 := hide (BD.out.trans (s3.mono BD.out.size))
      have z3 := s3.size
      dsimp only
      refine hK.out _ _ (⟨X4.out.cell 0, X4.out.cell 1, X4.out.cell 2, X4.out.cell 3, Y4.out.cell 0, Y4.out.cell 1, Y4.out.cell 2, Y4.out.cell 3⟩) (fun hHeld => ?_)
      clear hK K
      try simp only [Act.put, List.getElem_toArray, List.getElem_cons_succ, List.getElem_cons_zero, List.setIfInBounds_toArray, List.set_cons_zero, List.set_cons_succ]
      refine wpAnyH_take (i := 8) (v := ?_) rfl (by kernel_rfl) (by kernel_rfl) (by kernel_rfl) (fun _ _ _ h => h) (Or.inl ⟨by rfl, ?_⟩) (by assumption) ?_
      rotate_left 1
      · (intro w hSw; (try dsimp only at hSw); go_simp; try with_reducible rfl)
      try simp only [Act.put, List.getElem_toArray, List.getElem_cons_succ, List.getElem_cons_zero, List.setIfInBounds_toArray, List.set_cons_zero, List.set_cons_succ]
      refine wpAnyH_ready (rs := [14]) (by kernel_rfl) (by simp) ?_
      refine AllReadyH.cons rfl (fun K hK => ?_) AllReadyH.nil
      try simp only [Act.put, List.getElem_toArray, List.getElem_cons_succ, List.getElem_cons_zero, List.setIfInBounds_toArray, List.set_cons_zero, List.set_cons_succ]
      go_simp
      go_at_call 125
      refine (HDb.out _).mono ?_
      rintro e w5 ⟨rfl, s5⟩
      have X5 := hide (X4.out.below s5 (by omega))
      have Y5 := hide (Y4.out.below s5 (by omega))
      have B5 := hide (B4.out.trans (s5.mono B4.out.size))
      dsimp only
      refine hK.out _ _ (⟨X5.out.cell 0, X5.out.cell 1, X5.out.cell 2, X5.out.cell 3, Y5.out.cell 0, Y5.out.cell 1, Y5.out.cell 2, Y5.out.cell 3⟩) (fun hHeld => ?_)
      clear hK K
      try simp only [Act.put, List.getElem_toArray, List.getElem_cons_succ, List.getElem_cons_zero, List.setIfInBounds_toArray, List.set_cons_zero, List.set_cons_succ]
      refine wpAnyH_take (i := 15) (v := ?_) rfl (by kernel_rfl) (by kernel_rfl) (by kernel_rfl) (fun _ _ _ h => h) (Or.inl ⟨by rfl, ?_⟩) (by assumption) ?_
      rotate_left 1
      · (intro w hSw; (try dsimp only at hSw); go_simp; try with_reducible rfl)
      try simp only [Act.put, List.getElem_toArray, List.getElem_cons_succ, List.getElem_cons_zero, List.setIfInBounds_toArray, List.set_cons_zero, List.set_cons_succ]
      by_cases hcm : a.c * t * denR b ≤ b.c * (t - later) * denR a
      · refine wpAnyH_take (i := 16) (v := ?_) rfl (by kernel_rfl) (by kernel_rfl) (by kernel_rfl) (fun _ _ _ h => h) (Or.inl ⟨by rfl, ?_⟩) (by assumption) ?_
        rotate_left 1
        · (intro w hSw; (try dsimp only at hSw); go_simp; try with_reducible rfl)
        try simp only [Act.put, List.getElem_toArray, List.getElem_cons_succ, List.getElem_cons_zero, List.setIfInBounds_toArray, List.set_cons_zero, List.set_cons_succ]
        refine wpAnyH_done (by kernel_rfl) ?_ _
        go_wp2_with fail
        refine bodyPost_ret (v := .tuple #[.int .i64 t, .int .i64 0]) (by simp [results, Try.results56, go_sem]) rfl ⟨by rw [HK.out, HST.out, HC.out, if_pos (decide_eq_true hcm)], B5.out⟩
      · refine wpAnyH_take (i := 16) (v := ?_) rfl (by kernel_rfl) (by kernel_rfl) (by kernel_rfl) (fun _ _ _ h => h) (Or.inl ⟨by rfl, ?_⟩) (by assumption) ?_
        rotate_left 1
        · (intro w hSw; (try dsimp only at hSw); go_simp; try with_reducible rfl)
        try simp only [Act.put, List.getElem_toArray, List.getElem_cons_succ, List.getElem_cons_zero, List.setIfInBounds_toArray, List.set_cons_zero, List.set_cons_succ]
        refine wpAnyH_done (by kernel_rfl) ?_ _
        go_wp2_with fail
        go_roundg (ta - (t + 1)).toNat
        case measure => have := hg.out; omega
        case rel => exact ⟨t + 1, rfl, by omega, .inl (by omega), rfl, hide (by rw [HST.out, HC.out, if_neg (by simpa using hcm)]), X5, Y5, B5⟩
    · have HE := hide (HS.out.trans (by rw [show (ta - t).toNat = 0 by omega, catchGo]))
      go_wp2_with (go_at_call 123; refine (HT.out _).mono ?_; rintro e w2 ⟨rfl, s2⟩)
      refine bodyPost_ret (v := .tuple #[.int .i64 0, .int .i64 3]) (by simp [results, Try.results56, go_sem]) rfl ⟨by rw [HK.out, HE.out], HB.out.trans (s2.mono HB.out.size)⟩
end Go.Proofs.Ytlkccijlbeibjaa
