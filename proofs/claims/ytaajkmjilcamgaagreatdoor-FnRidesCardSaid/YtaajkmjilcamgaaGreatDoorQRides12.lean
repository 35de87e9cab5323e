/-
  A ride read from a text, in the program.
-/
import Derived.Test.YtaajkmjilcamgaaGreatDoorQRides11
namespace Go.Proofs.YtaajkmjilcamgaaGreatDoor
open Go.RowKit
theorem trim_size (a p : ByteArray) : (⟨(Lib.trimSuffix a.data.toList p.data.toList).toArray⟩ : ByteArray).size ≤ a.size := by
  have h := Lib.trimSuffix_le a.data.toList p.data.toList
  have e : (⟨(Lib.trimSuffix a.data.toList p.data.toList).toArray⟩ : ByteArray).size = (Lib.trimSuffix a.data.toList p.data.toList).length := by simp [ByteArray.size]
  have e2 := Lib.size_eq a
  omega
theorem trimS_any (a p : ByteArray) (W : World) (h : a.size ≤ 1000000) : Calls Tryz.prog 41 #[.string a, .string p] W fun e w' => e = .returned (.string ⟨(Lib.trimSuffix a.data.toList p.data.toList).toArray⟩) ∧ w' = W :=
  Go.Proofs.Any.strings_TrimSuffix { YtaajkmjilcamgaaGreatDoor.trimSLay with } a p W (by omega)
theorem splitS_any (s : ByteArray) (W : World) (h : s.size ≤ 1000000) (ht : TxtW W) : Calls Tryz.prog 60 #[.string s, .string ⟨#[32]⟩] W fun e w' => e = .returned (.slice (some ⟨W.heap.size, 0, none⟩) (splitW 32 s).length (splitW 32 s).length) ∧ w' = W.alloc (.cells ((splitW 32 s).map Value.string).toArray 9) := by
  obtain ⟨m, hm⟩ := ht.maxl
  have hc := Go.Proofs.Any.strings_Split { YtaajkmjilcamgaaGreatDoor.splitLay with } YtaajkmjilcamgaaGreatDoor.splitLay.i9 s ⟨#[32]⟩ m W (by omega) hm (Nat.le_refl 1)
  rw [split_all, ← split_len] at hc
  exact hc
set_option maxRecDepth 100000 in
set_option maxHeartbeats 8000000 in
theorem implReadRide_any (s : ByteArray) (w : World) (hs : s.size ≤ 100000) (ht : TxtW w) :
    Calls Tryz.prog 28 #[.string s] w fun e w' => e = .returned (.tuple #[.agg #[.int .i64 (optR (readB s)).a, .int .i64 (optR (readB s)).b, .int .i64 (optR (readB s)).c, .int .i64 (optR (readB s)).d], .bool (readB s).isSome]) ∧ Below w.heap.size w w' := by
  have Y0 := hide (BoxN.new w #[.int .i64 0, .int .i64 0, .int .i64 0, .int .i64 0] 44)
  have B0 := hide (show Below w.heap.size w (w.alloc (.cells #[.int .i64 0, .int .i64 0, .int .i64 0, .int .i64 0] 44)) from (Below.refl _ _).alloc (Nat.le_refl _) _)
  have HSP := hide fun W (hW : Below w.heap.size w W) => splitS_any s W (by omega) (ht.below hW)
  by_cases h4 : (splitW 32 s).length = 4
  case neg =>
    have HRES := hide (words_not4 h4)
    have hB : ((((splitW 32 s).length : Nat) : Int) != 4) = true := by rw [bne_iff_ne]; omega
    have H4 := hide h4
    clear h4
    generalize (splitW 32 s).length = n at *
    generalize splitW 32 s = ws at *
    go_enter Tryz.func28, Tryz.ntmps28
    go_upto_region 1 with fail
    generalize w.alloc (.cells #[.int .i64 0, .int .i64 0, .int .i64 0, .int .i64 0] 44) = w1 at *
    go_upto_region 2 with (go_at_call 60; (with_reducible refine (HSP.out _ B0.out).mono ?_); rintro e wZ ⟨rfl, hwZ⟩; replace hwZ := hide hwZ)
    have Y8 : Hid (BoxN wZ w.heap.size #[.int .i64 0, .int .i64 0, .int .i64 0, .int .i64 0] 44) := hide (by rw [hwZ.out]; exact Y0.out.alloc _)
    have B8 : Hid (Below w.heap.size w wZ) := hide (by rw [hwZ.out]; exact B0.out.alloc B0.out.size _)
    clear hwZ
    have T1 := hide (Y8.out.set 0 (.int .i64 0))
    have T2 := hide (T1.out.set 1 (.int .i64 0))
    have T3 := hide (T2.out.set 2 (.int .i64 0))
    have T4 := hide (T3.out.set 3 (.int .i64 0))
    have m0 : wZ.cell? ⟨w.heap.size, 0, none⟩ = some (.int .i64 0) := Y8.out.cell 0
    have n0 := Y8.out.fro 0
    have m1 : (wZ.setCell ⟨w.heap.size, 0, none⟩ (.int .i64 0)).cell? ⟨w.heap.size, 1, none⟩ = some (.int .i64 0) := T1.out.cell 1
    have n1 := T1.out.fro 1
    have m2 : ((wZ.setCell ⟨w.heap.size, 0, none⟩ (.int .i64 0)).setCell ⟨w.heap.size, 1, none⟩ (.int .i64 0)).cell? ⟨w.heap.size, 2, none⟩ = some (.int .i64 0) := T2.out.cell 2
    have n2 := T2.out.fro 2
    have m3 : (((wZ.setCell ⟨w.heap.size, 0, none⟩ (.int .i64 0)).setCell ⟨w.heap.size, 1, none⟩ (.int .i64 0)).setCell ⟨w.heap.size, 2, none⟩ (.int .i64 0)).cell? ⟨w.heap.size, 3, none⟩ = some (.int .i64 0) := T3.out.cell 3
    have n3 := T3.out.fro 3
    go_wp2_with fail
    have q0 : ((((wZ.setCell ⟨w.heap.size, 0, none⟩ (.int .i64 0)).setCell ⟨w.heap.size, 1, none⟩ (.int .i64 0)).setCell ⟨w.heap.size, 2, none⟩ (.int .i64 0)).setCell ⟨w.heap.size, 3, none⟩ (.int .i64 0)).cell? ⟨w.heap.size, 0, none⟩ = some (.int .i64 0) := T4.out.cell 0
    have q1 : ((((wZ.setCell ⟨w.heap.size, 0, none⟩ (.int .i64 0)).setCell ⟨w.heap.size, 1, none⟩ (.int .i64 0)).setCell ⟨w.heap.size, 2, none⟩ (.int .i64 0)).setCell ⟨w.heap.size, 3, none⟩ (.int .i64 0)).cell? ⟨w.heap.size, 1, none⟩ = some (.int .i64 0) := T4.out.cell 1
    have q2 : ((((wZ.setCell ⟨w.heap.size, 0, none⟩ (.int .i64 0)).setCell ⟨w.heap.size, 1, none⟩ (.int .i64 0)).setCell ⟨w.heap.size, 2, none⟩ (.int .i64 0)).setCell ⟨w.heap.size, 3, none⟩ (.int .i64 0)).cell? ⟨w.heap.size, 2, none⟩ = some (.int .i64 0) := T4.out.cell 2
    have q3 : ((((wZ.setCell ⟨w.heap.size, 0, none⟩ (.int .i64 0)).setCell ⟨w.heap.size, 1, none⟩ (.int .i64 0)).setCell ⟨w.heap.size, 2, none⟩ (.int .i64 0)).setCell ⟨w.heap.size, 3, none⟩ (.int .i64 0)).cell? ⟨w.heap.size, 3, none⟩ = some (.int .i64 0) := T4.out.cell 3
    refine bodyPost_ret (v := .tuple #[.agg #[.int .i64 0, .int .i64 0, .int .i64 0, .int .i64 0], .bool false]) (by simp [results, Tryz.results28, go_sem, q0, q1, q2, q3]) rfl ⟨by rw [HRES.out]; rfl, ?_⟩
    exact (((B8.out.setCell (p := ⟨w.heap.size, 0, none⟩) (Nat.le_refl _) _).setCell (p := ⟨w.heap.size, 1, none⟩) (Nat.le_refl _) _).setCell (p := ⟨w.heap.size, 2, none⟩) (Nat.le_refl _) _).setCell (p := ⟨w.heap.size, 3, none⟩) (Nat.le_refl _) _
  obtain ⟨a, b, c, d, hw, hl, za, zb, zc, zd⟩ := words4 h4
  have HNO := hide (fun h => readI_no hl h)
  have HYES := hide fun x => readI_yes (x := x) hl
  have HOTH := hide fun x => readI_other (x := x) hl
  rw [hw] at HSP
  have HTa := hide fun W => (show Calls Tryz.prog 41 #[.string a, .string ⟨#[109]⟩] W fun e w' => e = .returned (.string ⟨(Lib.trimSuffix a.data.toList [109]).toArray⟩) ∧ w' = W from trimS_any a ⟨#[109]⟩ W (by omega))
  have HRa := hide fun W (hW : TxtW W) => (show Calls Tryz.prog 40 #[.string ⟨(Lib.trimSuffix a.data.toList [109]).toArray⟩] W fun e w' => e = .returned (.tuple #[.int .i64 ((numOf (Lib.trimSuffix a.data.toList [109])).getD 0), .bool (numOf (Lib.trimSuffix a.data.toList [109])).isSome]) ∧ Below W.heap.size W w' from readDec_any _ W (by have := trim_size a ⟨#[109]⟩; have e : (⟨#[109]⟩ : ByteArray).data.toList = [109] := rfl; rw [e] at this; omega) hW)
  generalize (⟨(Lib.trimSuffix a.data.toList [109]).toArray⟩ : ByteArray) = ta at *
  have HTb := hide fun W => (show Calls Tryz.prog 41 #[.string b, .string ⟨#[103]⟩] W fun e w' => e = .returned (.string ⟨(Lib.trimSuffix b.data.toList [103]).toArray⟩) ∧ w' = W from trimS_any b ⟨#[103]⟩ W (by omega))
  have HRb := hide fun W (hW : TxtW W) => (show Calls Tryz.prog 40 #[.string ⟨(Lib.trimSuffix b.data.toList [103]).toArray⟩] W fun e w' => e = .returned (.tuple #[.int .i64 ((numOf (Lib.trimSuffix b.data.toList [103])).getD 0), .bool (numOf (Lib.trimSuffix b.data.toList [103])).isSome]) ∧ Below W.heap.size W w' from readDec_any _ W (by have := trim_size b ⟨#[103]⟩; have e : (⟨#[103]⟩ : ByteArray).data.toList = [103] := rfl; rw [e] at this; omega) hW)
  generalize (⟨(Lib.trimSuffix b.data.toList [103]).toArray⟩ : ByteArray) = tb at *
  have HTc := hide fun W => (show Calls Tryz.prog 41 #[.string c, .string ⟨#[112]⟩] W fun e w' => e = .returned (.string ⟨(Lib.trimSuffix c.data.toList [112]).toArray⟩) ∧ w' = W from trimS_any c ⟨#[112]⟩ W (by omega))
  have HRc := hide fun W (hW : TxtW W) => (show Calls Tryz.prog 40 #[.string ⟨(Lib.trimSuffix c.data.toList [112]).toArray⟩] W fun e w' => e = .returned (.tuple #[.int .i64 ((numOf (Lib.trimSuffix c.data.toList [112])).getD 0), .bool (numOf (Lib.trimSuffix c.data.toList [112])).isSome]) ∧ Below W.heap.size W w' from readDec_any _ W (by have := trim_size c ⟨#[112]⟩; have e : (⟨#[112]⟩ : ByteArray).data.toList = [112] := rfl; rw [e] at this; omega) hW)
  generalize (⟨(Lib.trimSuffix c.data.toList [112]).toArray⟩ : ByteArray) = tc at *
  have HTd := hide fun W => (show Calls Tryz.prog 41 #[.string d, .string ⟨#[98]⟩] W fun e w' => e = .returned (.string ⟨(Lib.trimSuffix d.data.toList [98]).toArray⟩) ∧ w' = W from trimS_any d ⟨#[98]⟩ W (by omega))
  have HRd := hide fun W (hW : TxtW W) => (show Calls Tryz.prog 40 #[.string ⟨(Lib.trimSuffix d.data.toList [98]).toArray⟩] W fun e w' => e = .returned (.tuple #[.int .i64 ((numOf (Lib.trimSuffix d.data.toList [98])).getD 0), .bool (numOf (Lib.trimSuffix d.data.toList [98])).isSome]) ∧ Below W.heap.size W w' from readDec_any _ W (by have := trim_size d ⟨#[98]⟩; have e : (⟨#[98]⟩ : ByteArray).data.toList = [98] := rfl; rw [e] at this; omega) hW)
  generalize (⟨(Lib.trimSuffix d.data.toList [98]).toArray⟩ : ByteArray) = td at *
  have HTW := hide fun W (hW : Below w.heap.size w W) => ht.below hW
  clear h4 hw hl za zb zc zd hs
  generalize numOf (Lib.trimSuffix a.data.toList [109]) = Na at *
  generalize numOf (Lib.trimSuffix b.data.toList [103]) = Nb at *
  generalize numOf (Lib.trimSuffix c.data.toList [112]) = Nc at *
  generalize numOf (Lib.trimSuffix d.data.toList [98]) = Nd at *
  go_enter Tryz.func28, Tryz.ntmps28
  go_upto_region 1 with fail
  generalize w.alloc (.cells #[.int .i64 0, .int .i64 0, .int .i64 0, .int .i64 0] 44) = w1 at *
  go_upto_region 2 with (go_at_call 60; (with_reducible refine (HSP.out _ B0.out).mono ?_); rintro e w2 ⟨rfl, hw2⟩; replace hw2 := hide hw2)
  have CW : Hid (BoxN w2 w1.heap.size #[.string a, .string b, .string c, .string d] 9) := hide (by rw [hw2.out]; exact BoxN.new _ _ _)
  have Y2 : Hid (BoxN w2 w.heap.size #[.int .i64 0, .int .i64 0, .int .i64 0, .int .i64 0] 44) := hide (by rw [hw2.out]; exact Y0.out.alloc _)
  have B2 : Hid (Below w.heap.size w w2) := hide (by rw [hw2.out]; exact B0.out.alloc B0.out.size _)
  have hg0 := Y0.out.lt
  generalize hgw : w1.heap.size = gw at *
  clear hw2 Y0 B0 HSP hgw
  have X3 := hide ((BoxN.new w2 #[.int .i64 0, .int .i64 0, .int .i64 0, .int .i64 0] 44).alloc (.cells #[.pointer (some ⟨w2.heap.size, 0, none⟩), .pointer (some ⟨w2.heap.size, 1, none⟩), .pointer (some ⟨w2.heap.size, 2, none⟩), .pointer (some ⟨w2.heap.size, 3, none⟩)] 86))
  have P3 : Hid (BoxN ((w2.alloc (.cells #[.int .i64 0, .int .i64 0, .int .i64 0, .int .i64 0] 44)).alloc (.cells #[.pointer (some ⟨w2.heap.size, 0, none⟩), .pointer (some ⟨w2.heap.size, 1, none⟩), .pointer (some ⟨w2.heap.size, 2, none⟩), .pointer (some ⟨w2.heap.size, 3, none⟩)] 86)) (w2.heap.size + 1) #[.pointer (some ⟨w2.heap.size, 0, none⟩), .pointer (some ⟨w2.heap.size, 1, none⟩), .pointer (some ⟨w2.heap.size, 2, none⟩), .pointer (some ⟨w2.heap.size, 3, none⟩)] 86) := hide (by have h := BoxN.new (w2.alloc (.cells #[.int .i64 0, .int .i64 0, .int .i64 0, .int .i64 0] 44)) #[.pointer (some ⟨w2.heap.size, 0, none⟩), .pointer (some ⟨w2.heap.size, 1, none⟩), .pointer (some ⟨w2.heap.size, 2, none⟩), .pointer (some ⟨w2.heap.size, 3, none⟩)] 86; simpa using h)
  have B3 := hide (show Below w2.heap.size w2 ((w2.alloc (.cells #[.int .i64 0, .int .i64 0, .int .i64 0, .int .i64 0] 44)).alloc (.cells #[.pointer (some ⟨w2.heap.size, 0, none⟩), .pointer (some ⟨w2.heap.size, 1, none⟩), .pointer (some ⟨w2.heap.size, 2, none⟩), .pointer (some ⟨w2.heap.size, 3, none⟩)] 86)) from ((Below.refl _ _).alloc (Nat.le_refl _) _).alloc (by simp) _)
  go_upto_region 6 with fail
  go_loopg [23] 4 (fun g iv wr => ∃ (k : Nat) (ki x0 x1 x2 x3 : Int), k ≤ 4 ∧ Hid (g = 4 - k) ∧ Hid (ki = (k : Int)) ∧ iv = .int .i64 ki ∧ Hid ((1 ≤ k → Na = some x0) ∧ (2 ≤ k → Nb = some x1) ∧ (3 ≤ k → Nc = some x2) ∧ (4 ≤ k → Nd = some x3)) ∧ Hid (BoxN wr w2.heap.size #[.int .i64 x0, .int .i64 x1, .int .i64 x2, .int .i64 x3] 44) ∧ Hid (BoxN wr (w2.heap.size + 1) #[.pointer (some ⟨w2.heap.size, 0, none⟩), .pointer (some ⟨w2.heap.size, 1, none⟩), .pointer (some ⟨w2.heap.size, 2, none⟩), .pointer (some ⟨w2.heap.size, 3, none⟩)] 86) ∧ Hid (Below w2.heap.size w2 wr))
  case atStart => exact ⟨0, 0, 0, 0, 0, 0, by omega, rfl, rfl, rfl, ⟨fun h => absurd h (by decide), fun h => absurd h (by decide), fun h => absurd h (by decide), fun h => absurd h (by decide)⟩, X3, P3, B3⟩
  case round =>
    obtain ⟨k, ki, x0, x1, x2, x3, hk, hg, hki, rfl, HN, HX, HP, HB⟩ := hrel
    clear X3 P3 B3
    have h5 : k = 0 ∨ k = 1 ∨ k = 2 ∨ k = 3 ∨ k = 4 := by omega
    rcases h5 with rfl | rfl | rfl | rfl | rfl
    · obtain rfl : ki = 0 := hki.out
      have pc : wr.cell? ⟨w2.heap.size + 1, 0, none⟩ = some (.pointer (some ⟨w2.heap.size, 0, none⟩)) := HP.out.cell 0
      have hx1 : (⟨#[109, 103, 112, 98]⟩ : ByteArray).extract 0 1 = ⟨#[109]⟩ := rfl
      have hwr : IntKind.i64.wrap 1 = 1 := by decide
      go_upto_region 8 with fail
      have XD : Hid (BoxN wr.drew w2.heap.size #[.int .i64 x0, .int .i64 x1, .int .i64 x2, .int .i64 x3] 44) := HX.out
      have PD : Hid (BoxN wr.drew (w2.heap.size + 1) #[.pointer (some ⟨w2.heap.size, 0, none⟩), .pointer (some ⟨w2.heap.size, 1, none⟩), .pointer (some ⟨w2.heap.size, 2, none⟩), .pointer (some ⟨w2.heap.size, 3, none⟩)] 86) := HP.out
      have BD := hide (show Below w2.heap.size w2 wr.drew from HB.out.drew)
      have e0 : wr.drew.cell? ⟨gw, 0, none⟩ = some (.string a) := (CW.out.below BD.out CW.out.lt).cell 0
      clear HX HP HB pc
      refine wp_region_held_drew (S := fun W => W.cell? ⟨gw, 0, none⟩ = some (.string a)) (by kernel_rfl) (e0) (fun hHeld => ?_)
      generalize wr.drew = wd at *
      refine wpAnyH_take (i := 0) (v := ?_) rfl (by kernel_rfl) (by kernel_rfl) (by kernel_rfl) (fun _ _ _ h => h) (Or.inl ⟨by rfl, ?_⟩) (by assumption) ?_
      rotate_left 1
      · (intro w hSw; (try dsimp only at hSw); go_simp; try with_reducible rfl)
      try simp only [Act.put, List.getElem_toArray, List.getElem_cons_succ, List.getElem_cons_zero, List.setIfInBounds_toArray, List.set_cons_zero, List.set_cons_succ]
      refine wpAnyH_take (i := 1) (v := ?_) rfl (by kernel_rfl) (by kernel_rfl) (by kernel_rfl) (fun _ _ _ h => h) (Or.inl ⟨by rfl, ?_⟩) (by assumption) ?_
      rotate_left 1
      · (intro w hSw; (try dsimp only at hSw); go_simp; try with_reducible rfl)
      try simp only [Act.put, List.getElem_toArray, List.getElem_cons_succ, List.getElem_cons_zero, List.setIfInBounds_toArray, List.set_cons_zero, List.set_cons_succ]
      refine wpAnyH_take (i := 2) (v := ?_) rfl (by kernel_rfl) (by kernel_rfl) (by kernel_rfl) (fun _ _ _ h => h) (Or.inl ⟨by rfl, ?_⟩) (by assumption) ?_
      rotate_left 1
      · (intro w hSw; (try dsimp only at hSw); go_simp; try with_reducible rfl)
      try simp only [Act.put, List.getElem_toArray, List.getElem_cons_succ, List.getElem_cons_zero, List.setIfInBounds_toArray, List.set_cons_zero, List.set_cons_succ]
      refine wpAnyH_take (i := 3) (v := ?_) rfl (by kernel_rfl) (by kernel_rfl) (by kernel_rfl) (fun _ _ _ h => h) (Or.inl ⟨by rfl, ?_⟩) (by assumption) ?_
      rotate_left 1
      · (intro w hSw; (try dsimp only at hSw); go_simp; try with_reducible rfl)
      try simp only [Act.put, List.getElem_toArray, List.getElem_cons_succ, List.getElem_cons_zero, List.setIfInBounds_toArray, List.set_cons_zero, List.set_cons_succ]
      refine wpAnyH_take (i := 4) (v := ?_) rfl (by kernel_rfl) (by kernel_rfl) (by kernel_rfl) (fun _ _ _ h => h) (Or.inl ⟨by rfl, ?_⟩) (by assumption) ?_
      rotate_left 1
      · (intro w hSw; (try dsimp only at hSw); go_simp; try with_reducible rfl)
      try simp only [Act.put, List.getElem_toArray, List.getElem_cons_succ, List.getElem_cons_zero, List.setIfInBounds_toArray, List.set_cons_zero, List.set_cons_succ]
      refine wpAnyH_take (i := 5) (v := ?_) rfl (by kernel_rfl) (by kernel_rfl) (by kernel_rfl) (fun _ _ _ h => h) (Or.inl ⟨by rfl, ?_⟩) (by assumption) ?_
      rotate_left 1
      · (intro w hSw; (try dsimp only at hSw); go_simp; try with_reducible rfl)
      try simp only [Act.put, List.getElem_toArray, List.getElem_cons_succ, List.getElem_cons_zero, List.setIfInBounds_toArray, List.set_cons_zero, List.set_cons_succ]
      refine wpAnyH_take (i := 6) (v := ?_) rfl (by kernel_rfl) (by kernel_rfl) (by kernel_rfl) (fun _ _ _ h => h) (Or.inl ⟨by rfl, ?_⟩) (by assumption) ?_
      rotate_left 1
      · (intro w hSw; (try dsimp only at hSw); go_simp; try with_reducible rfl)
      try simp only [Act.put, List.getElem_toArray, List.getElem_cons_succ, List.getElem_cons_zero, List.setIfInBounds_toArray, List.set_cons_zero, List.set_cons_succ]
      refine wpAnyH_take (i := 7) (v := ?_) rfl (by kernel_rfl) (by kernel_rfl) (by kernel_rfl) (fun _ _ _ h => h) (Or.inl ⟨by rfl, ?_⟩) (by assumption) ?_
      rotate_left 1
      · (intro w hSw; (try dsimp only at hSw); go_simp; try with_reducible rfl)
      try simp only [Act.put, List.getElem_toArray, List.getElem_cons_succ, List.getElem_cons_zero, List.setIfInBounds_toArray, List.set_cons_zero, List.set_cons_succ]
      refine wpAnyH_ready (rs := [8]) (by kernel_rfl) (by simp) ?_
      refine AllReadyH.cons rfl (fun K hK => ?_) AllReadyH.nil
      try simp only [Act.put, List.getElem_toArray, List.getElem_cons_succ, List.getElem_cons_zero, List.setIfInBounds_toArray, List.set_cons_zero, List.set_cons_succ]
      go_simp
      go_at_call 41
      refine (HTa.out _).mono ?_
      rintro e w8 ⟨rfl, rfl⟩
      dsimp only
      refine hK.out _ _ (e0) (fun hHeld => ?_)
      clear hK K
      try simp only [Act.put, List.getElem_toArray, List.getElem_cons_succ, List.getElem_cons_zero, List.setIfInBounds_toArray, List.set_cons_zero, List.set_cons_succ]
      refine wpAnyH_ready (rs := [9]) (by kernel_rfl) (by simp) ?_
      refine AllReadyH.cons rfl (fun K hK => ?_) AllReadyH.nil
      try simp only [Act.put, List.getElem_toArray, List.getElem_cons_succ, List.getElem_cons_zero, List.setIfInBounds_toArray, List.set_cons_zero, List.set_cons_succ]
      go_simp
      go_at_call 40
      refine (HRa.out _ (HTW.out _ (B2.out.trans (BD.out.mono B2.out.size)))).mono ?_
      rintro e w9 ⟨rfl, b9⟩
      have X9 := hide (XD.out.below b9 XD.out.lt)
      have P9 := hide (PD.out.below b9 PD.out.lt)
      have B9 := hide (BD.out.trans (b9.mono BD.out.size))
      have e9 : w9.cell? ⟨gw, 0, none⟩ = some (.string a) := (CW.out.below B9.out CW.out.lt).cell 0
      clear XD PD BD b9 e0
      dsimp only
      refine hK.out _ _ (e9) (fun hHeld => ?_)
      clear hK K
      try simp only [Act.put, List.getElem_toArray, List.getElem_cons_succ, List.getElem_cons_zero, List.setIfInBounds_toArray, List.set_cons_zero, List.set_cons_succ]
      refine wpAnyH_take (i := 10) (v := ?_) rfl (by kernel_rfl) (by kernel_rfl) (by kernel_rfl) (fun _ _ _ h => h) (Or.inl ⟨by rfl, ?_⟩) (by assumption) ?_
      rotate_left 1
      · (intro w hSw; (try dsimp only at hSw); go_simp; try with_reducible rfl)
      try simp only [Act.put, List.getElem_toArray, List.getElem_cons_succ, List.getElem_cons_zero, List.setIfInBounds_toArray, List.set_cons_zero, List.set_cons_succ]
      refine wpAnyH_take (i := 11) (v := ?_) rfl (by kernel_rfl) (by kernel_rfl) (by kernel_rfl) (fun _ _ _ h => h) (Or.inl ⟨by rfl, ?_⟩) (by assumption) ?_
      rotate_left 1
      · (intro w hSw; (try dsimp only at hSw); go_simp; try with_reducible rfl)
      try simp only [Act.put, List.getElem_toArray, List.getElem_cons_succ, List.getElem_cons_zero, List.setIfInBounds_toArray, List.set_cons_zero, List.set_cons_succ]
      refine wpAnyH_take (i := 12) (v := ?_) rfl (by kernel_rfl) (by kernel_rfl) (by kernel_rfl) (fun _ _ _ h => h) (Or.inl ⟨by rfl, ?_⟩) (by assumption) ?_
      rotate_left 1
      · (intro w hSw; (try dsimp only at hSw); go_simp; try with_reducible rfl)
      try simp only [Act.put, List.getElem_toArray, List.getElem_cons_succ, List.getElem_cons_zero, List.setIfInBounds_toArray, List.set_cons_zero, List.set_cons_succ]
      refine wpAnyH_take (i := 13) (v := ?_) rfl (by kernel_rfl) (by kernel_rfl) (by kernel_rfl) (fun _ _ _ h => h) (Or.inl ⟨by rfl, ?_⟩) (by assumption) ?_
      rotate_left 1
      · (intro w hSw; (try dsimp only at hSw); go_simp; try with_reducible rfl)
      try simp only [Act.put, List.getElem_toArray, List.getElem_cons_succ, List.getElem_cons_zero, List.setIfInBounds_toArray, List.set_cons_zero, List.set_cons_succ]
      refine wpAnyH_take (i := 14) (v := ?_) rfl (by kernel_rfl) (by kernel_rfl) (by kernel_rfl) (fun _ _ _ h => h) (Or.inl ⟨by rfl, ?_⟩) (by assumption) ?_
      rotate_left 1
      · (intro w hSw; (try dsimp only at hSw); go_simp; try with_reducible rfl)
      try simp only [Act.put, List.getElem_toArray, List.getElem_cons_succ, List.getElem_cons_zero, List.setIfInBounds_toArray, List.set_cons_zero, List.set_cons_succ]
      refine wpAnyH_done (by kernel_rfl) ?_ _
      clear e9 hHeld
      rcases hcase : Na with _ | n
      · have HRES := hide (show readB s = none from HNO.out (by rw [hcase]; simp))
        clear hcase
        have Y8 := hide (Y2.out.below B9.out Y2.out.lt)
        have B8 := hide (B2.out.trans (B9.out.mono B2.out.size))
        have T1 := hide (Y8.out.set 0 (.int .i64 0))
        have T2 := hide (T1.out.set 1 (.int .i64 0))
        have T3 := hide (T2.out.set 2 (.int .i64 0))
        have T4 := hide (T3.out.set 3 (.int .i64 0))
        have m0 : w9.cell? ⟨w.heap.size, 0, none⟩ = some (.int .i64 0) := Y8.out.cell 0
        have n0 := Y8.out.fro 0
        have m1 : (w9.setCell ⟨w.heap.size, 0, none⟩ (.int .i64 0)).cell? ⟨w.heap.size, 1, none⟩ = some (.int .i64 0) := T1.out.cell 1
        have n1 := T1.out.fro 1
        have m2 : ((w9.setCell ⟨w.heap.size, 0, none⟩ (.int .i64 0)).setCell ⟨w.heap.size, 1, none⟩ (.int .i64 0)).cell? ⟨w.heap.size, 2, none⟩ = some (.int .i64 0) := T2.out.cell 2
        have n2 := T2.out.fro 2
        have m3 : (((w9.setCell ⟨w.heap.size, 0, none⟩ (.int .i64 0)).setCell ⟨w.heap.size, 1, none⟩ (.int .i64 0)).setCell ⟨w.heap.size, 2, none⟩ (.int .i64 0)).cell? ⟨w.heap.size, 3, none⟩ = some (.int .i64 0) := T3.out.cell 3
        have n3 := T3.out.fro 3
        go_wp2_with fail
        have q0 : ((((w9.setCell ⟨w.heap.size, 0, none⟩ (.int .i64 0)).setCell ⟨w.heap.size, 1, none⟩ (.int .i64 0)).setCell ⟨w.heap.size, 2, none⟩ (.int .i64 0)).setCell ⟨w.heap.size, 3, none⟩ (.int .i64 0)).cell? ⟨w.heap.size, 0, none⟩ = some (.int .i64 0) := T4.out.cell 0
        have q1 : ((((w9.setCell ⟨w.heap.size, 0, none⟩ (.int .i64 0)).setCell ⟨w.heap.size, 1, none⟩ (.int .i64 0)).setCell ⟨w.heap.size, 2, none⟩ (.int .i64 0)).setCell ⟨w.heap.size, 3, none⟩ (.int .i64 0)).cell? ⟨w.heap.size, 1, none⟩ = some (.int .i64 0) := T4.out.cell 1
        have q2 : ((((w9.setCell ⟨w.heap.size, 0, none⟩ (.int .i64 0)).setCell ⟨w.heap.size, 1, none⟩ (.int .i64 0)).setCell ⟨w.heap.size, 2, none⟩ (.int .i64 0)).setCell ⟨w.heap.size, 3, none⟩ (.int .i64 0)).cell? ⟨w.heap.size, 2, none⟩ = some (.int .i64 0) := T4.out.cell 2
        have q3 : ((((w9.setCell ⟨w.heap.size, 0, none⟩ (.int .i64 0)).setCell ⟨w.heap.size, 1, none⟩ (.int .i64 0)).setCell ⟨w.heap.size, 2, none⟩ (.int .i64 0)).setCell ⟨w.heap.size, 3, none⟩ (.int .i64 0)).cell? ⟨w.heap.size, 3, none⟩ = some (.int .i64 0) := T4.out.cell 3
        refine bodyPost_ret (v := .tuple #[.agg #[.int .i64 0, .int .i64 0, .int .i64 0, .int .i64 0], .bool false]) (by simp [results, Tryz.results28, go_sem, q0, q1, q2, q3]) rfl ⟨by rw [HRES.out]; rfl, ?_⟩
        exact (((B8.out.setCell (p := ⟨w.heap.size, 0, none⟩) (Nat.le_refl _) _).setCell (p := ⟨w.heap.size, 1, none⟩) (Nat.le_refl _) _).setCell (p := ⟨w.heap.size, 2, none⟩) (Nat.le_refl _) _).setCell (p := ⟨w.heap.size, 3, none⟩) (Nat.le_refl _) _
      · have HC := hide hcase
        clear hcase
        have mx : w9.cell? ⟨w2.heap.size, 0, none⟩ = some (.int .i64 x0) := X9.out.cell 0
        have nx := X9.out.fro 0
        have X10 := hide (show BoxN (w9.setCell ⟨w2.heap.size, 0, none⟩ (.int .i64 n)) w2.heap.size #[.int .i64 n, .int .i64 x1, .int .i64 x2, .int .i64 x3] 44 from X9.out.set 0 (.int .i64 n))
        have P10 := hide (P9.out.other (b' := w2.heap.size) (by omega) 0 (.int .i64 n))
        have B10 := hide (B9.out.setCell (p := ⟨w2.heap.size, 0, none⟩) (Nat.le_refl _) (.int .i64 n))
        go_wp2_with fail
        go_roundg (4 - 1)
        case measure => have := hg.out; omega
        case rel => exact ⟨1, 1, n, x1, x2, x3, by omega, rfl, rfl, by go_num, ⟨fun _ => HC.out, fun h => absurd h (by decide), fun h => absurd h (by decide), fun h => absurd h (by decide)⟩, X10, P10, B10⟩
    · obtain rfl : ki = 1 := hki.out
      have pc : wr.cell? ⟨w2.heap.size + 1, 1, none⟩ = some (.pointer (some ⟨w2.heap.size, 1, none⟩)) := HP.out.cell 1
      have hx1 : (⟨#[109, 103, 112, 98]⟩ : ByteArray).extract 1 2 = ⟨#[103]⟩ := rfl
      have hwr : IntKind.i64.wrap 2 = 2 := by decide
      go_upto_region 8 with fail
      have XD : Hid (BoxN wr.drew w2.heap.size #[.int .i64 x0, .int .i64 x1, .int .i64 x2, .int .i64 x3] 44) := HX.out
      have PD : Hid (BoxN wr.drew (w2.heap.size + 1) #[.pointer (some ⟨w2.heap.size, 0, none⟩), .pointer (some ⟨w2.heap.size, 1, none⟩), .pointer (some ⟨w2.heap.size, 2, none⟩), .pointer (some ⟨w2.heap.size, 3, none⟩)] 86) := HP.out
      have BD := hide (show Below w2.heap.size w2 wr.drew from HB.out.drew)
      have e0 : wr.drew.cell? ⟨gw, 1, none⟩ = some (.string b) := (CW.out.below BD.out CW.out.lt).cell 1
      clear HX HP HB pc
      refine wp_region_held_drew (S := fun W => W.cell? ⟨gw, 1, none⟩ = some (.string b)) (by kernel_rfl) (e0) (fun hHeld => ?_)
      generalize wr.drew = wd at *
      refine wpAnyH_take (i := 0) (v := ?_) rfl (by kernel_rfl) (by kernel_rfl) (by kernel_rfl) (fun _ _ _ h => h) (Or.inl ⟨by rfl, ?_⟩) (by assumption) ?_
      rotate_left 1
      · (intro w hSw; (try dsimp only at hSw); go_simp; try with_reducible rfl)
      try simp only [Act.put, List.getElem_toArray, List.getElem_cons_succ, List.getElem_cons_zero, List.setIfInBounds_toArray, List.set_cons_zero, List.set_cons_succ]
      refine wpAnyH_take (i := 1) (v := ?_) rfl (by kernel_rfl) (by kernel_rfl) (by kernel_rfl) (fun _ _ _ h => h) (Or.inl ⟨by rfl, ?_⟩) (by assumption) ?_
      rotate_left 1
      · (intro w hSw; (try dsimp only at hSw); go_simp; try with_reducible rfl)
      try simp only [Act.put, List.getElem_toArray, List.getElem_cons_succ, List.getElem_cons_zero, List.setIfInBounds_toArray, List.set_cons_zero, List.set_cons_succ]
      refine wpAnyH_take (i := 2) (v := ?_) rfl (by kernel_rfl) (by kernel_rfl) (by kernel_rfl) (fun _ _ _ h => h) (Or.inl ⟨by rfl, ?_⟩) (by assumption) ?_
      rotate_left 1
      · (intro w hSw; (try dsimp only at hSw); go_simp; try with_reducible rfl)
      try simp only [Act.put, List.getElem_toArray, List.getElem_cons_succ, List.getElem_cons_zero, List.setIfInBounds_toArray, List.set_cons_zero, List.set_cons_succ]
      refine wpAnyH_take (i := 3) (v := ?_) rfl (by kernel_rfl) (by kernel_rfl) (by kernel_rfl) (fun _ _ _ h => h) (Or.inl ⟨by rfl, ?_⟩) (by assumption) ?_
      rotate_left 1
      · (intro w hSw; (try dsimp only at hSw); go_simp; try with_reducible rfl)
      try simp only [Act.put, List.getElem_toArray, List.getElem_cons_succ, List.getElem_cons_zero, List.setIfInBounds_toArray, List.set_cons_zero, List.set_cons_succ]
      refine wpAnyH_take (i := 4) (v := ?_) rfl (by kernel_rfl) (by kernel_rfl) (by kernel_rfl) (fun _ _ _ h => h) (Or.inl ⟨by rfl, ?_⟩) (by assumption) ?_
      rotate_left 1
      · (intro w hSw; (try dsimp only at hSw); go_simp; try with_reducible rfl)
      try simp only [Act.put, List.getElem_toArray, List.getElem_cons_succ, List.getElem_cons_zero, List.setIfInBounds_toArray, List.set_cons_zero, List.set_cons_succ]
      refine wpAnyH_take (i := 5) (v := ?_) rfl (by kernel_rfl) (by kernel_rfl) (by kernel_rfl) (fun _ _ _ h => h) (Or.inl ⟨by rfl, ?_⟩) (by assumption) ?_
      rotate_left 1
      · (intro w hSw; (try dsimp only at hSw); go_simp; try with_reducible rfl)
      try simp only [Act.put, List.getElem_toArray, List.getElem_cons_succ, List.getElem_cons_zero, List.setIfInBounds_toArray, List.set_cons_zero, List.set_cons_succ]
      refine wpAnyH_take (i := 6) (v := ?_) rfl (by kernel_rfl) (by kernel_rfl) (by kernel_rfl) (fun _ _ _ h => h) (Or.inl ⟨by rfl, ?_⟩) (by assumption) ?_
      rotate_left 1
      · (intro w hSw; (try dsimp only at hSw); go_simp; try with_reducible rfl)
      try simp only [Act.put, List.getElem_toArray, List.getElem_cons_succ, List.getElem_cons_zero, List.setIfInBounds_toArray, List.set_cons_zero, List.set_cons_succ]
      refine wpAnyH_take (i := 7) (v := ?_) rfl (by kernel_rfl) (by kernel_rfl) (by kernel_rfl) (fun _ _ _ h => h) (Or.inl ⟨by rfl, ?_⟩) (by assumption) ?_
      rotate_left 1
      · (intro w hSw; (try dsimp only at hSw); go_simp; try with_reducible rfl)
      try simp only [Act.put, List.getElem_toArray, List.getElem_cons_succ, List.getElem_cons_zero, List.setIfInBounds_toArray, List.set_cons_zero, List.set_cons_succ]
      refine wpAnyH_ready (rs := [8]) (by kernel_rfl) (by simp) ?_
      refine AllReadyH.cons rfl (fun K hK => ?_) AllReadyH.nil
      try simp only [Act.put, List.getElem_toArray, List.getElem_cons_succ, List.getElem_cons_zero, List.setIfInBounds_toArray, List.set_cons_zero, List.set_cons_succ]
      go_simp
      go_at_call 41
      refine (HTb.out _).mono ?_
      rintro e w8 ⟨rfl, rfl⟩
      dsimp only
      refine hK.out _ _ (e0) (fun hHeld => ?_)
      clear hK K
      try simp only [Act.put, List.getElem_toArray, List.getElem_cons_succ, List.getElem_cons_zero, List.setIfInBounds_toArray, List.set_cons_zero, List.set_cons_succ]
      refine wpAnyH_ready (rs := [9]) (by kernel_rfl) (by simp) ?_
      refine AllReadyH.cons rfl (fun K hK => ?_) AllReadyH.nil
      try simp only [Act.put, List.getElem_toArray, List.getElem_cons_succ, List.getElem_cons_zero, List.setIfInBounds_toArray, List.set_cons_zero, List.set_cons_succ]
      go_simp
      go_at_call 40
      refine (HRb.out _ (HTW.out _ (B2.out.trans (BD.out.mono B2.out.size)))).mono ?_
      rintro e w9 ⟨rfl, b9⟩
      have X9 := hide (XD.out.below b9 XD.out.lt)
      have P9 := hide (PD.out.below b9 PD.out.lt)
      have B9 := hide (BD.out.trans (b9.mono BD.out.size))
      have e9 : w9.cell? ⟨gw, 1, none⟩ = some (.string b) := (CW.out.below B9.out CW.out.lt).cell 1
      clear XD PD BD b9 e0
      dsimp only
      refine hK.out _ _ (e9) (fun hHeld => ?_)
      clear hK K
      try simp only [Act.put, List.getElem_toArray, List.getElem_cons_succ, List.getElem_cons_zero, List.setIfInBounds_toArray, List.set_cons_zero, List.set_cons_succ]
      refine wpAnyH_take (i := 10) (v := ?_) rfl (by kernel_rfl) (by kernel_rfl) (by kernel_rfl) (fun _ _ _ h => h) (Or.inl ⟨by rfl, ?_⟩) (by assumption) ?_
      rotate_left 1
      · (intro w hSw; (try dsimp only at hSw); go_simp; try with_reducible rfl)
      try simp only [Act.put, List.getElem_toArray, List.getElem_cons_succ, List.getElem_cons_zero, List.setIfInBounds_toArray, List.set_cons_zero, List.set_cons_succ]
      refine wpAnyH_take (i := 11) (v := ?_) rfl (by kernel_rfl) (by kernel_rfl) (by kernel_rfl) (fun _ _ _ h => h) (Or.inl ⟨by rfl, ?_⟩) (by assumption) ?_
      rotate_left 1
      · (intro w hSw; (try dsimp only at hSw); go_simp; try with_reducible rfl)
      try simp only [Act.put, List.getElem_toArray, List.getElem_cons_succ, List.getElem_cons_zero, List.setIfInBounds_toArray, List.set_cons_zero, List.set_cons_succ]
      refine wpAnyH_take (i := 12) (v := ?_) rfl (by kernel_rfl) (by kernel_rfl) (by kernel_rfl) (fun _ _ _ h => h) (Or.inl ⟨by rfl, ?_⟩) (by assumption) ?_
      rotate_left 1
      · (intro w hSw; (try dsimp only at hSw); go_simp; try with_reducible rfl)
      try simp only [Act.put, List.getElem_toArray, List.getElem_cons_succ, List.getElem_cons_zero, List.setIfInBounds_toArray, List.set_cons_zero, List.set_cons_succ]
      refine wpAnyH_take (i := 13) (v := ?_) rfl (by kernel_rfl) (by kernel_rfl) (by kernel_rfl) (fun _ _ _ h => h) (Or.inl ⟨by rfl, ?_⟩) (by assumption) ?_
      rotate_left 1
      · (intro w hSw; (try dsimp only at hSw); go_simp; try with_reducible rfl)
      try simp only [Act.put, List.getElem_toArray, List.getElem_cons_succ, List.getElem_cons_zero, List.setIfInBounds_toArray, List.set_cons_zero, List.set_cons_succ]
      refine wpAnyH_take (i := 14) (v := ?_) rfl (by kernel_rfl) (by kernel_rfl) (by kernel_rfl) (fun _ _ _ h => h) (Or.inl ⟨by rfl, ?_⟩) (by assumption) ?_
      rotate_left 1
      · (intro w hSw; (try dsimp only at hSw); go_simp; try with_reducible rfl)
      try simp only [Act.put, List.getElem_toArray, List.getElem_cons_succ, List.getElem_cons_zero, List.setIfInBounds_toArray, List.set_cons_zero, List.set_cons_succ]
      refine wpAnyH_done (by kernel_rfl) ?_ _
      clear e9 hHeld
      rcases hcase : Nb with _ | n
      · have HRES := hide (show readB s = none from HNO.out (by rw [hcase]; simp))
        clear hcase
        have Y8 := hide (Y2.out.below B9.out Y2.out.lt)
        have B8 := hide (B2.out.trans (B9.out.mono B2.out.size))
        have T1 := hide (Y8.out.set 0 (.int .i64 0))
        have T2 := hide (T1.out.set 1 (.int .i64 0))
        have T3 := hide (T2.out.set 2 (.int .i64 0))
        have T4 := hide (T3.out.set 3 (.int .i64 0))
        have m0 : w9.cell? ⟨w.heap.size, 0, none⟩ = some (.int .i64 0) := Y8.out.cell 0
        have n0 := Y8.out.fro 0
        have m1 : (w9.setCell ⟨w.heap.size, 0, none⟩ (.int .i64 0)).cell? ⟨w.heap.size, 1, none⟩ = some (.int .i64 0) := T1.out.cell 1
        have n1 := T1.out.fro 1
        have m2 : ((w9.setCell ⟨w.heap.size, 0, none⟩ (.int .i64 0)).setCell ⟨w.heap.size, 1, none⟩ (.int .i64 0)).cell? ⟨w.heap.size, 2, none⟩ = some (.int .i64 0) := T2.out.cell 2
        have n2 := T2.out.fro 2
        have m3 : (((w9.setCell ⟨w.heap.size, 0, none⟩ (.int .i64 0)).setCell ⟨w.heap.size, 1, none⟩ (.int .i64 0)).setCell ⟨w.heap.size, 2, none⟩ (.int .i64 0)).cell? ⟨w.heap.size, 3, none⟩ = some (.int .i64 0) := T3.out.cell 3
        have n3 := T3.out.fro 3
        go_wp2_with fail
        have q0 : ((((w9.setCell ⟨w.heap.size, 0, none⟩ (.int .i64 0)).setCell ⟨w.heap.size, 1, none⟩ (.int .i64 0)).setCell ⟨w.heap.size, 2, none⟩ (.int .i64 0)).setCell ⟨w.heap.size, 3, none⟩ (.int .i64 0)).cell? ⟨w.heap.size, 0, none⟩ = some (.int .i64 0) := T4.out.cell 0
        have q1 : ((((w9.setCell ⟨w.heap.size, 0, none⟩ (.int .i64 0)).setCell ⟨w.heap.size, 1, none⟩ (.int .i64 0)).setCell ⟨w.heap.size, 2, none⟩ (.int .i64 0)).setCell ⟨w.heap.size, 3, none⟩ (.int .i64 0)).cell? ⟨w.heap.size, 1, none⟩ = some (.int .i64 0) := T4.out.cell 1
        have q2 : ((((w9.setCell ⟨w.heap.size, 0, none⟩ (.int .i64 0)).setCell ⟨w.heap.size, 1, none⟩ (.int .i64 0)).setCell ⟨w.heap.size, 2, none⟩ (.int .i64 0)).setCell ⟨w.heap.size, 3, none⟩ (.int .i64 0)).cell? ⟨w.heap.size, 2, none⟩ = some (.int .i64 0) := T4.out.cell 2
        have q3 : ((((w9.setCell ⟨w.heap.size, 0, none⟩ (.int .i64 0)).setCell ⟨w.heap.size, 1, none⟩ (.int .i64 0)).setCell ⟨w.heap.size, 2, none⟩ (.int .i64 0)).setCell ⟨w.heap.size, 3, none⟩ (.int .i64 0)).cell? ⟨w.heap.size, 3, none⟩ = some (.int .i64 0) := T4.out.cell 3
        refine bodyPost_ret (v := .tuple #[.agg #[.int .i64 0, .int .i64 0, .int .i64 0, .int .i64 0], .bool false]) (by simp [results, Tryz.results28, go_sem, q0, q1, q2, q3]) rfl ⟨by rw [HRES.out]; rfl, ?_⟩
        exact (((B8.out.setCell (p := ⟨w.heap.size, 0, none⟩) (Nat.le_refl _) _).setCell (p := ⟨w.heap.size, 1, none⟩) (Nat.le_refl _) _).setCell (p := ⟨w.heap.size, 2, none⟩) (Nat.le_refl _) _).setCell (p := ⟨w.heap.size, 3, none⟩) (Nat.le_refl _) _
      · have HC := hide hcase
        clear hcase
        have mx : w9.cell? ⟨w2.heap.size, 1, none⟩ = some (.int .i64 x1) := X9.out.cell 1
        have nx := X9.out.fro 1
        have X10 := hide (show BoxN (w9.setCell ⟨w2.heap.size, 1, none⟩ (.int .i64 n)) w2.heap.size #[.int .i64 x0, .int .i64 n, .int .i64 x2, .int .i64 x3] 44 from X9.out.set 1 (.int .i64 n))
        have P10 := hide (P9.out.other (b' := w2.heap.size) (by omega) 1 (.int .i64 n))
        have B10 := hide (B9.out.setCell (p := ⟨w2.heap.size, 1, none⟩) (Nat.le_refl _) (.int .i64 n))
        go_wp2_with fail
        go_roundg (4 - 2)
        case measure => have := hg.out; omega
        case rel => exact ⟨2, 2, x0, n, x2, x3, by omega, rfl, rfl, by go_num, ⟨fun _ => HN.out.1 (by decide), fun _ => HC.out, fun h => absurd h (by decide), fun h => absurd h (by decide)⟩, X10, P10, B10⟩
    · obtain rfl : ki = 2 := hki.out
      have pc : wr.cell? ⟨w2.heap.size + 1, 2, none⟩ = some (.pointer (some ⟨w2.heap.size, 2, none⟩)) := HP.out.cell 2
      have hx1 : (⟨#[109, 103, 112, 98]⟩ : ByteArray).extract 2 3 = ⟨#[112]⟩ := rfl
      have hwr : IntKind.i64.wrap 3 = 3 := by decide
      go_upto_region 8 with fail
      have XD : Hid (BoxN wr.drew w2.heap.size #[.int .i64 x0, .int .i64 x1, .int .i64 x2, .int .i64 x3] 44) := HX.out
      have PD : Hid (BoxN wr.drew (w2.heap.size + 1) #[.pointer (some ⟨w2.heap.size, 0, none⟩), .pointer (some ⟨w2.heap.size, 1, none⟩), .pointer (some ⟨w2.heap.size, 2, none⟩), .pointer (some ⟨w2.heap.size, 3, none⟩)] 86) := HP.out
      have BD := hide (show Below w2.heap.size w2 wr.drew from HB.out.drew)
      have e0 : wr.drew.cell? ⟨gw, 2, none⟩ = some (.string c) := (CW.out.below BD.out CW.out.lt).cell 2
      clear HX HP HB pc
      refine wp_region_held_drew (S := fun W => W.cell? ⟨gw, 2, none⟩ = some (.string c)) (by kernel_rfl) (e0) (fun hHeld => ?_)
      generalize wr.drew = wd at *
      refine wpAnyH_take (i := 0) (v := ?_) rfl (by kernel_rfl) (by kernel_rfl) (by kernel_rfl) (fun _ _ _ h => h) (Or.inl ⟨by rfl, ?_⟩) (by assumption) ?_
      rotate_left 1
      · (intro w hSw; (try dsimp only at hSw); go_simp; try with_reducible rfl)
      try simp only [Act.put, List.getElem_toArray, List.getElem_cons_succ, List.getElem_cons_zero, List.setIfInBounds_toArray, List.set_cons_zero, List.set_cons_succ]
      refine wpAnyH_take (i := 1) (v := ?_) rfl (by kernel_rfl) (by kernel_rfl) (by kernel_rfl) (fun _ _ _ h => h) (Or.inl ⟨by rfl, ?_⟩) (by assumption) ?_
      rotate_left 1
      · (intro w hSw; (try dsimp only at hSw); go_simp; try with_reducible rfl)
      try simp only [Act.put, List.getElem_toArray, List.getElem_cons_succ, List.getElem_cons_zero, List.setIfInBounds_toArray, List.set_cons_zero, List.set_cons_succ]
      refine wpAnyH_take (i := 2) (v := ?_) rfl (by kernel_rfl) (by kernel_rfl) (by kernel_rfl) (fun _ _ _ h => h) (Or.inl ⟨by rfl, ?_⟩) (by assumption) ?_
      rotate_left 1
      · (intro w hSw; (try dsimp only at hSw); go_simp; try with_reducible rfl)
      try simp only [Act.put, List.getElem_toArray, List.getElem_cons_succ, List.getElem_cons_zero, List.setIfInBounds_toArray, List.set_cons_zero, List.set_cons_succ]
      refine wpAnyH_take (i := 3) (v := ?_) rfl (by kernel_rfl) (by kernel_rfl) (by kernel_rfl) (fun _ _ _ h => h) (Or.inl ⟨by rfl, ?_⟩) (by assumption) ?_
      rotate_left 1
      · (intro w hSw; (try dsimp only at hSw); go_simp; try with_reducible rfl)
      try simp only [Act.put, List.getElem_toArray, List.getElem_cons_succ, List.getElem_cons_zero, List.setIfInBounds_toArray, List.set_cons_zero, List.set_cons_succ]
      refine wpAnyH_take (i := 4) (v := ?_) rfl (by kernel_rfl) (by kernel_rfl) (by kernel_rfl) (fun _ _ _ h => h) (Or.inl ⟨by rfl, ?_⟩) (by assumption) ?_
      rotate_left 1
      · (intro w hSw; (try dsimp only at hSw); go_simp; try with_reducible rfl)
      try simp only [Act.put, List.getElem_toArray, List.getElem_cons_succ, List.getElem_cons_zero, List.setIfInBounds_toArray, List.set_cons_zero, List.set_cons_succ]
      refine wpAnyH_take (i := 5) (v := ?_) rfl (by kernel_rfl) (by kernel_rfl) (by kernel_rfl) (fun _ _ _ h => h) (Or.inl ⟨by rfl, ?_⟩) (by assumption) ?_
      rotate_left 1
      · (intro w hSw; (try dsimp only at hSw); go_simp; try with_reducible rfl)
      try simp only [Act.put, List.getElem_toArray, List.getElem_cons_succ, List.getElem_cons_zero, List.setIfInBounds_toArray, List.set_cons_zero, List.set_cons_succ]
      refine wpAnyH_take (i := 6) (v := ?_) rfl (by kernel_rfl) (by kernel_rfl) (by kernel_rfl) (fun _ _ _ h => h) (Or.inl ⟨by rfl, ?_⟩) (by assumption) ?_
      rotate_left 1
      · (intro w hSw; (try dsimp only at hSw); go_simp; try with_reducible rfl)
      try simp only [Act.put, List.getElem_toArray, List.getElem_cons_succ, List.getElem_cons_zero, List.setIfInBounds_toArray, List.set_cons_zero, List.set_cons_succ]
      refine wpAnyH_take (i := 7) (v := ?_) rfl (by kernel_rfl) (by kernel_rfl) (by kernel_rfl) (fun _ _ _ h => h) (Or.inl ⟨by rfl, ?_⟩) (by assumption) ?_
      rotate_left 1
      · (intro w hSw; (try dsimp only at hSw); go_simp; try with_reducible rfl)
      try simp only [Act.put, List.getElem_toArray, List.getElem_cons_succ, List.getElem_cons_zero, List.setIfInBounds_toArray, List.set_cons_zero, List.set_cons_succ]
      refine wpAnyH_ready (rs := [8]) (by kernel_rfl) (by simp) ?_
      refine AllReadyH.cons rfl (fun K hK => ?_) AllReadyH.nil
      try simp only [Act.put, List.getElem_toArray, List.getElem_cons_succ, List.getElem_cons_zero, List.setIfInBounds_toArray, List.set_cons_zero, List.set_cons_succ]
      go_simp
      go_at_call 41
      refine (HTc.out _).mono ?_
      rintro e w8 ⟨rfl, rfl⟩
      dsimp only
      refine hK.out _ _ (e0) (fun hHeld => ?_)
      clear hK K
      try simp only [Act.put, List.getElem_toArray, List.getElem_cons_succ, List.getElem_cons_zero, List.setIfInBounds_toArray, List.set_cons_zero, List.set_cons_succ]
      refine wpAnyH_ready (rs := [9]) (by kernel_rfl) (by simp) ?_
      refine AllReadyH.cons rfl (fun K hK => ?_) AllReadyH.nil
      try simp only [Act.put, List.getElem_toArray, List.getElem_cons_succ, List.getElem_cons_zero, List.setIfInBounds_toArray, List.set_cons_zero, List.set_cons_succ]
      go_simp
      go_at_call 40
      refine (HRc.out _ (HTW.out _ (B2.out.trans (BD.out.mono B2.out.size)))).mono ?_
      rintro e w9 ⟨rfl, b9⟩
      have X9 := hide (XD.out.below b9 XD.out.lt)
      have P9 := hide (PD.out.below b9 PD.out.lt)
      have B9 := hide (BD.out.trans (b9.mono BD.out.size))
      have e9 : w9.cell? ⟨gw, 2, none⟩ = some (.string c) := (CW.out.below B9.out CW.out.lt).cell 2
      clear XD PD BD b9 e0
      dsimp only
      refine hK.out _ _ (e9) (fun hHeld => ?_)
      clear hK K
      try simp only [Act.put, List.getElem_toArray, List.getElem_cons_succ, List.getElem_cons_zero, List.setIfInBounds_toArray, List.set_cons_zero, List.set_cons_succ]
      refine wpAnyH_take (i := 10) (v := ?_) rfl (by kernel_rfl) (by kernel_rfl) (by kernel_rfl) (fun _ _ _ h => h) (Or.inl ⟨by rfl, ?_⟩) (by assumption) ?_
      rotate_left 1
      · (intro w hSw; (try dsimp only at hSw); go_simp; try with_reducible rfl)
      try simp only [Act.put, List.getElem_toArray, List.getElem_cons_succ, List.getElem_cons_zero, List.setIfInBounds_toArray, List.set_cons_zero, List.set_cons_succ]
      refine wpAnyH_take (i := 11) (v := ?_) rfl (by kernel_rfl) (by kernel_rfl) (by kernel_rfl) (fun _ _ _ h => h) (Or.inl ⟨by rfl, ?_⟩) (by assumption) ?_
      rotate_left 1
      · (intro w hSw; (try dsimp only at hSw); go_simp; try with_reducible rfl)
      try simp only [Act.put, List.getElem_toArray, List.getElem_cons_succ, List.getElem_cons_zero, List.setIfInBounds_toArray, List.set_cons_zero, List.set_cons_succ]
      refine wpAnyH_take (i := 12) (v := ?_) rfl (by kernel_rfl) (by kernel_rfl) (by kernel_rfl) (fun _ _ _ h => h) (Or.inl ⟨by rfl, ?_⟩) (by assumption) ?_
      rotate_left 1
      · (intro w hSw; (try dsimp only at hSw); go_simp; try with_reducible rfl)
      try simp only [Act.put, List.getElem_toArray, List.getElem_cons_succ, List.getElem_cons_zero, List.setIfInBounds_toArray, List.set_cons_zero, List.set_cons_succ]
      refine wpAnyH_take (i := 13) (v := ?_) rfl (by kernel_rfl) (by kernel_rfl) (by kernel_rfl) (fun _ _ _ h => h) (Or.inl ⟨by rfl, ?_⟩) (by assumption) ?_
      rotate_left 1
      · (intro w hSw; (try dsimp only at hSw); go_simp; try with_reducible rfl)
      try simp only [Act.put, List.getElem_toArray, List.getElem_cons_succ, List.getElem_cons_zero, List.setIfInBounds_toArray, List.set_cons_zero, List.set_cons_succ]
      refine wpAnyH_take (i := 14) (v := ?_) rfl (by kernel_rfl) (by kernel_rfl) (by kernel_rfl) (fun _ _ _ h => h) (Or.inl ⟨by rfl, ?_⟩) (by assumption) ?_
      rotate_left 1
      · (intro w hSw; (try dsimp only at hSw); go_simp; try with_reducible rfl)
      try simp only [Act.put, List.getElem_toArray, List.getElem_cons_succ, List.getElem_cons_zero, List.setIfInBounds_toArray, List.set_cons_zero, List.set_cons_succ]
      refine wpAnyH_done (by kernel_rfl) ?_ _
      clear e9 hHeld
      rcases hcase : Nc with _ | n
      · have HRES := hide (show readB s = none from HNO.out (by rw [hcase]; simp))
        clear hcase
        have Y8 := hide (Y2.out.below B9.out Y2.out.lt)
        have B8 := hide (B2.out.trans (B9.out.mono B2.out.size))
        have T1 := hide (Y8.out.set 0 (.int .i64 0))
        have T2 := hide (T1.out.set 1 (.int .i64 0))
        have T3 := hide (T2.out.set 2 (.int .i64 0))
        have T4 := hide (T3.out.set 3 (.int .i64 0))
        have m0 : w9.cell? ⟨w.heap.size, 0, none⟩ = some (.int .i64 0) := Y8.out.cell 0
        have n0 := Y8.out.fro 0
        have m1 : (w9.setCell ⟨w.heap.size, 0, none⟩ (.int .i64 0)).cell? ⟨w.heap.size, 1, none⟩ = some (.int .i64 0) := T1.out.cell 1
        have n1 := T1.out.fro 1
        have m2 : ((w9.setCell ⟨w.heap.size, 0, none⟩ (.int .i64 0)).setCell ⟨w.heap.size, 1, none⟩ (.int .i64 0)).cell? ⟨w.heap.size, 2, none⟩ = some (.int .i64 0) := T2.out.cell 2
        have n2 := T2.out.fro 2
        have m3 : (((w9.setCell ⟨w.heap.size, 0, none⟩ (.int .i64 0)).setCell ⟨w.heap.size, 1, none⟩ (.int .i64 0)).setCell ⟨w.heap.size, 2, none⟩ (.int .i64 0)).cell? ⟨w.heap.size, 3, none⟩ = some (.int .i64 0) := T3.out.cell 3
        have n3 := T3.out.fro 3
        go_wp2_with fail
        have q0 : ((((w9.setCell ⟨w.heap.size, 0, none⟩ (.int .i64 0)).setCell ⟨w.heap.size, 1, none⟩ (.int .i64 0)).setCell ⟨w.heap.size, 2, none⟩ (.int .i64 0)).setCell ⟨w.heap.size, 3, none⟩ (.int .i64 0)).cell? ⟨w.heap.size, 0, none⟩ = some (.int .i64 0) := T4.out.cell 0
        have q1 : ((((w9.setCell ⟨w.heap.size, 0, none⟩ (.int .i64 0)).setCell ⟨w.heap.size, 1, none⟩ (.int .i64 0)).setCell ⟨w.heap.size, 2, none⟩ (.int .i64 0)).setCell ⟨w.heap.size, 3, none⟩ (.int .i64 0)).cell? ⟨w.heap.size, 1, none⟩ = some (.int .i64 0) := T4.out.cell 1
        have q2 : ((((w9.setCell ⟨w.heap.size, 0, none⟩ (.int .i64 0)).setCell ⟨w.heap.size, 1, none⟩ (.int .i64 0)).setCell ⟨w.heap.size, 2, none⟩ (.int .i64 0)).setCell ⟨w.heap.size, 3, none⟩ (.int .i64 0)).cell? ⟨w.heap.size, 2, none⟩ = some (.int .i64 0) := T4.out.cell 2
        have q3 : ((((w9.setCell ⟨w.heap.size, 0, none⟩ (.int .i64 0)).setCell ⟨w.heap.size, 1, none⟩ (.int .i64 0)).setCell ⟨w.heap.size, 2, none⟩ (.int .i64 0)).setCell ⟨w.heap.size, 3, none⟩ (.int .i64 0)).cell? ⟨w.heap.size, 3, none⟩ = some (.int .i64 0) := T4.out.cell 3
        refine bodyPost_ret (v := .tuple #[.agg #[.int .i64 0, .int .i64 0, .int .i64 0, .int .i64 0], .bool false]) (by simp [results, Tryz.results28, go_sem, q0, q1, q2, q3]) rfl ⟨by rw [HRES.out]; rfl, ?_⟩
        exact (((B8.out.setCell (p := ⟨w.heap.size, 0, none⟩) (Nat.le_refl _) _).setCell (p := ⟨w.heap.size, 1, none⟩) (Nat.le_refl _) _).setCell (p := ⟨w.heap.size, 2, none⟩) (Nat.le_refl _) _).setCell (p := ⟨w.heap.size, 3, none⟩) (Nat.le_refl _) _
      · have HC := hide hcase
        clear hcase
        have mx : w9.cell? ⟨w2.heap.size, 2, none⟩ = some (.int .i64 x2) := X9.out.cell 2
        have nx := X9.out.fro 2
        have X10 := hide (show BoxN (w9.setCell ⟨w2.heap.size, 2, none⟩ (.int .i64 n)) w2.heap.size #[.int .i64 x0, .int .i64 x1, .int .i64 n, .int .i64 x3] 44 from X9.out.set 2 (.int .i64 n))
        have P10 := hide (P9.out.other (b' := w2.heap.size) (by omega) 2 (.int .i64 n))
        have B10 := hide (B9.out.setCell (p := ⟨w2.heap.size, 2, none⟩) (Nat.le_refl _) (.int .i64 n))
        go_wp2_with fail
        go_roundg (4 - 3)
        case measure => have := hg.out; omega
        case rel => exact ⟨3, 3, x0, x1, n, x3, by omega, rfl, rfl, by go_num, ⟨fun _ => HN.out.1 (by decide), fun _ => HN.out.2.1 (by decide), fun _ => HC.out, fun h => absurd h (by decide)⟩, X10, P10, B10⟩
    · obtain rfl : ki = 3 := hki.out
      have pc : wr.cell? ⟨w2.heap.size + 1, 3, none⟩ = some (.pointer (some ⟨w2.heap.size, 3, none⟩)) := HP.out.cell 3
      have hx1 : (⟨#[109, 103, 112, 98]⟩ : ByteArray).extract 3 4 = ⟨#[98]⟩ := rfl
      have hwr : IntKind.i64.wrap 4 = 4 := by decide
      go_upto_region 8 with fail
      have XD : Hid (BoxN wr.drew w2.heap.size #[.int .i64 x0, .int .i64 x1, .int .i64 x2, .int .i64 x3] 44) := HX.out
      have PD : Hid (BoxN wr.drew (w2.heap.size + 1) #[.pointer (some ⟨w2.heap.size, 0, none⟩), .pointer (some ⟨w2.heap.size, 1, none⟩), .pointer (some ⟨w2.heap.size, 2, none⟩), .pointer (some ⟨w2.heap.size, 3, none⟩)] 86) := HP.out
      have BD := hide (show Below w2.heap.size w2 wr.drew from HB.out.drew)
      have e0 : wr.drew.cell? ⟨gw, 3, none⟩ = some (.string d) := (CW.out.below BD.out CW.out.lt).cell 3
      clear HX HP HB pc
      refine wp_region_held_drew (S := fun W => W.cell? ⟨gw, 3, none⟩ = some (.string d)) (by kernel_rfl) (e0) (fun hHeld => ?_)
      generalize wr.drew = wd at *
      refine wpAnyH_take (i := 0) (v := ?_) rfl (by kernel_rfl) (by kernel_rfl) (by kernel_rfl) (fun _ _ _ h => h) (Or.inl ⟨by rfl, ?_⟩) (by assumption) ?_
      rotate_left 1
      · (intro w hSw; (try dsimp only at hSw); go_simp; try with_reducible rfl)
      try simp only [Act.put, List.getElem_toArray, List.getElem_cons_succ, List.getElem_cons_zero, List.setIfInBounds_toArray, List.set_cons_zero, List.set_cons_succ]
      refine wpAnyH_take (i := 1) (v := ?_) rfl (by kernel_rfl) (by kernel_rfl) (by kernel_rfl) (fun _ _ _ h => h) (Or.inl ⟨by rfl, ?_⟩) (by assumption) ?_
      rotate_left 1
      · (intro w hSw; (try dsimp only at hSw); go_simp; try with_reducible rfl)
      try simp only [Act.put, List.getElem_toArray, List.getElem_cons_succ, List.getElem_cons_zero, List.setIfInBounds_toArray, List.set_cons_zero, List.set_cons_succ]
      refine wpAnyH_take (i := 2) (v := ?_) rfl (by kernel_rfl) (by kernel_rfl) (by kernel_rfl) (fun _ _ _ h => h) (Or.inl ⟨by rfl, ?_⟩) (by assumption) ?_
      rotate_left 1
      · (intro w hSw; (try dsimp only at hSw); go_simp; try with_reducible rfl)
      try simp only [Act.put, List.getElem_toArray, List.getElem_cons_succ, List.getElem_cons_zero, List.setIfInBounds_toArray, List.set_cons_zero, List.set_cons_succ]
      refine wpAnyH_take (i := 3) (v := ?_) rfl (by kernel_rfl) (by kernel_rfl) (by kernel_rfl) (fun _ _ _ h => h) (Or.inl ⟨by rfl, ?_⟩) (by assumption) ?_
      rotate_left 1
      · (intro w hSw; (try dsimp only at hSw); go_simp; try with_reducible rfl)
      try simp only [Act.put, List.getElem_toArray, List.getElem_cons_succ, List.getElem_cons_zero, List.setIfInBounds_toArray, List.set_cons_zero, List.set_cons_succ]
      refine wpAnyH_take (i := 4) (v := ?_) rfl (by kernel_rfl) (by kernel_rfl) (by kernel_rfl) (fun _ _ _ h => h) (Or.inl ⟨by rfl, ?_⟩) (by assumption) ?_
      rotate_left 1
      · (intro w hSw; (try dsimp only at hSw); go_simp; try with_reducible rfl)
      try simp only [Act.put, List.getElem_toArray, List.getElem_cons_succ, List.getElem_cons_zero, List.setIfInBounds_toArray, List.set_cons_zero, List.set_cons_succ]
      refine wpAnyH_take (i := 5) (v := ?_) rfl (by kernel_rfl) (by kernel_rfl) (by kernel_rfl) (fun _ _ _ h => h) (Or.inl ⟨by rfl, ?_⟩) (by assumption) ?_
      rotate_left 1
      · (intro w hSw; (try dsimp only at hSw); go_simp; try with_reducible rfl)
      try simp only [Act.put, List.getElem_toArray, List.getElem_cons_succ, List.getElem_cons_zero, List.setIfInBounds_toArray, List.set_cons_zero, List.set_cons_succ]
      refine wpAnyH_take (i := 6) (v := ?_) rfl (by kernel_rfl) (by kernel_rfl) (by kernel_rfl) (fun _ _ _ h => h) (Or.inl ⟨by rfl, ?_⟩) (by assumption) ?_
      rotate_left 1
      · (intro w hSw; (try dsimp only at hSw); go_simp; try with_reducible rfl)
      try simp only [Act.put, List.getElem_toArray, List.getElem_cons_succ, List.getElem_cons_zero, List.setIfInBounds_toArray, List.set_cons_zero, List.set_cons_succ]
      refine wpAnyH_take (i := 7) (v := ?_) rfl (by kernel_rfl) (by kernel_rfl) (by kernel_rfl) (fun _ _ _ h => h) (Or.inl ⟨by rfl, ?_⟩) (by assumption) ?_
      rotate_left 1
      · (intro w hSw; (try dsimp only at hSw); go_simp; try with_reducible rfl)
      try simp only [Act.put, List.getElem_toArray, List.getElem_cons_succ, List.getElem_cons_zero, List.setIfInBounds_toArray, List.set_cons_zero, List.set_cons_succ]
      refine wpAnyH_ready (rs := [8]) (by kernel_rfl) (by simp) ?_
      refine AllReadyH.cons rfl (fun K hK => ?_) AllReadyH.nil
      try simp only [Act.put, List.getElem_toArray, List.getElem_cons_succ, List.getElem_cons_zero, List.setIfInBounds_toArray, List.set_cons_zero, List.set_cons_succ]
      go_simp
      go_at_call 41
      refine (HTd.out _).mono ?_
      rintro e w8 ⟨rfl, rfl⟩
      dsimp only
      refine hK.out _ _ (e0) (fun hHeld => ?_)
      clear hK K
      try simp only [Act.put, List.getElem_toArray, List.getElem_cons_succ, List.getElem_cons_zero, List.setIfInBounds_toArray, List.set_cons_zero, List.set_cons_succ]
      refine wpAnyH_ready (rs := [9]) (by kernel_rfl) (by simp) ?_
      refine AllReadyH.cons rfl (fun K hK => ?_) AllReadyH.nil
      try simp only [Act.put, List.getElem_toArray, List.getElem_cons_succ, List.getElem_cons_zero, List.setIfInBounds_toArray, List.set_cons_zero, List.set_cons_succ]
      go_simp
      go_at_call 40
      refine (HRd.out _ (HTW.out _ (B2.out.trans (BD.out.mono B2.out.size)))).mono ?_
      rintro e w9 ⟨rfl, b9⟩
      have X9 := hide (XD.out.below b9 XD.out.lt)
      have P9 := hide (PD.out.below b9 PD.out.lt)
      have B9 := hide (BD.out.trans (b9.mono BD.out.size))
      have e9 : w9.cell? ⟨gw, 3, none⟩ = some (.string d) := (CW.out.below B9.out CW.out.lt).cell 3
      clear XD PD BD b9 e0
      dsimp only
      refine hK.out _ _ (e9) (fun hHeld => ?_)
      clear hK K
      try simp only [Act.put, List.getElem_toArray, List.getElem_cons_succ, List.getElem_cons_zero, List.setIfInBounds_toArray, List.set_cons_zero, List.set_cons_succ]
      refine wpAnyH_take (i := 10) (v := ?_) rfl (by kernel_rfl) (by kernel_rfl) (by kernel_rfl) (fun _ _ _ h => h) (Or.inl ⟨by rfl, ?_⟩) (by assumption) ?_
      rotate_left 1
      · (intro w hSw; (try dsimp only at hSw); go_simp; try with_reducible rfl)
      try simp only [Act.put, List.getElem_toArray, List.getElem_cons_succ, List.getElem_cons_zero, List.setIfInBounds_toArray, List.set_cons_zero, List.set_cons_succ]
      refine wpAnyH_take (i := 11) (v := ?_) rfl (by kernel_rfl) (by kernel_rfl) (by kernel_rfl) (fun _ _ _ h => h) (Or.inl ⟨by rfl, ?_⟩) (by assumption) ?_
      rotate_left 1
      · (intro w hSw; (try dsimp only at hSw); go_simp; try with_reducible rfl)
      try simp only [Act.put, List.getElem_toArray, List.getElem_cons_succ, List.getElem_cons_zero, List.setIfInBounds_toArray, List.set_cons_zero, List.set_cons_succ]
      refine wpAnyH_take (i := 12) (v := ?_) rfl (by kernel_rfl) (by kernel_rfl) (by kernel_rfl) (fun _ _ _ h => h) (Or.inl ⟨by rfl, ?_⟩) (by assumption) ?_
      rotate_left 1
      · (intro w hSw; (try dsimp only at hSw); go_simp; try with_reducible rfl)
      try simp only [Act.put, List.getElem_toArray, List.getElem_cons_succ, List.getElem_cons_zero, List.setIfInBounds_toArray, List.set_cons_zero, List.set_cons_succ]
      refine wpAnyH_take (i := 13) (v := ?_) rfl (by kernel_rfl) (by kernel_rfl) (by kernel_rfl) (fun _ _ _ h => h) (Or.inl ⟨by rfl, ?_⟩) (by assumption) ?_
      rotate_left 1
      · (intro w hSw; (try dsimp only at hSw); go_simp; try with_reducible rfl)
      try simp only [Act.put, List.getElem_toArray, List.getElem_cons_succ, List.getElem_cons_zero, List.setIfInBounds_toArray, List.set_cons_zero, List.set_cons_succ]
      refine wpAnyH_take (i := 14) (v := ?_) rfl (by kernel_rfl) (by kernel_rfl) (by kernel_rfl) (fun _ _ _ h => h) (Or.inl ⟨by rfl, ?_⟩) (by assumption) ?_
      rotate_left 1
      · (intro w hSw; (try dsimp only at hSw); go_simp; try with_reducible rfl)
      try simp only [Act.put, List.getElem_toArray, List.getElem_cons_succ, List.getElem_cons_zero, List.setIfInBounds_toArray, List.set_cons_zero, List.set_cons_succ]
      refine wpAnyH_done (by kernel_rfl) ?_ _
      clear e9 hHeld
      rcases hcase : Nd with _ | n
      · have HRES := hide (show readB s = none from HNO.out (by rw [hcase]; simp))
        clear hcase
        have Y8 := hide (Y2.out.below B9.out Y2.out.lt)
        have B8 := hide (B2.out.trans (B9.out.mono B2.out.size))
        have T1 := hide (Y8.out.set 0 (.int .i64 0))
        have T2 := hide (T1.out.set 1 (.int .i64 0))
        have T3 := hide (T2.out.set 2 (.int .i64 0))
        have T4 := hide (T3.out.set 3 (.int .i64 0))
        have m0 : w9.cell? ⟨w.heap.size, 0, none⟩ = some (.int .i64 0) := Y8.out.cell 0
        have n0 := Y8.out.fro 0
        have m1 : (w9.setCell ⟨w.heap.size, 0, none⟩ (.int .i64 0)).cell? ⟨w.heap.size, 1, none⟩ = some (.int .i64 0) := T1.out.cell 1
        have n1 := T1.out.fro 1
        have m2 : ((w9.setCell ⟨w.heap.size, 0, none⟩ (.int .i64 0)).setCell ⟨w.heap.size, 1, none⟩ (.int .i64 0)).cell? ⟨w.heap.size, 2, none⟩ = some (.int .i64 0) := T2.out.cell 2
        have n2 := T2.out.fro 2
        have m3 : (((w9.setCell ⟨w.heap.size, 0, none⟩ (.int .i64 0)).setCell ⟨w.heap.size, 1, none⟩ (.int .i64 0)).setCell ⟨w.heap.size, 2, none⟩ (.int .i64 0)).cell? ⟨w.heap.size, 3, none⟩ = some (.int .i64 0) := T3.out.cell 3
        have n3 := T3.out.fro 3
        go_wp2_with fail
        have q0 : ((((w9.setCell ⟨w.heap.size, 0, none⟩ (.int .i64 0)).setCell ⟨w.heap.size, 1, none⟩ (.int .i64 0)).setCell ⟨w.heap.size, 2, none⟩ (.int .i64 0)).setCell ⟨w.heap.size, 3, none⟩ (.int .i64 0)).cell? ⟨w.heap.size, 0, none⟩ = some (.int .i64 0) := T4.out.cell 0
        have q1 : ((((w9.setCell ⟨w.heap.size, 0, none⟩ (.int .i64 0)).setCell ⟨w.heap.size, 1, none⟩ (.int .i64 0)).setCell ⟨w.heap.size, 2, none⟩ (.int .i64 0)).setCell ⟨w.heap.size, 3, none⟩ (.int .i64 0)).cell? ⟨w.heap.size, 1, none⟩ = some (.int .i64 0) := T4.out.cell 1
        have q2 : ((((w9.setCell ⟨w.heap.size, 0, none⟩ (.int .i64 0)).setCell ⟨w.heap.size, 1, none⟩ (.int .i64 0)).setCell ⟨w.heap.size, 2, none⟩ (.int .i64 0)).setCell ⟨w.heap.size, 3, none⟩ (.int .i64 0)).cell? ⟨w.heap.size, 2, none⟩ = some (.int .i64 0) := T4.out.cell 2
        have q3 : ((((w9.setCell ⟨w.heap.size, 0, none⟩ (.int .i64 0)).setCell ⟨w.heap.size, 1, none⟩ (.int .i64 0)).setCell ⟨w.heap.size, 2, none⟩ (.int .i64 0)).setCell ⟨w.heap.size, 3, none⟩ (.int .i64 0)).cell? ⟨w.heap.size, 3, none⟩ = some (.int .i64 0) := T4.out.cell 3
        refine bodyPost_ret (v := .tuple #[.agg #[.int .i64 0, .int .i64 0, .int .i64 0, .int .i64 0], .bool false]) (by simp [results, Tryz.results28, go_sem, q0, q1, q2, q3]) rfl ⟨by rw [HRES.out]; rfl, ?_⟩
        exact (((B8.out.setCell (p := ⟨w.heap.size, 0, none⟩) (Nat.le_refl _) _).setCell (p := ⟨w.heap.size, 1, none⟩) (Nat.le_refl _) _).setCell (p := ⟨w.heap.size, 2, none⟩) (Nat.le_refl _) _).setCell (p := ⟨w.heap.size, 3, none⟩) (Nat.le_refl _) _
      · have HC := hide hcase
        clear hcase
        have mx : w9.cell? ⟨w2.heap.size, 3, none⟩ = some (.int .i64 x3) := X9.out.cell 3
        have nx := X9.out.fro 3
        have X10 := hide (show BoxN (w9.setCell ⟨w2.heap.size, 3, none⟩ (.int .i64 n)) w2.heap.size #[.int .i64 x0, .int .i64 x1, .int .i64 x2, .int .i64 n] 44 from X9.out.set 3 (.int .i64 n))
        have P10 := hide (P9.out.other (b' := w2.heap.size) (by omega) 3 (.int .i64 n))
        have B10 := hide (B9.out.setCell (p := ⟨w2.heap.size, 3, none⟩) (Nat.le_refl _) (.int .i64 n))
        go_wp2_with fail
        go_roundg (4 - 4)
        case measure => have := hg.out; omega
        case rel => exact ⟨4, 4, x0, x1, x2, n, by omega, rfl, rfl, by go_num, ⟨fun _ => HN.out.1 (by decide), fun _ => HN.out.2.1 (by decide), fun _ => HN.out.2.2.1 (by decide), fun _ => HC.out⟩, X10, P10, B10⟩
    · obtain rfl : ki = 4 := hki.out
      obtain ⟨n1, n2, n3, n4⟩ := HN.out
      have HYN := hide (HYES.out ⟨x0, x1, x2, x3⟩)
      have HON := hide (HOTH.out ⟨x0, x1, x2, x3⟩ (n1 (by decide)) (n2 (by decide)) (n3 (by decide)) (n4 (by decide)))
      have HTX := hide (show Calls Tryz.prog 27 #[.agg #[.int .i64 x0, .int .i64 x1, .int .i64 x2, .int .i64 x3]] wr fun e w' => e = .returned (.string (rideB ⟨x0, x1, x2, x3⟩)) ∧ Below wr.heap.size wr w' from implRideText_any ⟨x0, x1, x2, x3⟩ wr (HTW.out _ (B2.out.trans (HB.out.mono B2.out.size))).tab)
      have k0 : wr.cell? ⟨w2.heap.size, 0, none⟩ = some (.int .i64 x0) := HX.out.cell 0
      have k1 : wr.cell? ⟨w2.heap.size, 1, none⟩ = some (.int .i64 x1) := HX.out.cell 1
      have k2 : wr.cell? ⟨w2.heap.size, 2, none⟩ = some (.int .i64 x2) := HX.out.cell 2
      have k3 : wr.cell? ⟨w2.heap.size, 3, none⟩ = some (.int .i64 x3) := HX.out.cell 3
      clear HYES HOTH HN HP n1 n2 n3 n4
      generalize rideB ⟨x0, x1, x2, x3⟩ = dv at *
      have hxlt := HX.out.lt
      go_upto_region 13 with fail
      by_cases hes : dv = s
      · have HRES := hide (HYN.out hes)
        have hB : (dv.toList == s.toList) = true := by rw [hes]; exact beq_self_eq_true _
        have HES := hide hes
        clear hes HYN HON
        go_wp2_with (go_at_call 27; (with_reducible refine (HTX.out).mono ?_); rintro e wZ ⟨rfl, b9⟩; have X9 := hide (HX.out.below b9 hxlt); have B9 := hide (HB.out.trans (b9.mono HB.out.size)); have Y8 := hide (Y2.out.below B9.out Y2.out.lt); have B8 := hide (B2.out.trans (B9.out.mono B2.out.size)); clear k0 k1 k2 k3 b9; have k0 : wZ.cell? ⟨w2.heap.size, 0, none⟩ = some (.int .i64 x0) := X9.out.cell 0; have k1 : wZ.cell? ⟨w2.heap.size, 1, none⟩ = some (.int .i64 x1) := X9.out.cell 1; have k2 : wZ.cell? ⟨w2.heap.size, 2, none⟩ = some (.int .i64 x2) := X9.out.cell 2; have k3 : wZ.cell? ⟨w2.heap.size, 3, none⟩ = some (.int .i64 x3) := X9.out.cell 3; have T1 := hide (Y8.out.set 0 (.int .i64 x0)); have T2 := hide (T1.out.set 1 (.int .i64 x1)); have T3 := hide (T2.out.set 2 (.int .i64 x2)); have T4 := hide (T3.out.set 3 (.int .i64 x3)); have m0 : wZ.cell? ⟨w.heap.size, 0, none⟩ = some (.int .i64 0) := Y8.out.cell 0; have n0 := Y8.out.fro 0; have m1 : (wZ.setCell ⟨w.heap.size, 0, none⟩ (.int .i64 x0)).cell? ⟨w.heap.size, 1, none⟩ = some (.int .i64 0) := T1.out.cell 1; have n1 := T1.out.fro 1; have m2 : ((wZ.setCell ⟨w.heap.size, 0, none⟩ (.int .i64 x0)).setCell ⟨w.heap.size, 1, none⟩ (.int .i64 x1)).cell? ⟨w.heap.size, 2, none⟩ = some (.int .i64 0) := T2.out.cell 2; have n2 := T2.out.fro 2; have m3 : (((wZ.setCell ⟨w.heap.size, 0, none⟩ (.int .i64 x0)).setCell ⟨w.heap.size, 1, none⟩ (.int .i64 x1)).setCell ⟨w.heap.size, 2, none⟩ (.int .i64 x2)).cell? ⟨w.heap.size, 3, none⟩ = some (.int .i64 0) := T3.out.cell 3; have n3 := T3.out.fro 3)
        have q0 : ((((wZ.setCell ⟨w.heap.size, 0, none⟩ (.int .i64 x0)).setCell ⟨w.heap.size, 1, none⟩ (.int .i64 x1)).setCell ⟨w.heap.size, 2, none⟩ (.int .i64 x2)).setCell ⟨w.heap.size, 3, none⟩ (.int .i64 x3)).cell? ⟨w.heap.size, 0, none⟩ = some (.int .i64 x0) := T4.out.cell 0
        have q1 : ((((wZ.setCell ⟨w.heap.size, 0, none⟩ (.int .i64 x0)).setCell ⟨w.heap.size, 1, none⟩ (.int .i64 x1)).setCell ⟨w.heap.size, 2, none⟩ (.int .i64 x2)).setCell ⟨w.heap.size, 3, none⟩ (.int .i64 x3)).cell? ⟨w.heap.size, 1, none⟩ = some (.int .i64 x1) := T4.out.cell 1
        have q2 : ((((wZ.setCell ⟨w.heap.size, 0, none⟩ (.int .i64 x0)).setCell ⟨w.heap.size, 1, none⟩ (.int .i64 x1)).setCell ⟨w.heap.size, 2, none⟩ (.int .i64 x2)).setCell ⟨w.heap.size, 3, none⟩ (.int .i64 x3)).cell? ⟨w.heap.size, 2, none⟩ = some (.int .i64 x2) := T4.out.cell 2
        have q3 : ((((wZ.setCell ⟨w.heap.size, 0, none⟩ (.int .i64 x0)).setCell ⟨w.heap.size, 1, none⟩ (.int .i64 x1)).setCell ⟨w.heap.size, 2, none⟩ (.int .i64 x2)).setCell ⟨w.heap.size, 3, none⟩ (.int .i64 x3)).cell? ⟨w.heap.size, 3, none⟩ = some (.int .i64 x3) := T4.out.cell 3
        refine bodyPost_ret (v := .tuple #[.agg #[.int .i64 x0, .int .i64 x1, .int .i64 x2, .int .i64 x3], .bool true]) (by simp [results, Tryz.results28, go_sem, q0, q1, q2, q3]) rfl ⟨by rw [HRES.out]; rfl, ?_⟩
        exact (((B8.out.setCell (p := ⟨w.heap.size, 0, none⟩) (Nat.le_refl _) _).setCell (p := ⟨w.heap.size, 1, none⟩) (Nat.le_refl _) _).setCell (p := ⟨w.heap.size, 2, none⟩) (Nat.le_refl _) _).setCell (p := ⟨w.heap.size, 3, none⟩) (Nat.le_refl _) _
      · have HRES := hide (HON.out hes)
        have hB : (dv.toList == s.toList) = false := by
          rw [beq_eq_false_iff_ne, Lib.toList_data, Lib.toList_data]
          exact fun e => hes (ByteArray.ext (Array.ext' e))
        have HES := hide hes
        clear hes HYN HON
        go_wp2_with (go_at_call 27; (with_reducible refine (HTX.out).mono ?_); rintro e wZ ⟨rfl, b9⟩; have X9 := hide (HX.out.below b9 hxlt); have B9 := hide (HB.out.trans (b9.mono HB.out.size)); have Y8 := hide (Y2.out.below B9.out Y2.out.lt); have B8 := hide (B2.out.trans (B9.out.mono B2.out.size)); clear k0 k1 k2 k3 b9; have T1 := hide (Y8.out.set 0 (.int .i64 0)); have T2 := hide (T1.out.set 1 (.int .i64 0)); have T3 := hide (T2.out.set 2 (.int .i64 0)); have T4 := hide (T3.out.set 3 (.int .i64 0)); have m0 : wZ.cell? ⟨w.heap.size, 0, none⟩ = some (.int .i64 0) := Y8.out.cell 0; have n0 := Y8.out.fro 0; have m1 : (wZ.setCell ⟨w.heap.size, 0, none⟩ (.int .i64 0)).cell? ⟨w.heap.size, 1, none⟩ = some (.int .i64 0) := T1.out.cell 1; have n1 := T1.out.fro 1; have m2 : ((wZ.setCell ⟨w.heap.size, 0, none⟩ (.int .i64 0)).setCell ⟨w.heap.size, 1, none⟩ (.int .i64 0)).cell? ⟨w.heap.size, 2, none⟩ = some (.int .i64 0) := T2.out.cell 2; have n2 := T2.out.fro 2; have m3 : (((wZ.setCell ⟨w.heap.size, 0, none⟩ (.int .i64 0)).setCell ⟨w.heap.size, 1, none⟩ (.int .i64 0)).setCell ⟨w.heap.size, 2, none⟩ (.int .i64 0)).cell? ⟨w.heap.size, 3, none⟩ = some (.int .i64 0) := T3.out.cell 3; have n3 := T3.out.fro 3)
        have q0 : ((((wZ.setCell ⟨w.heap.size, 0, none⟩ (.int .i64 0)).setCell ⟨w.heap.size, 1, none⟩ (.int .i64 0)).setCell ⟨w.heap.size, 2, none⟩ (.int .i64 0)).setCell ⟨w.heap.size, 3, none⟩ (.int .i64 0)).cell? ⟨w.heap.size, 0, none⟩ = some (.int .i64 0) := T4.out.cell 0
        have q1 : ((((wZ.setCell ⟨w.heap.size, 0, none⟩ (.int .i64 0)).setCell ⟨w.heap.size, 1, none⟩ (.int .i64 0)).setCell ⟨w.heap.size, 2, none⟩ (.int .i64 0)).setCell ⟨w.heap.size, 3, none⟩ (.int .i64 0)).cell? ⟨w.heap.size, 1, none⟩ = some (.int .i64 0) := T4.out.cell 1
        have q2 : ((((wZ.setCell ⟨w.heap.size, 0, none⟩ (.int .i64 0)).setCell ⟨w.heap.size, 1, none⟩ (.int .i64 0)).setCell ⟨w.heap.size, 2, none⟩ (.int .i64 0)).setCell ⟨w.heap.size, 3, none⟩ (.int .i64 0)).cell? ⟨w.heap.size, 2, none⟩ = some (.int .i64 0) := T4.out.cell 2
        have q3 : ((((wZ.setCell ⟨w.heap.size, 0, none⟩ (.int .i64 0)).setCell ⟨w.heap.size, 1, none⟩ (.int .i64 0)).setCell ⟨w.heap.size, 2, none⟩ (.int .i64 0)).setCell ⟨w.heap.size, 3, none⟩ (.int .i64 0)).cell? ⟨w.heap.size, 3, none⟩ = some (.int .i64 0) := T4.out.cell 3
        refine bodyPost_ret (v := .tuple #[.agg #[.int .i64 0, .int .i64 0, .int .i64 0, .int .i64 0], .bool false]) (by simp [results, Tryz.results28, go_sem, q0, q1, q2, q3]) rfl ⟨by rw [HRES.out]; rfl, ?_⟩
        exact (((B8.out.setCell (p := ⟨w.heap.size, 0, none⟩) (Nat.le_refl _) _).setCell (p := ⟨w.heap.size, 1, none⟩) (Nat.le_refl _) _).setCell (p := ⟨w.heap.size, 2, none⟩) (Nat.le_refl _) _).setCell (p := ⟨w.heap.size, 3, none⟩) (Nat.le_refl _) _
end Go.Proofs.YtaajkmjilcamgaaGreatDoor
