/-
  Rides in the program: the place after some ticks.
  Runs and their spans: the plain law of the earliest start.
  Times, ways, runs and wishes: which are valid; in the program and in the reference.
  Orders of wishes: the codes; in the program and in the reference.
-/
import Derived.Test.YtlkccijlbeibjaaQPlaces4
import Derived.Test.YtlkccijlbeibjaaQPlaces3
import Derived.Test.YtlkccijlbeibjaaQPlaces1
namespace Go.Proofs.Ytlkccijlbeibjaa
open Go.RowKit
theorem placeGo_step {xs : List T4} {k : Nat} {z : T4} {t : Int} (h : xs[k]? = some z) : placeGo (xs.drop k) t k = if t < ticksR z then ((k : Int), lowF (100 * z.c * t) (denR z), 0) else placeGo (xs.drop (k + 1)) (t - ticksR z) (k + 1) := by
  rw [drop_cons h, placeGo]
/-- A fraction is stored into a struct variable. -/
theorem boxF {w : World} {b : Nat} {u0 u1 v0 v1 : Value} {e : TypeId} (h : BoxN w b #[u0, u1] e) : BoxN ((w.setCell ⟨b, 0, none⟩ v0).setCell ⟨b, 1, none⟩ v1) b #[v0, v1] e := (h.set 0 v0).set 1 v1
set_option maxRecDepth 100000 in
set_option maxHeartbeats 4000000 in
theorem implPlaceAfter_any (xs : List T4) (t0 : Int) (A : Option Addr) (c : Nat) (w : World) (hl : xs.length ≤ 1048576) (h : Rd4 w w.heap.size A xs) :
    Calls Try.prog 46 #[.slice A xs.length c, .int .i64 t0] w fun e w' => e = .returned (.tuple #[.int .i64 (placeAfter xs t0).1, .agg #[.int .i64 (placeAfter xs t0).2.1.1, .int .i64 (placeAfter xs t0).2.1.2], .int .i64 (placeAfter xs t0).2.2]) ∧ Below w.heap.size w w' := by
  have X0 := hide (BoxN.new w #[.int .i64 0, .int .i64 0] 77)
  have b0 : Below w.heap.size w (w.alloc (.cells #[.int .i64 0, .int .i64 0] 77)) := (by repeat (first | exact Below.refl _ _ | assumption | (refine Below.alloc ?_ (by simp <;> omega) _) | refine Below.drew ?_ | refine bdn ?_ _))
  have B0 := hide b0
  have z0 := X0.out.lt
  have HV := hide fun W (hW : Below w.heap.size w W) => implValidRides_any xs A c W hl ((h.below hW).more hW.size)
  obtain ⟨ok, hok⟩ : ∃ ok, ok = okRs xs := ⟨_, rfl⟩
  rw [← hok] at HV
  by_cases hc : tickCode ok t0 = 0
  case neg =>
    have HK := hide (show placeAfter xs t0 = (0, (0, 0), tickCode ok t0) by unfold placeAfter; rw [← hok, if_neg hc])
    have HT := hide fun W => implTicksCode_any ok t0 W
    generalize tickCode ok t0 = cd at *
    have hcb : (cd != 0) = true := by simpa using hc
    clear b0 h hok
    go_enter Try.func46, Try.ntmps46
    go_upto_region 1 with fail
    generalize w.alloc (.cells #[.int .i64 0, .int .i64 0] 77) = w1 at *
    go_upto_region 3 with (first | (go_at_call 122; refine (HV.out _ B0.out).mono ?_; rintro e w2 ⟨rfl, s2⟩) | (go_at_call 121; refine (HT.out _).mono ?_; rintro e w3 ⟨rfl, rfl⟩))
    have X2 := hide (X0.out.below s2 z0)
    have B2 := hide (B0.out.trans (s2.mono B0.out.size))
    have m0 : w2.cell? ⟨w.heap.size, 0, none⟩ = some (.int .i64 0) := X2.out.cell 0
    have n0 := X2.out.fro 0
    have T0 := hide (X2.out.set 0 (.int .i64 0))
    have T1 := hide (T0.out.set 1 (.int .i64 0))
    have m1 : (w2.setCell ⟨w.heap.size, 0, none⟩ (.int .i64 0)).cell? ⟨w.heap.size, 1, none⟩ = some (.int .i64 0) := T0.out.cell 1
    have n1 := T0.out.fro 1
    go_wp2_with fail
    have q0 : ((w2.setCell ⟨w.heap.size, 0, none⟩ (.int .i64 0)).setCell ⟨w.heap.size, 1, none⟩ (.int .i64 0)).cell? ⟨w.heap.size, 0, none⟩ = some (.int .i64 0) := T1.out.cell 0
    have q1 : ((w2.setCell ⟨w.heap.size, 0, none⟩ (.int .i64 0)).setCell ⟨w.heap.size, 1, none⟩ (.int .i64 0)).cell? ⟨w.heap.size, 1, none⟩ = some (.int .i64 0) := T1.out.cell 1
    refine bodyPost_ret (v := .tuple #[.int .i64 0, .agg #[.int .i64 0, .int .i64 0], .int .i64 cd]) (by simp [results, Try.results46, go_sem, q0, q1]) rfl ⟨by rw [HK.out], (B2.out.setCell (p := ⟨w.heap.size, 0, none⟩) (Nat.le_refl _) _).setCell (p := ⟨w.heap.size, 1, none⟩) (Nat.le_refl _) _⟩
  have hokt : ok = true := by
    cases ok
    · unfold tickCode at hc; rw [if_pos rfl] at hc; cases hc
    · rfl
  have hin : 0 ≤ t0 ∧ t0 ≤ 1000000 := by
    rw [hokt] at hc; unfold tickCode at hc; rw [if_neg (by simp)] at hc
    split at hc
    · cases hc
    · rename_i h1; exact inB_iff.1 (by simpa using h1)
  obtain ⟨h8, hx⟩ := okRs_iff.1 (hok.symm.trans hokt)
  have HK := hide (show placeAfter xs t0 = placeGo xs t0 0 by unfold placeAfter; rw [← hok, if_pos hc])
  have HT := hide fun W => implTicksCode_any ok t0 W
  rw [hc] at HT
  have HX := hide h
  have HO := hide hx
  obtain ⟨ht1, ht2⟩ := hin
  clear b0 h hok hx hc hokt
  go_enter Try.func46, Try.ntmps46
  go_upto_region 1 with fail
  generalize w.alloc (.cells #[.int .i64 0, .int .i64 0] 77) = w1 at *
  go_upto_region 4 with (first | (go_at_call 122; refine (HV.out _ B0.out).mono ?_; rintro e w2 ⟨rfl, s2⟩) | (go_at_call 121; refine (HT.out _).mono ?_; rintro e w3 ⟨rfl, rfl⟩))
  have X2 := hide (X0.out.below s2 z0)
  have B2 := hide (B0.out.trans (s2.mono B0.out.size))
  clear s2 X0 B0 HV HT
  go_wp2_with fail
  go_loopg [1, 20] xs.length (fun g tv i wr => ∃ (k : Nat) (t : Int), k ≤ xs.length ∧ Hid (g = xs.length - k) ∧ tv = .int .i64 t ∧ i = .int .i64 k ∧ 0 ≤ t ∧ t ≤ 1000000 ∧ Hid (placeGo xs t0 0 = placeGo (xs.drop k) t k) ∧ Hid (BoxN wr w.heap.size #[.int .i64 0, .int .i64 0] 77) ∧ Hid (Below w.heap.size w wr))
  case atStart => exact ⟨0, t0, Nat.zero_le _, by simp [Hid], rfl, rfl, ht1, ht2, by simp [Hid], X2, B2⟩
  case round =>
    obtain ⟨k, t, hk, hg, rfl, rfl, hta, htb, HS, XR, HB⟩ := hrel
    have zr := XR.out.lt
    by_cases hlt : k < xs.length
    · obtain ⟨b1, o1, z1, rfl, hb1, hz1, hca, hcb, hcc, hcd⟩ := (HX.out.below HB.out).at_ hlt
      have hlt' : (k : Int) < (xs.length : Int) := by omega
      have hzo := HO.out z1 (List.mem_of_getElem? hz1)
      have HST := hide (HS.out.trans (placeGo_step hz1))
      have HTK := hide fun W => ticks_any z1 W hzo
      have htp := ticksR_pos hzo
      have htl := ticksR_le hzo
      have HD := hide fun W => drag_any z1 W hzo
      obtain ⟨⟨_, _⟩, ⟨_, _⟩, ⟨c1, c2⟩, _, _⟩ := okR_bd hzo
      obtain ⟨n1, n2⟩ := denR_pos hzo
      have X1 := hide (XR.out.alloc (.cells #[.int .i64 z1.a, .int .i64 z1.b, .int .i64 z1.c, .int .i64 z1.d] 83))
      have Y1 := hide (BoxN.new wr #[.int .i64 z1.a, .int .i64 z1.b, .int .i64 z1.c, .int .i64 z1.d] 83)
      have B1 := hide (HB.out.alloc HB.out.size (.cells #[.int .i64 z1.a, .int .i64 z1.b, .int .i64 z1.c, .int .i64 z1.d] 83))
      have zy := Y1.out.lt
      clear hz1 hzo
      obtain ⟨tz, htz⟩ : ∃ tz, tz = ticksR z1 := ⟨_, rfl⟩
      rw [← htz] at htp htl HTK HST
      clear htz
      go_upto_region 7 with fail
      generalize wr.alloc (.cells #[.int .i64 z1.a, .int .i64 z1.b, .int .i64 z1.c, .int .i64 z1.d] 83) = wa at *
      have k0 := Y1.out.cell 0
      have k1 := Y1.out.cell 1
      have k2 := Y1.out.cell 2
      have k3 := Y1.out.cell 3
      clear hca hcb hcc hcd
      by_cases hcm : t < tz
      · have HST1 := hide (show placeGo xs t0 0 = ((k : Int), lowF (100 * z1.c * t) (denR z1), 0) by rw [HST.out, if_pos hcm])
        obtain ⟨p1, p2⟩ := mul_bd (a := 100 * z1.c) (b := t) (m := 10000) (n := 1000000) (by omega) (by omega) hta htb
        have HL := hide fun W => lowest_any (100 * z1.c * t) (denR z1) W p1 (by omega) (by omega) (by omega)
        have e1 : IntKind.i64.wrap (100 * z1.c) = 100 * z1.c := wrap_in (by omega) (by omega)
        have e2 : IntKind.i64.wrap (100 * z1.c * t) = 100 * z1.c * t := wrap_in (by omega) (by omega)
        obtain ⟨f, hf⟩ : ∃ f, f = lowF (100 * z1.c * t) (denR z1) := ⟨_, rfl⟩
        rw [← hf] at HL HST1
        clear hf p1 p2
        go_upto_region 8 with (go_at_call 123; refine (HTK.out _).mono ?_; rintro e w2 ⟨rfl, s2⟩)
        have XD := hide ((X1.out.below s2 (by omega)).below (Below.refl w2.heap.size w2).drew (by have := s2.size; omega))
        have YD := hide ((Y1.out.below s2 (by omega)).below (Below.refl w2.heap.size w2).drew (by have := s2.size; omega))
        have BD : Hid (Below w.heap.size w w2.drew) := (B1.out.trans (s2.mono B1.out.size)).drew
        have zd : wr.heap.size < w2.drew.heap.size := Nat.lt_of_lt_of_le zy s2.size
        clear k0 k1 k2 k3 s2
        refine wp_region_held_drew (S := fun W => W.cell? ⟨wr.heap.size, 0, none⟩ = some (.int .i64 z1.a) ∧ W.cell? ⟨wr.heap.size, 1, none⟩ = some (.int .i64 z1.b) ∧ W.cell? ⟨wr.heap.size, 2, none⟩ = some (.int .i64 z1.c) ∧ W.cell? ⟨wr.heap.size, 3, none⟩ = some (.int .i64 z1.d)) (by kernel_rfl) (⟨YD.out.cell 0, YD.out.cell 1, YD.out.cell 2, YD.out.cell 3⟩) (fun hHeld => ?_)
        generalize w2.drew = wd at *
        refine wpAnyH_take (i := 0) (v := ?_) rfl (by kernel_rfl) (by kernel_rfl) (by kernel_rfl) (fun _ _ _ h => h) (Or.inl ⟨by rfl, ?_⟩) (by assumption) ?_
        rotate_left 1
        · (intro w hSw; (try dsimp only at hSw); go_simp; try with_reducible rfl)
        try simp only [Act.put, List.getElem_toArray, List.getElem_cons_succ, List.getElem_cons_zero, List.setIfInBounds_toArray, List.set_cons_zero, List.set_cons_succ]
        refine wpAnyH_take (i := 1) (v := ?_) rfl (by kernel_rfl) (by kernel_rfl) (by kernel_rfl) (fun _ _ _ h => h) (Or.inl ⟨by rfl, ?_⟩) (by assumption) ?_
        rotate_left 1
        · (intro w hSw; (try dsimp only at hSw); go_simp; try with_reducible rfl)
        try simp only [Act.put, List.getElem_toArray, List.getElem_cons_succ, List.getElem_cons_zero, List.setIfInBounds_toArray, List.set_cons_zero, List.set_cons_succ]
        refine wpAnyH_take (i := 2) (v := ?_) rfl (by kernel_rfl) (by kernel_rfl) (by kernel_rfl) (fun _ _ _ h => h) (Or.inl ⟨by rfl, ?_⟩) (by assumption) ?_
        rotate_left 1
        · (intro w hSw; (try dsimp only at hSw); go_simp; try with_reducible rfl)
        try simp only [Act.put, List.getElem_toArray, List.getElem_cons_succ, List.getElem_cons_zero, List.setIfInBounds_toArray, List.set_cons_zero, List.set_cons_succ]
        refine wpAnyH_take (i := 3) (v := ?_) rfl (by kernel_rfl) (by kernel_rfl) (by kernel_rfl) (fun _ _ _ h => h) (Or.inl ⟨by rfl, ?_⟩) (by assumption) ?_
        rotate_left 1
        · (intro w hSw; (try dsimp only at hSw); go_simp; try with_reducible rfl)
        try simp only [Act.put, List.getElem_toArray, List.getElem_cons_succ, List.getElem_cons_zero, List.setIfInBounds_toArray, List.set_cons_zero, List.set_cons_succ]
        refine wpAnyH_take (i := 4) (v := ?_) rfl (by kernel_rfl) (by kernel_rfl) (by kernel_rfl) (fun _ _ _ h => h) (Or.inl ⟨by rfl, ?_⟩) (by assumption) ?_
        rotate_left 1
        · (intro w hSw; (try dsimp only at hSw); go_simp; try with_reducible rfl)
        try simp only [Act.put, List.getElem_toArray, List.getElem_cons_succ, List.getElem_cons_zero, List.setIfInBounds_toArray, List.set_cons_zero, List.set_cons_succ]
        refine wpAnyH_take (i := 5) (v := ?_) rfl (by kernel_rfl) (by kernel_rfl) (by kernel_rfl) (fun _ _ _ h => h) (Or.inl ⟨by rfl, ?_⟩) (by assumption) ?_
        rotate_left 1
        · (intro w hSw; (try dsimp only at hSw); go_simp; try with_reducible rfl)
        try simp only [Act.put, List.getElem_toArray, List.getElem_cons_succ, List.getElem_cons_zero, List.setIfInBounds_toArray, List.set_cons_zero, List.set_cons_succ]
        refine wpAnyH_take (i := 6) (v := ?_) rfl (by kernel_rfl) (by kernel_rfl) (by kernel_rfl) (fun _ _ _ h => h) (Or.inl ⟨by rfl, ?_⟩) (by assumption) ?_
        rotate_left 1
        · (intro w hSw; (try dsimp only at hSw); go_simp; try with_reducible rfl)
        try simp only [Act.put, List.getElem_toArray, List.getElem_cons_succ, List.getElem_cons_zero, List.setIfInBounds_toArray, List.set_cons_zero, List.set_cons_succ]
        refine wpAnyH_ready (rs := [7]) (by kernel_rfl) (by simp) ?_
        refine AllReadyH.cons rfl (fun K hK => ?_) AllReadyH.nil
        try simp only [Act.put, List.getElem_toArray, List.getElem_cons_succ, List.getElem_cons_zero, List.setIfInBounds_toArray, List.set_cons_zero, List.set_cons_succ]
        go_simp
        go_at_call 125
        refine (HD.out _).mono ?_
        rintro e w3 ⟨rfl, s3⟩
        have X3 := hide (XD.out.below s3 (by omega))
        have Y3 := hide (YD.out.below s3 (by omega))
        have B3 := hide (BD.out.trans (s3.mono BD.out.size))
        have z3 := s3.size
        dsimp only
        refine hK.out _ _ (⟨Y3.out.cell 0, Y3.out.cell 1, Y3.out.cell 2, Y3.out.cell 3⟩) (fun hHeld => ?_)
        clear hK K
        try simp only [Act.put, List.getElem_toArray, List.getElem_cons_succ, List.getElem_cons_zero, List.setIfInBounds_toArray, List.set_cons_zero, List.set_cons_succ]
        refine wpAnyH_ready (rs := [8]) (by kernel_rfl) (by simp) ?_
        refine AllReadyH.cons rfl (fun K hK => ?_) AllReadyH.nil
        try simp only [Act.put, List.getElem_toArray, List.getElem_cons_succ, List.getElem_cons_zero, List.setIfInBounds_toArray, List.set_cons_zero, List.set_cons_succ]
        go_simp
        go_at_call 124
        refine (HL.out _).mono ?_
        rintro e w4 ⟨rfl, s4⟩
        have X4 := hide (X3.out.below s4 (by omega))
        have Y4 := hide (Y3.out.below s4 (by omega))
        have B4 := hide (B3.out.trans (s4.mono B3.out.size))
        have T0 := hide (X4.out.set 0 (.int .i64 f.1))
        have T1 := hide (T0.out.set 1 (.int .i64 f.2))
        have YE := hide ((Y4.out.other (b' := w.heap.size) (by omega) 0 (.int .i64 f.1)).other (b' := w.heap.size) (by omega) 1 (.int .i64 f.2))
        have m0 : w4.cell? ⟨w.heap.size, 0, none⟩ = some (.int .i64 0) := X4.out.cell 0
        have n0 := X4.out.fro 0
        have m1 : (w4.setCell ⟨w.heap.size, 0, none⟩ (.int .i64 f.1)).cell? ⟨w.heap.size, 1, none⟩ = some (.int .i64 0) := T0.out.cell 1
        have n1' := T0.out.fro 1
        dsimp only
        refine hK.out _ _ (⟨Y4.out.cell 0, Y4.out.cell 1, Y4.out.cell 2, Y4.out.cell 3⟩) (fun hHeld => ?_)
        clear hK K
        try simp only [Act.put, List.getElem_toArray, List.getElem_cons_succ, List.getElem_cons_zero, List.setIfInBounds_toArray, List.set_cons_zero, List.set_cons_succ]
        refine wpAnyH_take (i := 9) (v := ?_) rfl (by kernel_rfl) (by kernel_rfl) (by kernel_rfl) (fun _ _ _ h => h) (Or.inl ⟨by rfl, ?_⟩) (by assumption) ?_
        rotate_left 1
        · (intro w hSw; (try dsimp only at hSw); go_simp; try with_reducible rfl)
        try simp only [Act.put, List.getElem_toArray, List.getElem_cons_succ, List.getElem_cons_zero, List.setIfInBounds_toArray, List.set_cons_zero, List.set_cons_succ]
        refine wpAnyH_ready (rs := [10]) (by kernel_rfl) (by simp) ?_
        refine AllReadyH.cons rfl (fun K hK => ?_) AllReadyH.nil
        try simp only [Act.put, List.getElem_toArray, List.getElem_cons_succ, List.getElem_cons_zero, List.setIfInBounds_toArray, List.set_cons_zero, List.set_cons_succ]
        go_simp
        refine hK.out _ _ (⟨YE.out.cell 0, YE.out.cell 1, YE.out.cell 2, YE.out.cell 3⟩) (fun hHeld => ?_)
        clear hK K
        try simp only [Act.put, List.getElem_toArray, List.getElem_cons_succ, List.getElem_cons_zero, List.setIfInBounds_toArray, List.set_cons_zero, List.set_cons_succ]
        refine wpAnyH_take (i := 11) (v := ?_) rfl (by kernel_rfl) (by kernel_rfl) (by kernel_rfl) (fun _ _ _ h => h) (Or.inl ⟨by rfl, ?_⟩) (by assumption) ?_
        rotate_left 1
        · (intro w hSw; (try dsimp only at hSw); go_simp; try with_reducible rfl)
        try simp only [Act.put, List.getElem_toArray, List.getElem_cons_succ, List.getElem_cons_zero, List.setIfInBounds_toArray, List.set_cons_zero, List.set_cons_succ]
        refine wpAnyH_done (by kernel_rfl) ?_ _
        go_wp2_with fail
        have q0 : ((w4.setCell ⟨w.heap.size, 0, none⟩ (.int .i64 f.1)).setCell ⟨w.heap.size, 1, none⟩ (.int .i64 f.2)).cell? ⟨w.heap.size, 0, none⟩ = some (.int .i64 f.1) := T1.out.cell 0
        have q1 : ((w4.setCell ⟨w.heap.size, 0, none⟩ (.int .i64 f.1)).setCell ⟨w.heap.size, 1, none⟩ (.int .i64 f.2)).cell? ⟨w.heap.size, 1, none⟩ = some (.int .i64 f.2) := T1.out.cell 1
        refine bodyPost_ret (v := .tuple #[.int .i64 k, .agg #[.int .i64 f.1, .int .i64 f.2], .int .i64 0]) (by simp [results, Try.results46, go_sem, q0, q1]) rfl ⟨by rw [HK.out, HST1.out], ?_⟩
        exact (B4.out.setCell (p := ⟨w.heap.size, 0, none⟩) (Nat.le_refl _) _).setCell (p := ⟨w.heap.size, 1, none⟩) (Nat.le_refl _) _
      · have HST2 := hide (show placeGo xs t0 0 = placeGo (xs.drop (k + 1)) (t - tz) (k + 1) by rw [HST.out, if_neg hcm])
        go_upto_region 9 with (go_at_call 123; refine (HTK.out _).mono ?_; rintro e w2 ⟨rfl, s2⟩)
        have X3 := hide (X1.out.below s2 (by omega))
        have Y3 := hide (Y1.out.below s2 (by omega))
        have B3 := hide (B1.out.trans (s2.mono B1.out.size))
        have z3 := s2.size
        clear k0 k1 k2 k3
        have k0 := Y3.out.cell 0
        have k1 := Y3.out.cell 1
        have k2 := Y3.out.cell 2
        have k3 := Y3.out.cell 3
        go_wp2_with (go_at_call 123; refine (HTK.out _).mono ?_; rintro e w3 ⟨rfl, s3⟩)
        go_roundg (xs.length - (k + 1))
        case measure => have := hg.out; omega
        case rel => exact ⟨k + 1, t - tz, by omega, rfl, by first | rfl | rw [wrap_in (by omega) (by omega)], by go_num, by omega, by omega, HST2, hide (X3.out.below s3 (by omega)), hide (B3.out.trans (s3.mono B3.out.size))⟩
    · obtain rfl : k = xs.length := by omega
      have HE := hide (HS.out.trans (by rw [List.drop_eq_nil_of_le (Nat.le_refl _), placeGo]))
      have m0 : wr.cell? ⟨w.heap.size, 0, none⟩ = some (.int .i64 0) := XR.out.cell 0
      have n0 := XR.out.fro 0
      have T0 := hide (XR.out.set 0 (.int .i64 0))
      have T1 := hide (T0.out.set 1 (.int .i64 0))
      have m1 : (wr.setCell ⟨w.heap.size, 0, none⟩ (.int .i64 0)).cell? ⟨w.heap.size, 1, none⟩ = some (.int .i64 0) := T0.out.cell 1
      have n1 := T0.out.fro 1
      go_wp2_with fail
      have q0 : ((wr.setCell ⟨w.heap.size, 0, none⟩ (.int .i64 0)).setCell ⟨w.heap.size, 1, none⟩ (.int .i64 0)).cell? ⟨w.heap.size, 0, none⟩ = some (.int .i64 0) := T1.out.cell 0
      have q1 : ((wr.setCell ⟨w.heap.size, 0, none⟩ (.int .i64 0)).setCell ⟨w.heap.size, 1, none⟩ (.int .i64 0)).cell? ⟨w.heap.size, 1, none⟩ = some (.int .i64 0) := T1.out.cell 1
      refine bodyPost_ret (v := .tuple #[.int .i64 0, .agg #[.int .i64 0, .int .i64 0], .int .i64 3]) (by simp [results, Try.results46, go_sem, q0, q1]) rfl ⟨by rw [HK.out, HE.out], (HB.out.setCell (p := ⟨w.heap.size, 0, none⟩) (Nat.le_refl _) _).setCell (p := ⟨w.heap.size, 1, none⟩) (Nat.le_refl _) _⟩
end Go.Proofs.Ytlkccijlbeibjaa
namespace Go.Proofs.Ytlkccijlbeibjaa
open Go.RowKit

def tmOf (ts : List Int) (t : Int) : Int := (ts[t.toNat]?).getD 0
/-- The spans of a run: tube, begin, end. -/
def spGo (ts : List Int) : Int → List Int → List T3
  | _, [] => []
  | f, t :: r => ⟨t, f, f + tmOf ts t⟩ :: spGo ts (f + tmOf ts t) r
def meet (s o : T3) : Bool := decide (s.a = o.a ∧ s.b < o.c ∧ o.b < s.c)
theorem meet_iff {s o : T3} : meet s o = true ↔ s.a = o.a ∧ s.b < o.c ∧ o.b < s.c := by simp [meet]
def fits (ts : List Int) (tk : List T3) (way : List Int) (f : Int) : Bool := (spGo ts f way).all fun s => tk.all fun o => !meet s o
def OkTimes (ts : List Int) : Prop := (1 ≤ ts.length ∧ ts.length ≤ 24) ∧ ∀ z ∈ ts, 1 ≤ z ∧ z ≤ 1000
def OkWay (ts way : List Int) : Prop := (1 ≤ way.length ∧ way.length ≤ 12) ∧ ∀ t ∈ way, 0 ≤ t ∧ t ≤ (ts.length : Int) - 1
theorem tmOf_bd {ts : List Int} (h : OkTimes ts) {t : Int} (ht : 0 ≤ t ∧ t ≤ (ts.length : Int) - 1) : 1 ≤ tmOf ts t ∧ tmOf ts t ≤ 1000 := by
  unfold tmOf
  rw [List.getElem?_eq_getElem (show t.toNat < ts.length by omega)]
  exact h.2 _ (List.getElem_mem _)
theorem spGo_shift (ts : List Int) (d : Int) : ∀ (way : List Int) (f : Int), spGo ts (f + d) way = (spGo ts f way).map fun s => ⟨s.a, s.b + d, s.c + d⟩ := by
  intro way
  induction way with
  | nil => intro f; rfl
  | cons t r ih =>
    intro f
    rw [spGo, spGo, List.map_cons, ← ih, show f + d + tmOf ts t = f + tmOf ts t + d by omega]
theorem spGo_ge {ts : List Int} (hts : OkTimes ts) : ∀ {way : List Int} {f : Int}, (∀ t ∈ way, 0 ≤ t ∧ t ≤ (ts.length : Int) - 1) → ∀ s ∈ spGo ts f way, f ≤ s.b ∧ s.b < s.c ∧ s.c ≤ f + 1000 * way.length := by
  intro way
  induction way with
  | nil => intro f _ s hs; cases hs
  | cons t r ih =>
    intro f h s hs
    have ht := tmOf_bd hts (h t (List.mem_cons_self ..))
    rw [spGo] at hs
    rw [List.length_cons]
    rcases List.mem_cons.1 hs with rfl | hs
    · dsimp only; omega
    · have := ih (fun t ht => h t (List.mem_cons_of_mem _ ht)) s hs
      omega
theorem spGo_len (ts : List Int) : ∀ (way : List Int) (f : Int), (spGo ts f way).length = way.length := by
  intro way
  induction way with
  | nil => intro f; rfl
  | cons t r ih => intro f; rw [spGo, List.length_cons, List.length_cons, ih]
/-- The longest wait for spans that meet. -/
def waitIn (s : T3) : List T3 → Int → Int
  | [], w => w
  | o :: os, w => waitIn s os (if meet s o then max w (o.c - s.b) else w)
def waitOf (tk : List T3) : List T3 → Int → Int
  | [], w => w
  | s :: ss, w => waitOf tk ss (waitIn s tk w)
theorem waitIn_spec (s : T3) : ∀ (os : List T3) (w : Int), w ≤ waitIn s os w ∧ (∀ o ∈ os, meet s o = true → o.c - s.b ≤ waitIn s os w) ∧ (waitIn s os w = w ∨ ∃ o ∈ os, meet s o = true ∧ waitIn s os w = o.c - s.b) := by
  intro os
  induction os with
  | nil => intro w; exact ⟨Int.le_refl _, fun o ho => (by cases ho), .inl rfl⟩
  | cons o os ih =>
    intro w
    rw [waitIn]
    obtain ⟨i1, i2, i3⟩ := ih (if meet s o then max w (o.c - s.b) else w)
    by_cases hm : meet s o = true
    · rw [if_pos hm] at *
      refine ⟨by omega, fun o' ho hm' => ?_, ?_⟩
      · rcases List.mem_cons.1 ho with rfl | ho
        · omega
        · exact i2 o' ho hm'
      · rcases i3 with h | ⟨o', ho, hm', h⟩
        · by_cases hw : o.c - s.b ≤ w
          · left; rw [h]; omega
          · right; exact ⟨o, List.mem_cons_self .., hm, by rw [h]; omega⟩
        · exact .inr ⟨o', List.mem_cons_of_mem _ ho, hm', h⟩
    · rw [if_neg hm] at *
      refine ⟨i1, fun o' ho hm' => ?_, ?_⟩
      · rcases List.mem_cons.1 ho with rfl | ho
        · exact absurd hm' hm
        · exact i2 o' ho hm'
      · rcases i3 with h | ⟨o', ho, hm', h⟩
        · exact .inl h
        · exact .inr ⟨o', List.mem_cons_of_mem _ ho, hm', h⟩
theorem waitOf_spec (tk : List T3) : ∀ (ss : List T3) (w : Int), w ≤ waitOf tk ss w ∧ (∀ s ∈ ss, ∀ o ∈ tk, meet s o = true → o.c - s.b ≤ waitOf tk ss w) ∧ (waitOf tk ss w = w ∨ ∃ s ∈ ss, ∃ o ∈ tk, meet s o = true ∧ waitOf tk ss w = o.c - s.b) := by
  intro ss
  induction ss with
  | nil => intro w; exact ⟨Int.le_refl _, fun o ho => (by cases ho), .inl rfl⟩
  | cons s ss ih =>
    intro w
    rw [waitOf]
    obtain ⟨i1, i2, i3⟩ := ih (waitIn s tk w)
    obtain ⟨k1, k2, k3⟩ := waitIn_spec s tk w
    refine ⟨by omega, fun s' hs o ho hm => ?_, ?_⟩
    · rcases List.mem_cons.1 hs with rfl | hs
      · have := k2 o ho hm; omega
      · exact i2 s' hs o ho hm
    · rcases i3 with h | ⟨s', hs, o, ho, hm, h⟩
      · rcases k3 with h' | ⟨o, ho, hm, h'⟩
        · exact .inl (h.trans h')
        · exact .inr ⟨s, List.mem_cons_self .., o, ho, hm, h.trans h'⟩
      · exact .inr ⟨s', List.mem_cons_of_mem _ hs, o, ho, hm, h⟩
theorem fits_iff {ts : List Int} {tk : List T3} {way : List Int} {f : Int} : fits ts tk way f = true ↔ ∀ s ∈ spGo ts f way, ∀ o ∈ tk, meet s o = false := by
  unfold fits
  rw [List.all_eq_true]
  constructor
  · intro h s hs o ho
    have := List.all_eq_true.1 (h s hs) o ho
    simpa using this
  · intro h s hs
    exact List.all_eq_true.2 fun o ho => by simp [h s hs o ho]
/-- No wait: it fits. A wait: it does not, nor anywhere before the wait is over. -/
theorem wait_zero {ts : List Int} {tk : List T3} {way : List Int} {f : Int} (h : waitOf tk (spGo ts f way) 0 = 0) : fits ts tk way f = true := by
  rw [fits_iff]
  intro s hs o ho
  cases hm : meet s o
  · rfl
  · have h1 := (waitOf_spec tk (spGo ts f way) 0).2.1 s hs o ho hm
    have h2 := (meet_iff.1 hm).2.1
    omega
theorem wait_pos {ts : List Int} {tk : List T3} {way : List Int} {f : Int} (h : waitOf tk (spGo ts f way) 0 ≠ 0) : 0 < waitOf tk (spGo ts f way) 0 ∧ ∀ g, f ≤ g → g < f + waitOf tk (spGo ts f way) 0 → fits ts tk way g = false := by
  obtain ⟨h1, _, h3⟩ := waitOf_spec tk (spGo ts f way) 0
  rcases h3 with h3 | ⟨s, hs, o, ho, hm, h3⟩
  · exact absurd h3 h
  · refine ⟨by omega, fun g hg1 hg2 => ?_⟩
    obtain ⟨m1, m2, m3⟩ := meet_iff.1 hm
    have hs' : (⟨s.a, s.b + (g - f), s.c + (g - f)⟩ : T3) ∈ spGo ts g way := by
      have := spGo_shift ts (g - f) way f
      rw [show f + (g - f) = g by omega] at this
      rw [this]
      exact List.mem_map.2 ⟨s, hs, rfl⟩
    cases hf : fits ts tk way g
    · rfl
    · have := fits_iff.1 hf _ hs' o ho
      have h4 : meet ⟨s.a, s.b + (g - f), s.c + (g - f)⟩ o = true := meet_iff.2 ⟨m1, by dsimp only; omega, by dsimp only; omega⟩
      rw [this] at h4; cases h4
/-- The least tick from f on at which p holds, sought so many ticks long. -/
def seek (p : Int → Bool) : Nat → Int → Int
  | 0, b => b
  | n + 1, b => if p b then b else seek p n (b + 1)
theorem seek_eq {p : Int → Bool} {r : Int} : ∀ {n : Nat} {b : Int}, b ≤ r → r ≤ b + n → p r = true → (∀ c, b ≤ c → c < r → p c = false) → seek p n b = r := by
  intro n
  induction n with
  | zero => intro b h1 h2 _ _; rw [seek]; omega
  | succ n ih =>
    intro b h1 h2 h3 h4
    rw [seek]
    by_cases hb : b = r
    · subst hb; rw [if_pos h3]
    · rw [h4 b (by omega) (by omega)]
      simp only [Bool.false_eq_true, if_false]
      exact ih (by omega) (by omega) h3 fun c hc => h4 c (by omega)
def lastC : List T3 → Int → Int
  | [], f => f
  | o :: os, f => lastC os (max f o.c)
theorem lastC_spec : ∀ (os : List T3) (f : Int), f ≤ lastC os f ∧ (∀ o ∈ os, o.c ≤ lastC os f) ∧ (lastC os f = f ∨ ∃ o ∈ os, lastC os f = o.c) := by
  intro os
  induction os with
  | nil => intro f; exact ⟨Int.le_refl _, fun o ho => (by cases ho), .inl rfl⟩
  | cons o os ih =>
    intro f
    rw [lastC]
    obtain ⟨i1, i2, i3⟩ := ih (max f o.c)
    refine ⟨by omega, fun o' ho => ?_, ?_⟩
    · rcases List.mem_cons.1 ho with rfl | ho
      · omega
      · exact i2 o' ho
    · rcases i3 with h | ⟨o', ho, h⟩
      · by_cases hf : o.c ≤ f
        · left; rw [h]; omega
        · right; exact ⟨o, List.mem_cons_self .., by rw [h]; omega⟩
      · exact .inr ⟨o', List.mem_cons_of_mem _ ho, h⟩
def estOf (ts : List Int) (tk : List T3) (way : List Int) (f : Int) : Int := seek (fits ts tk way) (lastC tk f - f).toNat f
theorem fits_last {ts : List Int} (hts : OkTimes ts) {tk : List T3} {way : List Int} (hw : ∀ t ∈ way, 0 ≤ t ∧ t ≤ (ts.length : Int) - 1) {f : Int} : fits ts tk way (lastC tk f) = true := by
  rw [fits_iff]
  intro s hs o ho
  cases hm : meet s o
  · rfl
  · have h1 := (spGo_ge hts hw s hs).1
    have h2 := (lastC_spec tk f).2.1 o ho
    have h3 := (meet_iff.1 hm).2.1
    omega
theorem est_eq {ts : List Int} {tk : List T3} {way : List Int} {f r : Int} (h1 : f ≤ r) (h2 : r ≤ lastC tk f) (h3 : fits ts tk way r = true) (h4 : ∀ c, f ≤ c → c < r → fits ts tk way c = false) : estOf ts tk way f = r :=
  seek_eq h1 (by omega) h3 h4
theorem seek_spec {p : Int → Bool} : ∀ {n : Nat} {b : Int}, p (b + n) = true → b ≤ seek p n b ∧ seek p n b ≤ b + n ∧ p (seek p n b) = true ∧ ∀ c, b ≤ c → c < seek p n b → p c = false := by
  intro n
  induction n with
  | zero => intro b h; rw [seek]; simp at h; exact ⟨by omega, by omega, h, fun c _ _ => by omega⟩
  | succ n ih =>
    intro b h
    rw [seek]
    cases hb : p b
    · simp only [Bool.false_eq_true, if_false]
      obtain ⟨i1, i2, i3, i4⟩ := ih (b := b + 1) (by rw [show b + 1 + (n : Int) = b + ((n + 1 : Nat) : Int) by omega]; exact h)
      refine ⟨by omega, by omega, i3, fun c h1 h2 => ?_⟩
      by_cases hc : c = b
      · rw [hc]; exact hb
      · exact i4 c (by omega) h2
    · simp only [if_true]
      exact ⟨by omega, by omega, hb, fun c _ _ => by omega⟩
theorem est_spec {ts : List Int} (hts : OkTimes ts) {tk : List T3} {way : List Int} (hw : ∀ t ∈ way, 0 ≤ t ∧ t ≤ (ts.length : Int) - 1) (f : Int) : f ≤ estOf ts tk way f ∧ estOf ts tk way f ≤ lastC tk f ∧ fits ts tk way (estOf ts tk way f) = true ∧ ∀ c, f ≤ c → c < estOf ts tk way f → fits ts tk way c = false := by
  have hl := (lastC_spec tk f).1
  obtain ⟨i1, i2, i3, i4⟩ := seek_spec (p := fits ts tk way) (n := (lastC tk f - f).toNat) (b := f) (by rw [show f + (((lastC tk f - f).toNat : Nat) : Int) = lastC tk f by omega]; exact fits_last hts hw)
  exact ⟨i1, by unfold estOf; omega, i3, i4⟩
/-- The ticks at which a run leaves a span's end in the same tube. -/
def candJ (ts : List Int) (o : T3) : Int → List Int → List Int
  | _, [] => []
  | bf, t :: r => if t = o.a then (o.c - bf) :: candJ ts o (bf + tmOf ts t) r else candJ ts o (bf + tmOf ts t) r
theorem cand_mem {ts : List Int} {o : T3} : ∀ {way : List Int} {g bf : Int} {s : T3}, s ∈ spGo ts (g + bf) way → s.a = o.a → s.b = o.c → g ∈ candJ ts o bf way := by
  intro way
  induction way with
  | nil => intro g bf s hs; cases hs
  | cons t r ih =>
    intro g bf s hs h1 h2
    rw [spGo] at hs
    rw [candJ]
    rcases List.mem_cons.1 hs with rfl | hs
    · dsimp only at h1 h2
      rw [if_pos h1]
      exact List.mem_cons.2 (.inl (by omega))
    · rw [show g + bf + tmOf ts t = g + (bf + tmOf ts t) by omega] at hs
      split
      · exact List.mem_cons_of_mem _ (ih hs h1 h2)
      · exact ih hs h1 h2
def stepB (p : Int → Bool) (f best c : Int) : Int := if f ≤ c ∧ (best < 0 ∨ c < best) ∧ p c = true then c else best
def foldB (p : Int → Bool) (f : Int) : List Int → Int → Int
  | [], b => b
  | c :: cs, b => foldB p f cs (stepB p f b c)
theorem foldB_append (p : Int → Bool) (f : Int) : ∀ (us vs : List Int) (b : Int), foldB p f (us ++ vs) b = foldB p f vs (foldB p f us b) := by
  intro us
  induction us with
  | nil => intro vs b; rfl
  | cons c us ih => intro vs b; rw [List.cons_append, foldB, foldB, ih]
theorem foldB_spec {p : Int → Bool} {f : Int} (hf : 0 ≤ f) : ∀ (cs : List Int) (b : Int), (b = -1 ∨ (f ≤ b ∧ p b = true)) → (foldB p f cs b = -1 ∨ (f ≤ foldB p f cs b ∧ p (foldB p f cs b) = true)) ∧ (0 ≤ b → 0 ≤ foldB p f cs b ∧ foldB p f cs b ≤ b) ∧ ∀ c ∈ cs, f ≤ c → p c = true → 0 ≤ foldB p f cs b ∧ foldB p f cs b ≤ c := by
  intro cs
  induction cs with
  | nil => intro b h; exact ⟨h, fun h => ⟨h, Int.le_refl _⟩, fun c hc => (by cases hc)⟩
  | cons c cs ih =>
    intro b h
    rw [foldB]
    have hs : stepB p f b c = -1 ∨ (f ≤ stepB p f b c ∧ p (stepB p f b c) = true) := by
      unfold stepB; split
      · rename_i hh; exact .inr ⟨hh.1, hh.2.2⟩
      · exact h
    obtain ⟨i1, i2, i3⟩ := ih _ hs
    have hle : 0 ≤ b → 0 ≤ stepB p f b c ∧ stepB p f b c ≤ b := fun hb => by
      unfold stepB; split
      · omega
      · omega
    refine ⟨i1, fun hb => ?_, fun c' hc h1 h2 => ?_⟩
    · have h1 := hle hb; have h2 := i2 h1.1; omega
    · rcases List.mem_cons.1 hc with rfl | hc
      · have h3 : 0 ≤ stepB p f b c' ∧ stepB p f b c' ≤ c' := by
          unfold stepB
          by_cases hb : b < 0 ∨ c' < b
          · rw [if_pos ⟨h1, hb, h2⟩]; omega
          · rw [if_neg fun k => hb k.2.1]; omega
        have := i2 h3.1; omega
      · exact i3 c' hc h1 h2
/-- The least of the ticks that the reference tries is the earliest start. -/
theorem best_est {ts : List Int} (hts : OkTimes ts) {tk : List T3} {way : List Int} (hw : ∀ t ∈ way, 0 ≤ t ∧ t ≤ (ts.length : Int) - 1) {f : Int} (hf : 0 ≤ f) (hn : fits ts tk way f = false) : foldB (fits ts tk way) f (tk.flatMap fun o => candJ ts o 0 way) (-1) = estOf ts tk way f := by
  obtain ⟨e1, e2, e3, e4⟩ := est_spec (tk := tk) hts hw f
  generalize hr : estOf ts tk way f = r at *
  have hfr : f < r := by
    by_cases h : r = f
    · rw [h, hn] at e3; cases e3
    · omega
  have hp := e4 (r - 1) (by omega) (by omega)
  have hmem : r ∈ tk.flatMap fun o => candJ ts o 0 way := by
    have hex : ∃ s ∈ spGo ts (r - 1) way, ∃ o ∈ tk, meet s o = true := by
      refine Classical.byContradiction fun hne => ?_
      have : fits ts tk way (r - 1) = true := fits_iff.2 fun s hs o ho => by
        cases hm : meet s o
        · rfl
        · exact absurd ⟨s, hs, o, ho, hm⟩ hne
      rw [hp] at this; cases this
    obtain ⟨s, hs, o, ho, hm⟩ := hex
    obtain ⟨m1, m2, m3⟩ := meet_iff.1 hm
    have hs' : (⟨s.a, s.b + 1, s.c + 1⟩ : T3) ∈ spGo ts r way := by
      have := spGo_shift ts 1 way (r - 1)
      rw [show r - 1 + 1 = r by omega] at this
      rw [this]
      exact List.mem_map.2 ⟨s, hs, rfl⟩
    have hnm := fits_iff.1 e3 _ hs' o ho
    have hsb : s.b + 1 = o.c := by
      refine Classical.byContradiction fun hne => ?_
      have : meet ⟨s.a, s.b + 1, s.c + 1⟩ o = true := meet_iff.2 ⟨m1, by dsimp only; omega, by dsimp only; omega⟩
      rw [hnm] at this; cases this
    exact List.mem_flatMap.2 ⟨o, ho, cand_mem (s := ⟨s.a, s.b + 1, s.c + 1⟩) (by rw [Int.add_zero]; exact hs') m1 hsb⟩
  obtain ⟨i1, _, i3⟩ := foldB_spec (p := fits ts tk way) hf (tk.flatMap fun o => candJ ts o 0 way) (-1) (.inl rfl)
  have h3 := i3 r hmem (by omega) e3
  rcases i1 with h | ⟨h1, h2⟩
  · omega
  · refine Classical.byContradiction fun hne => ?_
    have := e4 _ h1 (by omega)
    rw [this] at h2; cases h2
end Go.Proofs.Ytlkccijlbeibjaa
namespace Go.Proofs.Ytlkccijlbeibjaa
open Go.RowKit

def okTimes (ts : List Int) : Bool := inB 1 24 ts.length && ts.all (inB 1 1000)
def okWayB (ts way : List Int) : Bool := inB 1 12 way.length && way.all (inB 0 ((ts.length : Int) - 1))
def okWishB (ts : List Int) (e : TN) : Bool := okWayB ts e.way && (inB 0 10000 e.p && inB 0 10000 e.q)
def okRunB (ts : List Int) (e : TN) : Bool := okWayB ts e.way && inB 0 100000 e.p
def vWishes (ts : List Int) (l : List TN) : Bool := okTimes ts && (decide (l.length ≤ 6) && l.all (okWishB ts))
def vRuns (ts : List Int) (l : List TN) : Bool := okTimes ts && (decide (l.length ≤ 12) && l.all (okRunB ts))
theorem okTimes_iff {ts : List Int} : okTimes ts = true ↔ OkTimes ts := by
  unfold okTimes OkTimes
  rw [Bool.and_eq_true, inB_iff, List.all_eq_true]
  constructor
  · intro h; exact ⟨⟨by omega, by omega⟩, fun z hz => inB_iff.1 (h.2 z hz)⟩
  · intro h; exact ⟨⟨by omega, by omega⟩, fun z hz => inB_iff.2 (h.2 z hz)⟩
theorem okWay_iff {ts way : List Int} : okWayB ts way = true ↔ OkWay ts way := by
  unfold okWayB OkWay
  rw [Bool.and_eq_true, inB_iff, List.all_eq_true]
  constructor
  · intro h; exact ⟨⟨by omega, by omega⟩, fun z hz => inB_iff.1 (h.2 z hz)⟩
  · intro h; exact ⟨⟨by omega, by omega⟩, fun z hz => inB_iff.2 (h.2 z hz)⟩
def OkWish (ts : List Int) (e : TN) : Prop := OkWay ts e.way ∧ (0 ≤ e.p ∧ e.p ≤ 10000) ∧ (0 ≤ e.q ∧ e.q ≤ 10000)
def OkRun (ts : List Int) (e : TN) : Prop := OkWay ts e.way ∧ (0 ≤ e.p ∧ e.p ≤ 100000)
theorem vWishes_iff {ts : List Int} {l : List TN} : vWishes ts l = true ↔ OkTimes ts ∧ l.length ≤ 6 ∧ ∀ e ∈ l, OkWish ts e := by
  unfold vWishes OkWish okWishB
  simp only [Bool.and_eq_true, okTimes_iff, decide_eq_true_eq, List.all_eq_true, okWay_iff, inB_iff]
theorem vRuns_iff {ts : List Int} {l : List TN} : vRuns ts l = true ↔ OkTimes ts ∧ l.length ≤ 12 ∧ ∀ e ∈ l, OkRun ts e := by
  unfold vRuns OkRun okRunB
  simp only [Bool.and_eq_true, okTimes_iff, decide_eq_true_eq, List.all_eq_true, okWay_iff, inB_iff]
end Go.Proofs.Ytlkccijlbeibjaa
namespace Go.Proofs.Ytlkccijlbeibjaa
open Go.RowKit

def hasI (xs : List Int) (v : Int) : Bool := xs.any fun z => decide (z = v)
def ordGo (n : Int) : List Int → List Int → Bool
  | _, [] => true
  | pre, k :: r => inB 0 (n - 1) k && (!hasI pre k && ordGo n (pre ++ [k]) r)
def ordOk (n : Nat) (order : List Int) : Bool := ordGo n [] order && decide (order.length = n)
def codeO (ts : List Int) (l : List TN) (order : List Int) : Int := if vWishes ts l = true then (if ordOk l.length order = true then 0 else 2) else 1
theorem ordGo_drop {n : Int} {xs : List Int} {k : Nat} {z : Int} (h : xs[k]? = some z) : ordGo n (xs.take k) (xs.drop k) = (inB 0 (n - 1) z && (!hasI (xs.take k) z && ordGo n (xs.take (k + 1)) (xs.drop (k + 1)))) := by
  obtain ⟨hl, he⟩ := List.getElem?_eq_some_iff.1 h
  rw [drop_cons h, ordGo, List.take_succ_eq_append_getElem hl, he]
theorem cap_of {e : TypeId} {s : Nat} {w : World} {lo hi : Nat} {v : Value} {n : Nat} {xs : List Value} (h : OwnV e s w lo hi v n xs) : ∀ A m c, v = .slice A m c → m ≤ c := by
  intro A m c hv
  rcases h.2.2 with ⟨h0, _⟩ | ⟨ho, _⟩
  · obtain ⟨A', c', he⟩ := h.1
    rw [hv] at he
    simp only [Value.slice.injEq] at he
    omega
  · obtain ⟨A', c', he, hle, _⟩ := own_shape ho
    rw [hv] at he
    simp only [Value.slice.injEq] at he
    omega
theorem RdI.take {w : World} {B : Nat} {A : Option Addr} {xs : List Int} (h : RdI w B A xs) (k : Nat) : RdI w B A (xs.take k) := fun hn => by
  obtain ⟨b, o, hA, hb, hc⟩ := h (by intro e; apply hn; rw [List.map_eq_nil_iff] at e; rw [e]; simp)
  refine ⟨b, o, hA, hb, fun j u hu => hc j u ?_⟩
  rw [List.getElem?_map] at hu ⊢
  by_cases hj : j < k
  · rw [List.getElem?_take_of_lt hj] at hu; exact hu
  · rw [List.getElem?_eq_none (by rw [List.length_take]; omega)] at hu; cases hu
set_option maxRecDepth 100000 in
set_option maxHeartbeats 4000000 in
theorem l00Has_any (xs : List Int) (v : Int) (A : Option Addr) (c : Nat) (w : World) (hx : xs.length ≤ 1048576) (h1 : RdI w w.heap.size A xs) :
    Calls Try.prog 95 #[.slice A xs.length c, .int .i64 v] w fun e w' => e = .returned (.bool (hasI xs v)) ∧ w = w' := by
  have HX := hide h1; clear h1
  go_enter Try.func95, Try.ntmps95
  go_wp2_with fail
  go_loopg [5] xs.length (fun g i wr => ∃ k : Nat, k ≤ xs.length ∧ Hid (g = xs.length - k) ∧ i = .int .i64 k ∧ Hid (hasI xs v = hasI (xs.drop k) v) ∧ w = wr)
  case atStart => exact ⟨0, by omega, by simp [Hid], rfl, by simp [Hid], rfl⟩
  case round =>
    obtain ⟨k, hk, hg, rfl, HS, rfl⟩ := hrel
    by_cases hlt : k < xs.length
    · obtain ⟨b1, o1, z1, rfl, _, hz1, hca⟩ := HX.out.at_ hlt
      have HS' := HS.out
      rw [drop_cons hz1, hasI, hasI, List.any_cons] at HS'
      have HQ : Hid (hasI xs v = (decide (z1 = v) || hasI (xs.drop (k + 1)) v)) := HS'
      clear HS' HS hz1
      by_cases he : z1 = v
      · have hB : (z1 == v) = true := by simp [he]
        have HN := hide (show hasI xs v = true by rw [HQ.out, decide_eq_true he]; rfl)
        clear he
        go_wp2_with fail
        go_ret
        exact ⟨ret_b HN.out.symm, rfl⟩
      · have hB : (z1 == v) = false := by simp [he]
        have HN := hide (show hasI xs v = hasI (xs.drop (k + 1)) v by rw [HQ.out, decide_eq_false he]; rfl)
        clear he
        go_wp2_with fail
        go_roundg (xs.length - (k + 1))
        case measure => have := hg.out; omega
        case rel => exact ⟨k + 1, by omega, rfl, by go_num, HN, rfl⟩
    · have HN := hide (HS.out.trans (by rw [List.drop_eq_nil_of_le (by omega)]; rfl : _ = false))
      go_wp2_with fail
      go_ret
      exact ⟨ret_b HN.out.symm, rfl⟩
set_option maxRecDepth 100000 in
set_option maxHeartbeats 4000000 in
theorem indexI_any (xs : List Int) (v : Int) (A : Option Addr) (c : Nat) (w : World) (hx : xs.length ≤ 1048576) (h1 : RdI w w.heap.size A xs) :
    Calls Try.prog 168 #[.slice A xs.length c, .int .i64 v] w fun e w' => e = .returned (.int .i64 (firstI (fun z => decide (z = v)) xs 0)) ∧ Below w.heap.size w w' := by
  have HX := hide h1; clear h1
  go_enter Try.func168, Try.ntmps168
  go_wp2_with fail
  go_loopg [8] xs.length (fun g i wr => ∃ k : Nat, k ≤ xs.length ∧ Hid (g = xs.length - k) ∧ i = .int .i64 k ∧ Hid (firstI (fun z => decide (z = v)) xs 0 = firstI (fun z => decide (z = v)) (xs.drop k) k) ∧ Below w.heap.size w wr)
  case atStart => exact ⟨0, by omega, by simp [Hid], rfl, by simp [Hid], Below.refl _ _⟩
  case round =>
    obtain ⟨k, hk, hg, rfl, HS, hb⟩ := hrel
    by_cases hlt : k < xs.length
    · obtain ⟨b1, o1, z1, rfl, _, hz1, hca⟩ := (HX.out.below hb).at_ hlt
      have HS' := HS.out
      rw [drop_cons hz1, firstI] at HS'
      have HQ := hide HS'
      clear HS' HS hz1
      by_cases he : z1 = v
      · have hB : (v == z1) = true := by simp [he]
        have HN := hide (show firstI (fun z => decide (z = v)) xs 0 = k by rw [HQ.out, if_pos (decide_eq_true he)])
        clear he
        go_wp2_with fail
        go_ret
        exact ⟨ret_i HN.out.symm, hb⟩
      · have hB : (v == z1) = false := by simp; exact fun e => he e.symm
        have HN := hide (show firstI (fun z => decide (z = v)) xs 0 = firstI (fun z => decide (z = v)) (xs.drop (k + 1)) (k + 1) by rw [HQ.out, if_neg (by simp [he])])
        clear he
        go_wp2_with fail
        go_roundg (xs.length - (k + 1))
        case measure => have := hg.out; omega
        case rel => exact ⟨k + 1, by omega, rfl, by go_num, HN, hb⟩
    · have HN := hide (HS.out.trans (by rw [List.drop_eq_nil_of_le (by omega), firstI] : _ = (-1 : Int)))
      go_wp2_with fail
      go_ret
      exact ⟨ret_i HN.out.symm, hb⟩
set_option maxRecDepth 100000 in
set_option maxHeartbeats 4000000 in
theorem containsI_any (xs : List Int) (v : Int) (A : Option Addr) (c : Nat) (w : World) (hx : xs.length ≤ 1048576) (h1 : RdI w w.heap.size A xs) :
    Calls Try.prog 146 #[.slice A xs.length c, .int .i64 v] w fun e w' => e = .returned (.bool (hasI xs v)) ∧ Below w.heap.size w w' := by
  have HC := hide (indexI_any xs v A c w hx h1)
  have HE := hide (firstI_ge (fun z => decide (z = v)) xs 0)
  clear h1
  go_enter Try.func146, Try.ntmps146
  go_wp2_with (go_at_call 168; refine (HC.out).mono ?_; rintro e w1 ⟨rfl, hb1⟩)
  go_ret
  exact ⟨ret_b HE.out, hb1⟩
end Go.Proofs.Ytlkccijlbeibjaa
