/-
  Zones: the valid ones, by contract.
-/
import Derived.Test.YtofjnmeblmbnmaaDoorQLevels2
import Derived.Deep.RegionHeld3
namespace Go.Proofs.YtofjnmeblmbnmaaDoor
open Go.RowKit

set_option maxRecDepth 100000 in
set_option maxHeartbeats 4000000 in
theorem S_ValidZoned (x : TZ) (v : Value) (w : World) (hs : Small_Zoned x) (_ : Fit_Zoned x) (h : R_Zoned w w.heap.size v x) :
    Calls Tryd.prog 41 #[v] w fun e w' => e = .returned (.bool (vZoned x)) ∧ Below w.heap.size w w' := by
  obtain ⟨A, c, A2, c2, rfl, h1, h2⟩ := h
  have b0 : Below w.heap.size w (w.alloc (.cells #[.int .i64 x.z, .slice A x.of.length c, .slice A2 x.ch.length c2] 47)) := (by repeat (first | exact Below.refl _ _ | assumption | (refine Below.alloc ?_ (by simp <;> omega) _) | refine Below.drew ?_ | refine bdn ?_ _))
  have HC := hide (l09Ok_any x A c A2 c2 w.heap.size _ hs (by simp [go_sem]) (by simp [go_sem]) (by simp [go_sem]) ((h1.below b0).more b0.size) ((h2.below b0).more b0.size))
  clear h1 h2
  go_enter Tryd.func41, Tryd.ntmps41
  go_wp2_with (go_at_call 88; refine (HC.out).mono ?_; rintro e w1 ⟨rfl, hb1⟩)
  go_ret
  exact ⟨rfl, b0.trans (hb1.mono b0.size)⟩
set_option maxRecDepth 100000 in
set_option maxHeartbeats 4000000 in
theorem P_ValidZoned (x : TZ) (v : Value) (w : World) (hs : Small_Zoned x) (_ : Fit_Zoned x) (h : R_Zoned w w.heap.size v x) :
    Calls Tryd.prog 40 #[v] w fun e w' => e = .returned (.bool (vZoned x)) ∧ Below w.heap.size w w' := by
  obtain ⟨A, c, A2, c2, rfl, h1, h2⟩ := h
  obtain ⟨hs1, hs2⟩ := hs
  have HX := hide h1; have HM := hide h2
  clear h1 h2
  have b0 : Below w.heap.size w (w.alloc (.cells #[.int .i64 x.z, .slice A x.of.length c, .slice A2 x.ch.length c2] 47)) := (by repeat (first | exact Below.refl _ _ | assumption | (refine Below.alloc ?_ (by simp <;> omega) _) | refine Below.drew ?_ | refine bdn ?_ _))
  by_cases g1 : 1 ≤ x.z ∧ x.z ≤ 8
  case neg =>
    have g1' : x.z < 1 ∨ 8 < x.z := by omega
    have HR := hide (show vZoned x = false by simp [vZoned, inB_f g1'])
    clear g1
    go_enter Tryd.func40, Tryd.ntmps40
    go_wp2_with (go_at_call 60; first | (refine (within_t _ _ _ _ (by omega)).mono ?_; rintro e w' ⟨rfl, rfl⟩) | (refine (within_f _ _ _ _ (by omega)).mono ?_; rintro e w' ⟨rfl, rfl⟩))
    go_ret
    exact ⟨ret_b HR.out.symm, (by repeat (first | exact Below.refl _ _ | assumption | (refine Below.alloc ?_ (by simp <;> omega) _) | refine Below.drew ?_ | refine bdn ?_ _))⟩
  obtain ⟨g1a, g1b⟩ := g1
  by_cases g2 : x.of.length ≤ 24
  case neg =>
    have HR := hide (show vZoned x = false by simp [vZoned, g2])
    go_enter Tryd.func40, Tryd.ntmps40
    go_wp2_with (go_at_call 60; first | (refine (within_t _ _ _ _ (by omega)).mono ?_; rintro e w' ⟨rfl, rfl⟩) | (refine (within_f _ _ _ _ (by omega)).mono ?_; rintro e w' ⟨rfl, rfl⟩))
    go_ret
    exact ⟨ret_b HR.out.symm, (by repeat (first | exact Below.refl _ _ | assumption | (refine Below.alloc ?_ (by simp <;> omega) _) | refine Below.drew ?_ | refine bdn ?_ _))⟩
  have HO := hide (outside_any x.of 0 (x.z - 1) A c _ (by omega) ((HX.out.below b0).more b0.size))
  rw [any_not_all] at HO
  have z0 : w.heap.size + 1 ≤ (w.alloc (.cells #[.int .i64 x.z, .slice A x.of.length c, .slice A2 x.ch.length c2] 47)).heap.size := by simp
  have X0 := hide (BoxAt.new w #[.int .i64 x.z, .slice A x.of.length c, .slice A2 x.ch.length c2] 47)
  cases hof : x.of.all (inB 0 (x.z - 1))
  · have HR := hide (show vZoned x = false by simp [vZoned, hof])
    rw [hof] at HO
    clear hof
    go_enter Tryd.func40, Tryd.ntmps40
    go_wp2_with (first | (go_at_call 60; first | (refine (within_t _ _ _ _ (by omega)).mono ?_; rintro e w' ⟨rfl, rfl⟩) | (refine (within_f _ _ _ _ (by omega)).mono ?_; rintro e w' ⟨rfl, rfl⟩)) | (go_at_call 94; refine (HO.out).mono ?_; rintro e w1 ⟨rfl, hb1⟩))
    go_ret
    exact ⟨ret_b HR.out.symm, b0.trans (hb1.mono b0.size)⟩
  rw [hof] at HO
  by_cases g3 : x.ch.length ≤ 60
  case neg =>
    have HR := hide (show vZoned x = false by simp [vZoned, g3])
    clear hof
    go_enter Tryd.func40, Tryd.ntmps40
    go_wp2_with (first | (go_at_call 60; first | (refine (within_t _ _ _ _ (by omega)).mono ?_; rintro e w' ⟨rfl, rfl⟩) | (refine (within_f _ _ _ _ (by omega)).mono ?_; rintro e w' ⟨rfl, rfl⟩)) | (go_at_call 94; refine (HO.out).mono ?_; rintro e w1 ⟨rfl, hb1⟩; have X1 := X0.out.below hb1 z0; have kk := X1.cell 2; simp only [List.getElem?_cons_succ, List.getElem?_cons_zero] at kk))
    go_ret
    exact ⟨ret_b HR.out.symm, b0.trans (hb1.mono b0.size)⟩
  have HV := hide (show vZoned x = chOk x.z none x.ch by unfold vZoned; rw [inB_t ⟨g1a, g1b⟩, decide_eq_true g2, decide_eq_true g3, hof]; rfl)
  clear hof
  go_enter Tryd.func40, Tryd.ntmps40
  go_wp2_with (first | (go_at_call 60; first | (refine (within_t _ _ _ _ (by omega)).mono ?_; rintro e w' ⟨rfl, rfl⟩) | (refine (within_f _ _ _ _ (by omega)).mono ?_; rintro e w' ⟨rfl, rfl⟩)) | (go_at_call 94; refine (HO.out).mono ?_; rintro e w1 ⟨rfl, hb1⟩; have X1 := hide (X0.out.below hb1 z0); have kk := X1.out.cell 2; simp only [List.getElem?_cons_succ, List.getElem?_cons_zero] at kk))
  clear kk
  have hb2 := b0.trans (hb1.mono b0.size)
  have hn0 : -1000000 ≤ x.z := by omega
  have hn1 : x.z ≤ 1000000 := by omega
  go_loopg [32] x.ch.length (fun g i wr => ∃ k : Nat, k ≤ x.ch.length ∧ Hid (g = x.ch.length - k) ∧ i = .int .i64 k ∧ Hid (chOk x.z none x.ch = chOk x.z (prevOf x.ch k) (x.ch.drop k)) ∧ Hid (BoxAt wr w.heap.size #[.int .i64 x.z, .slice A x.of.length c, .slice A2 x.ch.length c2] 47) ∧ Below w.heap.size w wr)
  case atStart => exact ⟨0, by omega, by simp [Hid], rfl, by simp [Hid, prevOf], X1, hb2⟩
  case round =>
    obtain ⟨k, hk, hg, rfl, HS, HBX, hb⟩ := hrel
    clear hb1 hb2 X1 b0 X0 z0
    have hlb := HBX.out.lt
    by_cases hlt : k < x.ch.length
    · obtain ⟨b1, o1, z1, rfl, hb1, hz1, hca, hcb, hcc⟩ := (HM.out.below hb).at_ hlt
      have HS' := HS.out; rw [chOk_step hz1] at HS'
      have HQ := hide HS'; clear HS' hz1 HS
      have X0 := hide (HBX.out.alloc (.cells #[.int .i64 z1.a, .int .i64 z1.b, .int .i64 z1.c] 41))
      have b0 : Below w.heap.size w (wr.alloc (.cells #[.int .i64 z1.a, .int .i64 z1.b, .int .i64 z1.c] 41)) := hb.alloc hb.size _
      have hsw : wr.heap.size + 1 ≤ (wr.alloc (.cells #[.int .i64 z1.a, .int .i64 z1.b, .int .i64 z1.c] 41)).heap.size := by simp
      have m0 : (wr.alloc (.cells #[.int .i64 z1.a, .int .i64 z1.b, .int .i64 z1.c] 41)).cell? ⟨wr.heap.size, 0, none⟩ = some (.int .i64 z1.a) := by simp [go_sem]
      have m1 : (wr.alloc (.cells #[.int .i64 z1.a, .int .i64 z1.b, .int .i64 z1.c] 41)).cell? ⟨wr.heap.size, 1, none⟩ = some (.int .i64 z1.b) := by simp [go_sem]
      have m2 : (wr.alloc (.cells #[.int .i64 z1.a, .int .i64 z1.b, .int .i64 z1.c] 41)).cell? ⟨wr.heap.size, 2, none⟩ = some (.int .i64 z1.c) := by simp [go_sem]
      have HX2 := hide (HM.out.below b0)
      go_wp2_with fail
      generalize (wr.alloc (.cells #[.int .i64 z1.a, .int .i64 z1.b, .int .i64 z1.c] 41)) = wa at *
      have e0 := X0.out.cell 0
      have e1 := X0.out.cell 2
      simp only [List.getElem?_cons_succ, List.getElem?_cons_zero] at e0 e1
      have e0' : wa.drew.cell? ⟨w.heap.size, 0, none⟩ = _ := e0
      have e1' : wa.drew.cell? ⟨w.heap.size, 2, none⟩ = _ := e1
      have m0' : wa.drew.cell? ⟨wr.heap.size, 0, none⟩ = _ := m0
      have m1' : wa.drew.cell? ⟨wr.heap.size, 1, none⟩ = _ := m1
      have m2' : wa.drew.cell? ⟨wr.heap.size, 2, none⟩ = _ := m2
      have bd : Below w.heap.size w wa.drew := b0.drew
      have hsd : wr.heap.size + 1 ≤ wa.drew.heap.size := hsw
      clear hca hcb hcc
      cases hok : okC x.z z1
      · rw [hok] at HQ
        have HL := hide (isChange_any x.z z1 wa.drew hn0 hn1)
        rw [hok] at HL
        clear hok
        refine wp_region_held_drew (S := fun W => W.cell? ⟨w.heap.size, 0, none⟩ = some (.int .i64 x.z) ∧ W.cell? ⟨w.heap.size, 2, none⟩ = some (.slice (some ⟨b1, o1, none⟩) x.ch.length c2) ∧ W.cell? ⟨wr.heap.size, 0, none⟩ = some (.int .i64 z1.a) ∧ W.cell? ⟨wr.heap.size, 1, none⟩ = some (.int .i64 z1.b) ∧ W.cell? ⟨wr.heap.size, 2, none⟩ = some (.int .i64 z1.c)) (by kernel_rfl) (⟨e0', e1', m0', m1', m2'⟩) (fun hHeld => ?_)
        refine wpAnyH_take (i := 0) (v := ?_) rfl (by kernel_rfl) (by kernel_rfl) (by kernel_rfl) (fun _ _ _ h => h) (Or.inl ⟨by rfl, ?_⟩) (by assumption) ?_
        rotate_left 1
        · (intro w hSw; (try dsimp only at hSw); go_simp; try with_reducible rfl)
        try simp only [Act.put, List.getElem_toArray, List.getElem_cons_succ, List.getElem_cons_zero, List.setIfInBounds_toArray, List.set_cons_zero, List.set_cons_succ]
        refine wpAnyH_take (i := 1) (v := ?_) rfl (by kernel_rfl) (by kernel_rfl) (by kernel_rfl) (fun _ _ _ h => h) (Or.inl ⟨by rfl, ?_⟩) (by assumption) ?_
        rotate_left 1
        · (intro w hSw; (try dsimp only at hSw); go_simp; try with_reducible rfl)
        try simp only [Act.put, List.getElem_toArray, List.getElem_cons_succ, List.getElem_cons_zero, List.setIfInBounds_toArray, List.set_cons_zero, List.set_cons_succ]
        refine wpAnyH_take (i := 2) (v := ?_) rfl (by kernel_rfl) (by kernel_rfl) (by kernel_rfl) (fun _ _ _ h => h) (Or.inl ⟨by rfl, ?_⟩) (by assumption) ?_
        rotate_left 1
        · (intro w hSw; (try dsimp only at hSw); go_simp; try with_reducible rfl)
        try simp only [Act.put, List.getElem_toArray, List.getElem_cons_succ, List.getElem_cons_zero, List.setIfInBounds_toArray, List.set_cons_zero, List.set_cons_succ]
        refine wpAnyH_ready (rs := [3]) (by kernel_rfl) (by simp) ?_
        refine AllReadyH.cons rfl (fun K hK => ?_) AllReadyH.nil
        try simp only [Act.put, List.getElem_toArray, List.getElem_cons_succ, List.getElem_cons_zero, List.setIfInBounds_toArray, List.set_cons_zero, List.set_cons_succ]
        go_simp
        go_at_call 68
        refine HL.out.mono ?_
        rintro e w2 ⟨rfl, s2⟩
        have f0 := (s2.cell (p := ⟨w.heap.size, 0, none⟩) (by dsimp only; omega)).trans e0'
        have f1 := (s2.cell (p := ⟨w.heap.size, 2, none⟩) (by dsimp only; omega)).trans e1'
        have f2 := (s2.cell (p := ⟨wr.heap.size, 0, none⟩) (by dsimp only; omega)).trans m0'
        have f3 := (s2.cell (p := ⟨wr.heap.size, 1, none⟩) (by dsimp only; omega)).trans m1'
        have f4 := (s2.cell (p := ⟨wr.heap.size, 2, none⟩) (by dsimp only; omega)).trans m2'
        dsimp only
        refine hK.out _ _ (⟨f0, f1, f2, f3, f4⟩) (fun hHeld => ?_)
        clear hK K
        try simp only [Act.put, List.getElem_toArray, List.getElem_cons_succ, List.getElem_cons_zero, List.setIfInBounds_toArray, List.set_cons_zero, List.set_cons_succ]
        refine wpAnyH_take (i := 4) (v := ?_) rfl (by kernel_rfl) (by kernel_rfl) (by kernel_rfl) (fun _ _ _ h => h) (Or.inl ⟨by rfl, ?_⟩) (by assumption) ?_
        rotate_left 1
        · (intro w hSw; (try dsimp only at hSw); go_simp; try with_reducible rfl)
        try simp only [Act.put, List.getElem_toArray, List.getElem_cons_succ, List.getElem_cons_zero, List.setIfInBounds_toArray, List.set_cons_zero, List.set_cons_succ]
        refine wpAnyH_take (i := 5) (v := ?_) rfl (by kernel_rfl) (by kernel_rfl) (by kernel_rfl) (fun _ _ _ h => h) (Or.inl ⟨by rfl, ?_⟩) (by assumption) ?_
        rotate_left 1
        · (intro w hSw; (try dsimp only at hSw); go_simp; try with_reducible rfl)
        try simp only [Act.put, List.getElem_toArray, List.getElem_cons_succ, List.getElem_cons_zero, List.setIfInBounds_toArray, List.set_cons_zero, List.set_cons_succ]
        refine wpAnyH_take (i := 6) (v := undef) rfl (by kernel_rfl) (by kernel_rfl) (by kernel_rfl) (fun _ _ _ h => h) (Or.inr ⟨by rfl, rfl⟩) (by assumption) ?_
        try simp only [Act.put, List.getElem_toArray, List.getElem_cons_succ, List.getElem_cons_zero, List.setIfInBounds_toArray, List.set_cons_zero, List.set_cons_succ]
        refine wpAnyH_take (i := 7) (v := undef) rfl (by kernel_rfl) (by kernel_rfl) (by kernel_rfl) (fun _ _ _ h => h) (Or.inr ⟨by rfl, rfl⟩) (by assumption) ?_
        try simp only [Act.put, List.getElem_toArray, List.getElem_cons_succ, List.getElem_cons_zero, List.setIfInBounds_toArray, List.set_cons_zero, List.set_cons_succ]
        refine wpAnyH_take (i := 8) (v := undef) rfl (by kernel_rfl) (by kernel_rfl) (by kernel_rfl) (fun _ _ _ h => h) (Or.inr ⟨by rfl, rfl⟩) (by assumption) ?_
        try simp only [Act.put, List.getElem_toArray, List.getElem_cons_succ, List.getElem_cons_zero, List.setIfInBounds_toArray, List.set_cons_zero, List.set_cons_succ]
        refine wpAnyH_take (i := 9) (v := undef) rfl (by kernel_rfl) (by kernel_rfl) (by kernel_rfl) (fun _ _ _ h => h) (Or.inr ⟨by rfl, rfl⟩) (by assumption) ?_
        try simp only [Act.put, List.getElem_toArray, List.getElem_cons_succ, List.getElem_cons_zero, List.setIfInBounds_toArray, List.set_cons_zero, List.set_cons_succ]
        refine wpAnyH_take (i := 10) (v := undef) rfl (by kernel_rfl) (by kernel_rfl) (by kernel_rfl) (fun _ _ _ h => h) (Or.inr ⟨by rfl, rfl⟩) (by assumption) ?_
        try simp only [Act.put, List.getElem_toArray, List.getElem_cons_succ, List.getElem_cons_zero, List.setIfInBounds_toArray, List.set_cons_zero, List.set_cons_succ]
        refine wpAnyH_take (i := 11) (v := undef) rfl (by kernel_rfl) (by kernel_rfl) (by kernel_rfl) (fun _ _ _ h => h) (Or.inr ⟨by rfl, rfl⟩) (by assumption) ?_
        try simp only [Act.put, List.getElem_toArray, List.getElem_cons_succ, List.getElem_cons_zero, List.setIfInBounds_toArray, List.set_cons_zero, List.set_cons_succ]
        refine wpAnyH_take (i := 12) (v := undef) rfl (by kernel_rfl) (by kernel_rfl) (by kernel_rfl) (fun _ _ _ h => h) (Or.inr ⟨by rfl, rfl⟩) (by assumption) ?_
        try simp only [Act.put, List.getElem_toArray, List.getElem_cons_succ, List.getElem_cons_zero, List.setIfInBounds_toArray, List.set_cons_zero, List.set_cons_succ]
        refine wpAnyH_take (i := 13) (v := undef) rfl (by kernel_rfl) (by kernel_rfl) (by kernel_rfl) (fun _ _ _ h => h) (Or.inr ⟨by rfl, rfl⟩) (by assumption) ?_
        try simp only [Act.put, List.getElem_toArray, List.getElem_cons_succ, List.getElem_cons_zero, List.setIfInBounds_toArray, List.set_cons_zero, List.set_cons_succ]
        refine wpAnyH_take (i := 14) (v := undef) rfl (by kernel_rfl) (by kernel_rfl) (by kernel_rfl) (fun _ _ _ h => h) (Or.inr ⟨by rfl, rfl⟩) (by assumption) ?_
        try simp only [Act.put, List.getElem_toArray, List.getElem_cons_succ, List.getElem_cons_zero, List.setIfInBounds_toArray, List.set_cons_zero, List.set_cons_succ]
        refine wpAnyH_take (i := 15) (v := undef) rfl (by kernel_rfl) (by kernel_rfl) (by kernel_rfl) (fun _ _ _ h => h) (Or.inr ⟨by rfl, rfl⟩) (by assumption) ?_
        try simp only [Act.put, List.getElem_toArray, List.getElem_cons_succ, List.getElem_cons_zero, List.setIfInBounds_toArray, List.set_cons_zero, List.set_cons_succ]
        refine wpAnyH_take (i := 16) (v := undef) rfl (by kernel_rfl) (by kernel_rfl) (by kernel_rfl) (fun _ _ _ h => h) (Or.inr ⟨by rfl, rfl⟩) (by assumption) ?_
        try simp only [Act.put, List.getElem_toArray, List.getElem_cons_succ, List.getElem_cons_zero, List.setIfInBounds_toArray, List.set_cons_zero, List.set_cons_succ]
        refine wpAnyH_take (i := 17) (v := undef) rfl (by kernel_rfl) (by kernel_rfl) (by kernel_rfl) (fun _ _ _ h => h) (Or.inr ⟨by rfl, rfl⟩) (by assumption) ?_
        try simp only [Act.put, List.getElem_toArray, List.getElem_cons_succ, List.getElem_cons_zero, List.setIfInBounds_toArray, List.set_cons_zero, List.set_cons_succ]
        refine wpAnyH_take (i := 18) (v := undef) rfl (by kernel_rfl) (by kernel_rfl) (by kernel_rfl) (fun _ _ _ h => h) (Or.inr ⟨by rfl, rfl⟩) (by assumption) ?_
        try simp only [Act.put, List.getElem_toArray, List.getElem_cons_succ, List.getElem_cons_zero, List.setIfInBounds_toArray, List.set_cons_zero, List.set_cons_succ]
        refine wpAnyH_take (i := 19) (v := ?_) rfl (by kernel_rfl) (by kernel_rfl) (by kernel_rfl) (fun _ _ _ h => h) (Or.inl ⟨by rfl, ?_⟩) (by assumption) ?_
        rotate_left 1
        · (intro w hSw; (try dsimp only at hSw); go_simp; try with_reducible rfl)
        try simp only [Act.put, List.getElem_toArray, List.getElem_cons_succ, List.getElem_cons_zero, List.setIfInBounds_toArray, List.set_cons_zero, List.set_cons_succ]
        refine wpAnyH_done (by kernel_rfl) ?_ _
        go_wp2_with fail
        go_ret
        exact ⟨ret_b (by rw [HV.out, HQ.out]; rfl), bd.trans (s2.mono bd.size)⟩
      · rw [hok] at HQ
        have HL := hide (isChange_any x.z z1 wa.drew hn0 hn1)
        rw [hok] at HL
        clear hok
        cases k with
        | zero =>
          refine wp_region_held_drew (S := fun W => W.cell? ⟨w.heap.size, 0, none⟩ = some (.int .i64 x.z) ∧ W.cell? ⟨w.heap.size, 2, none⟩ = some (.slice (some ⟨b1, o1, none⟩) x.ch.length c2) ∧ W.cell? ⟨wr.heap.size, 0, none⟩ = some (.int .i64 z1.a) ∧ W.cell? ⟨wr.heap.size, 1, none⟩ = some (.int .i64 z1.b) ∧ W.cell? ⟨wr.heap.size, 2, none⟩ = some (.int .i64 z1.c)) (by kernel_rfl) (⟨e0', e1', m0', m1', m2'⟩) (fun hHeld => ?_)
          refine wpAnyH_take (i := 0) (v := ?_) rfl (by kernel_rfl) (by kernel_rfl) (by kernel_rfl) (fun _ _ _ h => h) (Or.inl ⟨by rfl, ?_⟩) (by assumption) ?_
          rotate_left 1
          · (intro w hSw; (try dsimp only at hSw); go_simp; try with_reducible rfl)
          try simp only [Act.put, List.getElem_toArray, List.getElem_cons_succ, List.getElem_cons_zero, List.setIfInBounds_toArray, List.set_cons_zero, List.set_cons_succ]
          refine wpAnyH_take (i := 1) (v := ?_) rfl (by kernel_rfl) (by kernel_rfl) (by kernel_rfl) (fun _ _ _ h => h) (Or.inl ⟨by rfl, ?_⟩) (by assumption) ?_
          rotate_left 1
          · (intro w hSw; (try dsimp only at hSw); go_simp; try with_reducible rfl)
          try simp only [Act.put, List.getElem_toArray, List.getElem_cons_succ, List.getElem_cons_zero, List.setIfInBounds_toArray, List.set_cons_zero, List.set_cons_succ]
          refine wpAnyH_take (i := 2) (v := ?_) rfl (by kernel_rfl) (by kernel_rfl) (by kernel_rfl) (fun _ _ _ h => h) (Or.inl ⟨by rfl, ?_⟩) (by assumption) ?_
          rotate_left 1
          · (intro w hSw; (try dsimp only at hSw); go_simp; try with_reducible rfl)
          try simp only [Act.put, List.getElem_toArray, List.getElem_cons_succ, List.getElem_cons_zero, List.setIfInBounds_toArray, List.set_cons_zero, List.set_cons_succ]
          refine wpAnyH_ready (rs := [3]) (by kernel_rfl) (by simp) ?_
          refine AllReadyH.cons rfl (fun K hK => ?_) AllReadyH.nil
          try simp only [Act.put, List.getElem_toArray, List.getElem_cons_succ, List.getElem_cons_zero, List.setIfInBounds_toArray, List.set_cons_zero, List.set_cons_succ]
          go_simp
          go_at_call 68
          refine HL.out.mono ?_
          rintro e w2 ⟨rfl, s2⟩
          have f0 := (s2.cell (p := ⟨w.heap.size, 0, none⟩) (by dsimp only; omega)).trans e0'
          have f1 := (s2.cell (p := ⟨w.heap.size, 2, none⟩) (by dsimp only; omega)).trans e1'
          have f2 := (s2.cell (p := ⟨wr.heap.size, 0, none⟩) (by dsimp only; omega)).trans m0'
          have f3 := (s2.cell (p := ⟨wr.heap.size, 1, none⟩) (by dsimp only; omega)).trans m1'
          have f4 := (s2.cell (p := ⟨wr.heap.size, 2, none⟩) (by dsimp only; omega)).trans m2'
          dsimp only
          refine hK.out _ _ (⟨f0, f1, f2, f3, f4⟩) (fun hHeld => ?_)
          clear hK K
          try simp only [Act.put, List.getElem_toArray, List.getElem_cons_succ, List.getElem_cons_zero, List.setIfInBounds_toArray, List.set_cons_zero, List.set_cons_succ]
          refine wpAnyH_take (i := 4) (v := ?_) rfl (by kernel_rfl) (by kernel_rfl) (by kernel_rfl) (fun _ _ _ h => h) (Or.inl ⟨by rfl, ?_⟩) (by assumption) ?_
          rotate_left 1
          · (intro w hSw; (try dsimp only at hSw); go_simp; try with_reducible rfl)
          try simp only [Act.put, List.getElem_toArray, List.getElem_cons_succ, List.getElem_cons_zero, List.setIfInBounds_toArray, List.set_cons_zero, List.set_cons_succ]
          refine wpAnyH_take (i := 5) (v := ?_) rfl (by kernel_rfl) (by kernel_rfl) (by kernel_rfl) (fun _ _ _ h => h) (Or.inl ⟨by rfl, ?_⟩) (by assumption) ?_
          rotate_left 1
          · (intro w hSw; (try dsimp only at hSw); go_simp; try with_reducible rfl)
          try simp only [Act.put, List.getElem_toArray, List.getElem_cons_succ, List.getElem_cons_zero, List.setIfInBounds_toArray, List.set_cons_zero, List.set_cons_succ]
          refine wpAnyH_take (i := 6) (v := ?_) rfl (by kernel_rfl) (by kernel_rfl) (by kernel_rfl) (fun _ _ _ h => h) (Or.inl ⟨by rfl, ?_⟩) (by assumption) ?_
          rotate_left 1
          · (intro w hSw; (try dsimp only at hSw); go_simp; try with_reducible rfl)
          try simp only [Act.put, List.getElem_toArray, List.getElem_cons_succ, List.getElem_cons_zero, List.setIfInBounds_toArray, List.set_cons_zero, List.set_cons_succ]
          refine wpAnyH_take (i := 7) (v := ?_) rfl (by kernel_rfl) (by kernel_rfl) (by kernel_rfl) (fun _ _ _ h => h) (Or.inl ⟨by rfl, ?_⟩) (by assumption) ?_
          rotate_left 1
          · (intro w hSw; (try dsimp only at hSw); go_simp; try with_reducible rfl)
          try simp only [Act.put, List.getElem_toArray, List.getElem_cons_succ, List.getElem_cons_zero, List.setIfInBounds_toArray, List.set_cons_zero, List.set_cons_succ]
          refine wpAnyH_take (i := 8) (v := ?_) rfl (by kernel_rfl) (by kernel_rfl) (by kernel_rfl) (fun _ _ _ h => h) (Or.inl ⟨by rfl, ?_⟩) (by assumption) ?_
          rotate_left 1
          · (intro w hSw; (try dsimp only at hSw); go_simp; try with_reducible rfl)
          try simp only [Act.put, List.getElem_toArray, List.getElem_cons_succ, List.getElem_cons_zero, List.setIfInBounds_toArray, List.set_cons_zero, List.set_cons_succ]
          refine wpAnyH_take (i := 9) (v := undef) rfl (by kernel_rfl) (by kernel_rfl) (by kernel_rfl) (fun _ _ _ h => h) (Or.inr ⟨by rfl, rfl⟩) (by assumption) ?_
          try simp only [Act.put, List.getElem_toArray, List.getElem_cons_succ, List.getElem_cons_zero, List.setIfInBounds_toArray, List.set_cons_zero, List.set_cons_succ]
          refine wpAnyH_take (i := 10) (v := undef) rfl (by kernel_rfl) (by kernel_rfl) (by kernel_rfl) (fun _ _ _ h => h) (Or.inr ⟨by rfl, rfl⟩) (by assumption) ?_
          try simp only [Act.put, List.getElem_toArray, List.getElem_cons_succ, List.getElem_cons_zero, List.setIfInBounds_toArray, List.set_cons_zero, List.set_cons_succ]
          refine wpAnyH_take (i := 11) (v := undef) rfl (by kernel_rfl) (by kernel_rfl) (by kernel_rfl) (fun _ _ _ h => h) (Or.inr ⟨by rfl, rfl⟩) (by assumption) ?_
          try simp only [Act.put, List.getElem_toArray, List.getElem_cons_succ, List.getElem_cons_zero, List.setIfInBounds_toArray, List.set_cons_zero, List.set_cons_succ]
          refine wpAnyH_take (i := 12) (v := undef) rfl (by kernel_rfl) (by kernel_rfl) (by kernel_rfl) (fun _ _ _ h => h) (Or.inr ⟨by rfl, rfl⟩) (by assumption) ?_
          try simp only [Act.put, List.getElem_toArray, List.getElem_cons_succ, List.getElem_cons_zero, List.setIfInBounds_toArray, List.set_cons_zero, List.set_cons_succ]
          refine wpAnyH_take (i := 13) (v := undef) rfl (by kernel_rfl) (by kernel_rfl) (by kernel_rfl) (fun _ _ _ h => h) (Or.inr ⟨by rfl, rfl⟩) (by assumption) ?_
          try simp only [Act.put, List.getElem_toArray, List.getElem_cons_succ, List.getElem_cons_zero, List.setIfInBounds_toArray, List.set_cons_zero, List.set_cons_succ]
          refine wpAnyH_take (i := 14) (v := undef) rfl (by kernel_rfl) (by kernel_rfl) (by kernel_rfl) (fun _ _ _ h => h) (Or.inr ⟨by rfl, rfl⟩) (by assumption) ?_
          try simp only [Act.put, List.getElem_toArray, List.getElem_cons_succ, List.getElem_cons_zero, List.setIfInBounds_toArray, List.set_cons_zero, List.set_cons_succ]
          refine wpAnyH_take (i := 15) (v := undef) rfl (by kernel_rfl) (by kernel_rfl) (by kernel_rfl) (fun _ _ _ h => h) (Or.inr ⟨by rfl, rfl⟩) (by assumption) ?_
          try simp only [Act.put, List.getElem_toArray, List.getElem_cons_succ, List.getElem_cons_zero, List.setIfInBounds_toArray, List.set_cons_zero, List.set_cons_succ]
          refine wpAnyH_take (i := 16) (v := undef) rfl (by kernel_rfl) (by kernel_rfl) (by kernel_rfl) (fun _ _ _ h => h) (Or.inr ⟨by rfl, rfl⟩) (by assumption) ?_
          try simp only [Act.put, List.getElem_toArray, List.getElem_cons_succ, List.getElem_cons_zero, List.setIfInBounds_toArray, List.set_cons_zero, List.set_cons_succ]
          refine wpAnyH_take (i := 17) (v := undef) rfl (by kernel_rfl) (by kernel_rfl) (by kernel_rfl) (fun _ _ _ h => h) (Or.inr ⟨by rfl, rfl⟩) (by assumption) ?_
          try simp only [Act.put, List.getElem_toArray, List.getElem_cons_succ, List.getElem_cons_zero, List.setIfInBounds_toArray, List.set_cons_zero, List.set_cons_succ]
          refine wpAnyH_take (i := 18) (v := ?_) rfl (by kernel_rfl) (by kernel_rfl) (by kernel_rfl) (fun _ _ _ h => h) (Or.inl ⟨by rfl, ?_⟩) (by assumption) ?_
          rotate_left 1
          · (intro w hSw; (try dsimp only at hSw); go_simp; try with_reducible rfl)
          try simp only [Act.put, List.getElem_toArray, List.getElem_cons_succ, List.getElem_cons_zero, List.setIfInBounds_toArray, List.set_cons_zero, List.set_cons_succ]
          refine wpAnyH_take (i := 19) (v := ?_) rfl (by kernel_rfl) (by kernel_rfl) (by kernel_rfl) (fun _ _ _ h => h) (Or.inl ⟨by rfl, ?_⟩) (by assumption) ?_
          rotate_left 1
          · (intro w hSw; (try dsimp only at hSw); go_simp; try with_reducible rfl)
          try simp only [Act.put, List.getElem_toArray, List.getElem_cons_succ, List.getElem_cons_zero, List.setIfInBounds_toArray, List.set_cons_zero, List.set_cons_succ]
          refine wpAnyH_done (by kernel_rfl) ?_ _
          go_wp2_with fail
          go_roundg (x.ch.length - (0 + 1))
          case measure => have := hg.out; omega
          case rel => exact ⟨1, by omega, rfl, by go_num, hide (by have := HQ.out; simpa [okNext, prevOf] using this), hide (BoxAt.below (w := wa.drew) X0.out s2 (by omega)), bd.trans (s2.mono bd.size)⟩
        | succ j =>
          obtain ⟨b2, o2, z2, he, hb2, hz2, hda, hdb, hdc⟩ := HX2.out.at_ (show j < x.ch.length by omega)
          cases he
          have HZ2 := hide (show prevOf x.ch (j + 1) = some z2 from hz2)
          clear hz2
          have n0' : wa.drew.cell? ⟨b1, o1 + j * 3, none⟩ = some (.int .i64 z2.a) := hda
          have n1' : wa.drew.cell? ⟨b1, o1 + j * 3 + 1, none⟩ = some (.int .i64 z2.b) := hdb
          have n2' : wa.drew.cell? ⟨b1, o1 + j * 3 + 2, none⟩ = some (.int .i64 z2.c) := hdc
          have hp1 : (0 : Int) < (j : Int) + 1 := by omega
          have hp2 : IntKind.i64.wrap (j : Int) = (j : Int) := by first | (rw [IntKind.wrap_i64]; omega) | (simp [IntKind.wrap, IntKind.bits, IntKind.signed]; omega)
          have hp3 : (0 : Int) ≤ (j : Int) := by omega
          have hp4 : (j : Int) < (x.ch.length : Int) := by omega
          clear hda hdb hdc
          refine wp_region_held_drew (S := fun W => W.cell? ⟨w.heap.size, 0, none⟩ = some (.int .i64 x.z) ∧ W.cell? ⟨w.heap.size, 2, none⟩ = some (.slice (some ⟨b1, o1, none⟩) x.ch.length c2) ∧ W.cell? ⟨wr.heap.size, 0, none⟩ = some (.int .i64 z1.a) ∧ W.cell? ⟨wr.heap.size, 1, none⟩ = some (.int .i64 z1.b) ∧ W.cell? ⟨wr.heap.size, 2, none⟩ = some (.int .i64 z1.c) ∧ W.cell? ⟨b1, o1 + j * 3, none⟩ = some (.int .i64 z2.a) ∧ W.cell? ⟨b1, o1 + j * 3 + 1, none⟩ = some (.int .i64 z2.b) ∧ W.cell? ⟨b1, o1 + j * 3 + 2, none⟩ = some (.int .i64 z2.c)) (by kernel_rfl) (⟨e0', e1', m0', m1', m2', n0', n1', n2'⟩) (fun hHeld => ?_)
          refine wpAnyH_take (i := 0) (v := ?_) rfl (by kernel_rfl) (by kernel_rfl) (by kernel_rfl) (fun _ _ _ h => h) (Or.inl ⟨by rfl, ?_⟩) (by assumption) ?_
          rotate_left 1
          · (intro w hSw; (try dsimp only at hSw); go_simp; try with_reducible rfl)
          try simp only [Act.put, List.getElem_toArray, List.getElem_cons_succ, List.getElem_cons_zero, List.setIfInBounds_toArray, List.set_cons_zero, List.set_cons_succ]
          refine wpAnyH_take (i := 1) (v := ?_) rfl (by kernel_rfl) (by kernel_rfl) (by kernel_rfl) (fun _ _ _ h => h) (Or.inl ⟨by rfl, ?_⟩) (by assumption) ?_
          rotate_left 1
          · (intro w hSw; (try dsimp only at hSw); go_simp; try with_reducible rfl)
          try simp only [Act.put, List.getElem_toArray, List.getElem_cons_succ, List.getElem_cons_zero, List.setIfInBounds_toArray, List.set_cons_zero, List.set_cons_succ]
          refine wpAnyH_take (i := 2) (v := ?_) rfl (by kernel_rfl) (by kernel_rfl) (by kernel_rfl) (fun _ _ _ h => h) (Or.inl ⟨by rfl, ?_⟩) (by assumption) ?_
          rotate_left 1
          · (intro w hSw; (try dsimp only at hSw); go_simp; try with_reducible rfl)
          try simp only [Act.put, List.getElem_toArray, List.getElem_cons_succ, List.getElem_cons_zero, List.setIfInBounds_toArray, List.set_cons_zero, List.set_cons_succ]
          refine wpAnyH_ready (rs := [3]) (by kernel_rfl) (by simp) ?_
          refine AllReadyH.cons rfl (fun K hK => ?_) AllReadyH.nil
          try simp only [Act.put, List.getElem_toArray, List.getElem_cons_succ, List.getElem_cons_zero, List.setIfInBounds_toArray, List.set_cons_zero, List.set_cons_succ]
          go_simp
          go_at_call 68
          refine HL.out.mono ?_
          rintro e w2 ⟨rfl, s2⟩
          have f0 := (s2.cell (p := ⟨w.heap.size, 0, none⟩) (by dsimp only; omega)).trans e0'
          have f1 := (s2.cell (p := ⟨w.heap.size, 2, none⟩) (by dsimp only; omega)).trans e1'
          have f2 := (s2.cell (p := ⟨wr.heap.size, 0, none⟩) (by dsimp only; omega)).trans m0'
          have f3 := (s2.cell (p := ⟨wr.heap.size, 1, none⟩) (by dsimp only; omega)).trans m1'
          have f4 := (s2.cell (p := ⟨wr.heap.size, 2, none⟩) (by dsimp only; omega)).trans m2'
          have f5 := (s2.cell (p := ⟨b1, o1 + j * 3, none⟩) (by dsimp only; omega)).trans n0'
          have f6 := (s2.cell (p := ⟨b1, o1 + j * 3 + 1, none⟩) (by dsimp only; omega)).trans n1'
          have f7 := (s2.cell (p := ⟨b1, o1 + j * 3 + 2, none⟩) (by dsimp only; omega)).trans n2'
          dsimp only
          refine hK.out _ _ (⟨f0, f1, f2, f3, f4, f5, f6, f7⟩) (fun hHeld => ?_)
          clear hK K
          try simp only [Act.put, List.getElem_toArray, List.getElem_cons_succ, List.getElem_cons_zero, List.setIfInBounds_toArray, List.set_cons_zero, List.set_cons_succ]
          refine wpAnyH_take (i := 4) (v := ?_) rfl (by kernel_rfl) (by kernel_rfl) (by kernel_rfl) (fun _ _ _ h => h) (Or.inl ⟨by rfl, ?_⟩) (by assumption) ?_
          rotate_left 1
          · (intro w hSw; (try dsimp only at hSw); go_simp; try with_reducible rfl)
          try simp only [Act.put, List.getElem_toArray, List.getElem_cons_succ, List.getElem_cons_zero, List.setIfInBounds_toArray, List.set_cons_zero, List.set_cons_succ]
          refine wpAnyH_take (i := 5) (v := ?_) rfl (by kernel_rfl) (by kernel_rfl) (by kernel_rfl) (fun _ _ _ h => h) (Or.inl ⟨by rfl, ?_⟩) (by assumption) ?_
          rotate_left 1
          · (intro w hSw; (try dsimp only at hSw); go_simp; try with_reducible rfl)
          try simp only [Act.put, List.getElem_toArray, List.getElem_cons_succ, List.getElem_cons_zero, List.setIfInBounds_toArray, List.set_cons_zero, List.set_cons_succ]
          refine wpAnyH_take (i := 6) (v := ?_) rfl (by kernel_rfl) (by kernel_rfl) (by kernel_rfl) (fun _ _ _ h => h) (Or.inl ⟨by rfl, ?_⟩) (by assumption) ?_
          rotate_left 1
          · (intro w hSw; (try dsimp only at hSw); go_simp; try with_reducible rfl)
          try simp only [Act.put, List.getElem_toArray, List.getElem_cons_succ, List.getElem_cons_zero, List.setIfInBounds_toArray, List.set_cons_zero, List.set_cons_succ]
          refine wpAnyH_take (i := 7) (v := ?_) rfl (by kernel_rfl) (by kernel_rfl) (by kernel_rfl) (fun _ _ _ h => h) (Or.inl ⟨by rfl, ?_⟩) (by assumption) ?_
          rotate_left 1
          · (intro w hSw; (try dsimp only at hSw); go_simp; try with_reducible rfl)
          try simp only [Act.put, List.getElem_toArray, List.getElem_cons_succ, List.getElem_cons_zero, List.setIfInBounds_toArray, List.set_cons_zero, List.set_cons_succ]
          refine wpAnyH_take (i := 8) (v := ?_) rfl (by kernel_rfl) (by kernel_rfl) (by kernel_rfl) (fun _ _ _ h => h) (Or.inl ⟨by rfl, ?_⟩) (by assumption) ?_
          rotate_left 1
          · (intro w hSw; (try dsimp only at hSw); go_simp; try with_reducible rfl)
          try simp only [Act.put, List.getElem_toArray, List.getElem_cons_succ, List.getElem_cons_zero, List.setIfInBounds_toArray, List.set_cons_zero, List.set_cons_succ]
          refine wpAnyH_take (i := 9) (v := ?_) rfl (by kernel_rfl) (by kernel_rfl) (by kernel_rfl) (fun _ _ _ h => h) (Or.inl ⟨by rfl, ?_⟩) (by assumption) ?_
          rotate_left 1
          · (intro w hSw; (try dsimp only at hSw); go_simp; try with_reducible rfl)
          try simp only [Act.put, List.getElem_toArray, List.getElem_cons_succ, List.getElem_cons_zero, List.setIfInBounds_toArray, List.set_cons_zero, List.set_cons_succ]
          refine wpAnyH_take (i := 10) (v := ?_) rfl (by kernel_rfl) (by kernel_rfl) (by kernel_rfl) (fun _ _ _ h => h) (Or.inl ⟨by rfl, ?_⟩) (by assumption) ?_
          rotate_left 1
          · (intro w hSw; (try dsimp only at hSw); go_simp; try with_reducible rfl)
          try simp only [Act.put, List.getElem_toArray, List.getElem_cons_succ, List.getElem_cons_zero, List.setIfInBounds_toArray, List.set_cons_zero, List.set_cons_succ]
          refine wpAnyH_take (i := 11) (v := ?_) rfl (by kernel_rfl) (by kernel_rfl) (by kernel_rfl) (fun _ _ _ h => h) (Or.inl ⟨by rfl, ?_⟩) (by assumption) ?_
          rotate_left 1
          · (intro w hSw; (try dsimp only at hSw); go_simp; try with_reducible rfl)
          try simp only [Act.put, List.getElem_toArray, List.getElem_cons_succ, List.getElem_cons_zero, List.setIfInBounds_toArray, List.set_cons_zero, List.set_cons_succ]
          refine wpAnyH_take (i := 12) (v := ?_) rfl (by kernel_rfl) (by kernel_rfl) (by kernel_rfl) (fun _ _ _ h => h) (Or.inl ⟨by rfl, ?_⟩) (by assumption) ?_
          rotate_left 1
          · (intro w hSw; (try dsimp only at hSw); go_simp; try with_reducible rfl)
          try simp only [Act.put, List.getElem_toArray, List.getElem_cons_succ, List.getElem_cons_zero, List.setIfInBounds_toArray, List.set_cons_zero, List.set_cons_succ]
          refine wpAnyH_take (i := 13) (v := ?_) rfl (by kernel_rfl) (by kernel_rfl) (by kernel_rfl) (fun _ _ _ h => h) (Or.inl ⟨by rfl, ?_⟩) (by assumption) ?_
          rotate_left 1
          · (intro w hSw; (try dsimp only at hSw); go_simp; try with_reducible rfl)
          try simp only [Act.put, List.getElem_toArray, List.getElem_cons_succ, List.getElem_cons_zero, List.setIfInBounds_toArray, List.set_cons_zero, List.set_cons_succ]
          refine wpAnyH_take (i := 14) (v := ?_) rfl (by kernel_rfl) (by kernel_rfl) (by kernel_rfl) (fun _ _ _ h => h) (Or.inl ⟨by rfl, ?_⟩) (by assumption) ?_
          rotate_left 1
          · (intro w hSw; (try dsimp only at hSw); go_simp; try with_reducible rfl)
          try simp only [Act.put, List.getElem_toArray, List.getElem_cons_succ, List.getElem_cons_zero, List.setIfInBounds_toArray, List.set_cons_zero, List.set_cons_succ]
          refine wpAnyH_take (i := 15) (v := ?_) rfl (by kernel_rfl) (by kernel_rfl) (by kernel_rfl) (fun _ _ _ h => h) (Or.inl ⟨by rfl, ?_⟩) (by assumption) ?_
          rotate_left 1
          · (intro w hSw; (try dsimp only at hSw); go_simp; try with_reducible rfl)
          try simp only [Act.put, List.getElem_toArray, List.getElem_cons_succ, List.getElem_cons_zero, List.setIfInBounds_toArray, List.set_cons_zero, List.set_cons_succ]
          refine wpAnyH_ready (rs := [16]) (by kernel_rfl) (by simp) ?_
          refine AllReadyH.cons rfl (fun K hK => ?_) AllReadyH.nil
          try simp only [Act.put, List.getElem_toArray, List.getElem_cons_succ, List.getElem_cons_zero, List.setIfInBounds_toArray, List.set_cons_zero, List.set_cons_succ]
          go_simp
          go_at_call 84
          refine (compareChanges_any z2 z1 w2).mono ?_
          rintro e w3 ⟨rfl, s3⟩
          have zs2 := s2.size
          have zs3 := s3.size
          have h0 := (s3.cell (p := ⟨w.heap.size, 0, none⟩) (by dsimp only; omega)).trans f0
          have h1 := (s3.cell (p := ⟨w.heap.size, 2, none⟩) (by dsimp only; omega)).trans f1
          have h2 := (s3.cell (p := ⟨wr.heap.size, 0, none⟩) (by dsimp only; omega)).trans f2
          have h3 := (s3.cell (p := ⟨wr.heap.size, 1, none⟩) (by dsimp only; omega)).trans f3
          have h4 := (s3.cell (p := ⟨wr.heap.size, 2, none⟩) (by dsimp only; omega)).trans f4
          have h5 := (s3.cell (p := ⟨b1, o1 + j * 3, none⟩) (by dsimp only; omega)).trans f5
          have h6 := (s3.cell (p := ⟨b1, o1 + j * 3 + 1, none⟩) (by dsimp only; omega)).trans f6
          have h7 := (s3.cell (p := ⟨b1, o1 + j * 3 + 2, none⟩) (by dsimp only; omega)).trans f7
          have b3 := (bd.trans (s2.mono bd.size)).trans (s3.mono (by omega))
          dsimp only
          refine hK.out _ _ (⟨h0, h1, h2, h3, h4, h5, h6, h7⟩) (fun hHeld => ?_)
          clear hK K
          try simp only [Act.put, List.getElem_toArray, List.getElem_cons_succ, List.getElem_cons_zero, List.setIfInBounds_toArray, List.set_cons_zero, List.set_cons_succ]
          have hcl := cmpC_lt z2 z1
          by_cases hq : 0 ≤ cmpC z2 z1
          · rw [decide_eq_true hq] at hcl
            have HP := hide (show ltC z2 z1 = false by simpa using hcl.symm)
            clear hcl
            refine wpAnyH_take (i := 17) (v := ?_) rfl (by kernel_rfl) (by kernel_rfl) (by kernel_rfl) (fun _ _ _ h => h) (Or.inl ⟨by rfl, ?_⟩) (by assumption) ?_
            rotate_left 1
            · (intro w hSw; (try dsimp only at hSw); go_simp; try with_reducible rfl)
            try simp only [Act.put, List.getElem_toArray, List.getElem_cons_succ, List.getElem_cons_zero, List.setIfInBounds_toArray, List.set_cons_zero, List.set_cons_succ]
            refine wpAnyH_take (i := 18) (v := ?_) rfl (by kernel_rfl) (by kernel_rfl) (by kernel_rfl) (fun _ _ _ h => h) (Or.inl ⟨by rfl, ?_⟩) (by assumption) ?_
            rotate_left 1
            · (intro w hSw; (try dsimp only at hSw); go_simp; try with_reducible rfl)
            try simp only [Act.put, List.getElem_toArray, List.getElem_cons_succ, List.getElem_cons_zero, List.setIfInBounds_toArray, List.set_cons_zero, List.set_cons_succ]
            refine wpAnyH_take (i := 19) (v := ?_) rfl (by kernel_rfl) (by kernel_rfl) (by kernel_rfl) (fun _ _ _ h => h) (Or.inl ⟨by rfl, ?_⟩) (by assumption) ?_
            rotate_left 1
            · (intro w hSw; (try dsimp only at hSw); go_simp; try with_reducible rfl)
            try simp only [Act.put, List.getElem_toArray, List.getElem_cons_succ, List.getElem_cons_zero, List.setIfInBounds_toArray, List.set_cons_zero, List.set_cons_succ]
            refine wpAnyH_done (by kernel_rfl) ?_ _
            go_wp2_with fail
            go_ret
            exact ⟨ret_b (by rw [HV.out, HQ.out, HZ2.out]; simp [okNext, HP.out]), b3⟩
          · rw [decide_eq_false hq] at hcl
            have HP := hide (show ltC z2 z1 = true by simpa using hcl.symm)
            have hq' : cmpC z2 z1 < 0 := by omega
            clear hcl
            refine wpAnyH_take (i := 17) (v := ?_) rfl (by kernel_rfl) (by kernel_rfl) (by kernel_rfl) (fun _ _ _ h => h) (Or.inl ⟨by rfl, ?_⟩) (by assumption) ?_
            rotate_left 1
            · (intro w hSw; (try dsimp only at hSw); go_simp; try with_reducible rfl)
            try simp only [Act.put, List.getElem_toArray, List.getElem_cons_succ, List.getElem_cons_zero, List.setIfInBounds_toArray, List.set_cons_zero, List.set_cons_succ]
            refine wpAnyH_take (i := 18) (v := ?_) rfl (by kernel_rfl) (by kernel_rfl) (by kernel_rfl) (fun _ _ _ h => h) (Or.inl ⟨by rfl, ?_⟩) (by assumption) ?_
            rotate_left 1
            · (intro w hSw; (try dsimp only at hSw); go_simp; try with_reducible rfl)
            try simp only [Act.put, List.getElem_toArray, List.getElem_cons_succ, List.getElem_cons_zero, List.setIfInBounds_toArray, List.set_cons_zero, List.set_cons_succ]
            refine wpAnyH_take (i := 19) (v := ?_) rfl (by kernel_rfl) (by kernel_rfl) (by kernel_rfl) (fun _ _ _ h => h) (Or.inl ⟨by rfl, ?_⟩) (by assumption) ?_
            rotate_left 1
            · (intro w hSw; (try dsimp only at hSw); go_simp; try with_reducible rfl)
            try simp only [Act.put, List.getElem_toArray, List.getElem_cons_succ, List.getElem_cons_zero, List.setIfInBounds_toArray, List.set_cons_zero, List.set_cons_succ]
            refine wpAnyH_done (by kernel_rfl) ?_ _
            go_wp2_with fail
            go_roundg (x.ch.length - (j + 1 + 1))
            case measure => have := hg.out; omega
            case rel => exact ⟨j + 1 + 1, by omega, rfl, by go_num, hide (by have := HQ.out; rw [HZ2.out] at this; simpa [okNext, HP.out] using this), hide (BoxAt.below (BoxAt.below (w := wa.drew) X0.out s2 (by omega)) s3 (by omega)), b3⟩
    · have HE := hide (HS.out.trans (by rw [List.drop_eq_nil_of_le (by omega), chOk]))
      go_wp2_with fail
      go_ret
      exact ⟨ret_b (by rw [HV.out, HE.out]), hb⟩
end Go.Proofs.YtofjnmeblmbnmaaDoor
