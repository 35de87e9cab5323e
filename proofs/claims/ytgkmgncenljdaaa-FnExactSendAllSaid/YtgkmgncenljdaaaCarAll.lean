/-
  Many moves are sent: the contracts of the reference and of the program.
-/
import Derived.Test.YtgkmgncenljdaaaCarSend
namespace Go.Proofs.Ytgkmgncenljdaaa
open Go.RowKit

theorem vMoves_false {n : Int} {ms : List T3} (h : ms.all (okMove n) = false) : vMoves n ms = false := by simp [vMoves, h]
theorem sendFrom_cons {zs zs' : List Int} {ms : List T3} {k : Nat} {m : T3} (hm : ms[k]? = some m) (h : send1 zs m = some zs') : sendFrom zs (ms.drop k) k = sendFrom zs' (ms.drop (k + 1)) (k + 1) := by
  rw [drop_cons hm, sendFrom, h]
theorem sendFrom_stop {zs : List Int} {ms : List T3} {k : Nat} {m : T3} (hm : ms[k]? = some m) (h : send1 zs m = none) : sendFrom zs (ms.drop k) k = (zs, (k : Int)) := by
  rw [drop_cons hm, sendFrom, h]

set_option maxRecDepth 100000 in
set_option maxHeartbeats 8000000 in
theorem S_SendAll (zs : List Int) (v : Value) (ms : List T3) (u : Value) (w : World) (hs : zs.length ≤ 1048576) (_ : ∀ z ∈ zs, -9223372036854775808 ≤ z ∧ z ≤ 9223372036854775807) (h : R_Int64S w w.heap.size v zs) (hs2 : ms.length ≤ 1048576) (_ : ∀ z ∈ ms, z.Fits) (hq : R_MoveS w w.heap.size u ms) :
    Calls Try.prog 51 #[v, u] w fun e w' => ∃ r, e = .returned (.tuple #[r, .int .i64 (sendAll zs ms).2.1, .int .i64 (sendAll zs ms).2.2]) ∧ O_Int64S w' w.heap.size w'.heap.size r (sendAll zs ms).1 ∧ Below w.heap.size w w' := by
  obtain ⟨A, cA, rfl, h1⟩ := h
  obtain ⟨A2, c2, rfl, h2⟩ := hq
  have HX := hide h1; clear h1
  have HM := hide h2; clear h2
  have HV := hide (l07Ok_any zs A cA w hs HX.out)
  cases hv : vStock zs
  · rw [hv] at HV
    have HR := hide (show sendAll zs ms = ([], 0, 1) by simp [sendAll, hv])
    clear hv
    go_enter Try.func51, Try.ntmps51
    go_wp2_with (go_at_call 57; refine (HV.out).mono ?_; rintro e w' ⟨rfl, rfl⟩)
    go_ret3
    exact ⟨_, by rw [HR.out]; rfl, by rw [HR.out]; exact O_Int64S.nil _ _ _ _ _, Below.refl _ _⟩
  rw [hv] at HV
  obtain ⟨hst, hl2, hl10⟩ := stOk_of hv
  have HST := hide hst
  have HR0 := hide (show sendAll zs ms = (if vMoves zs.length ms then ((sendFrom zs ms 0).1, (sendFrom zs ms 0).2, 0) else ([], 0, 2)) by simp [sendAll, hv])
  clear hv hst
  go_enter Try.func51, Try.ntmps51
  go_wp2_with (go_at_call 57; refine (HV.out).mono ?_; rintro e w' ⟨rfl, rfl⟩)
  go_loopg [7] ms.length (fun g i wr => ∃ k : Nat, k ≤ ms.length ∧ Hid (g = ms.length - k) ∧ i = .int .i64 k ∧ Hid (ms.all (okMove zs.length) = (ms.drop k).all (okMove zs.length)) ∧ Below w.heap.size w wr)
  case atStart => exact ⟨0, by omega, by simp [Hid], rfl, by simp [Hid], Below.refl _ _⟩
  case round =>
    obtain ⟨k, hk, hg, rfl, HS, hb⟩ := hrel
    by_cases hlt : k < ms.length
    · obtain ⟨b1, o1, m1, rfl, _, hm1, hca, hcb, hcc⟩ := (HM.out.below hb).at_ hlt
      have HS' := HS.out; rw [all_drop _ _ _ _ hm1] at HS'
      have HQ := hide HS'; clear HS' hm1
      have HC := hide (l07Move_any (zs.length : Int) m1 b1 (o1 + k * 3) wr (by omega) (by omega) hca hcb hcc)
      cases ho : okMove zs.length m1
      · rw [ho] at HC HQ
        have HR := hide (show sendAll zs ms = ([], 0, 2) by rw [HR0.out, vMoves_false (by rw [HQ.out]; rfl)]; rfl)
        clear ho
        go_wp2_with (go_at_call 75; refine (HC.out).mono ?_; rintro e w1 ⟨rfl, hb1⟩)
        go_ret3
        exact ⟨_, by rw [HR.out]; rfl, by rw [HR.out]; exact O_Int64S.nil _ _ _ _ _, hb.trans (hb1.mono hb.size)⟩
      · rw [ho] at HC HQ
        clear ho
        go_wp2_with (go_at_call 75; refine (HC.out).mono ?_; rintro e w1 ⟨rfl, hb1⟩)
        go_roundg (ms.length - (k + 1))
        case measure => have := hg.out; omega
        case rel => exact ⟨k + 1, by omega, rfl, by go_num, hide (by have := HQ.out; simpa using this), hb.trans (hb1.mono hb.size)⟩
    · have HA : Hid (ms.all (okMove zs.length) = true) := by
        have := HS.out; rw [List.drop_eq_nil_of_le (by omega)] at this; exact this
      clear HS
      by_cases hl : ms.length ≤ 40
      case neg =>
        have HR := hide (show sendAll zs ms = ([], 0, 2) by rw [HR0.out, show vMoves zs.length ms = false by simp [vMoves]; omega]; rfl)
        go_wp2_with fail
        go_ret3
        exact ⟨_, by rw [HR.out]; rfl, by rw [HR.out]; exact O_Int64S.nil _ _ _ _ _, hb⟩
      have HR1 := hide (show sendAll zs ms = ((sendFrom zs ms 0).1, (sendFrom zs ms 0).2, 0) by rw [HR0.out, show vMoves zs.length ms = true by simp [vMoves, HA.out, hl]]; rfl)
      have HC := hide (l00Own_any zs A cA wr hs ((HX.out.below hb).more hb.size))
      go_wp2_with (go_at_call 76; refine (HC.out).mono ?_; rintro e w1 ⟨A3, c3, rfl, ho3, hb1⟩)
      have hb2 := hb.trans (hb1.mono hb.size)
      have ho3' := own_base ho3 hb.size
      have HO3 := hide ho3'
      clear ho3 ho3' HC
      go_loopg [9] ms.length (fun g i wq => ∃ (k : Nat) (xs : List Int), k ≤ ms.length ∧ Hid (g = ms.length - k) ∧ i = .int .i64 k ∧ xs.length = zs.length ∧ Hid (StOk xs) ∧ Hid (sendFrom zs ms 0 = sendFrom xs (ms.drop k) k) ∧ Hid (wq.ownsRow w.heap.size 2 1 (.slice A3 zs.length c3) zs.length (xs.map (Value.int .i64))) ∧ Below w.heap.size w wq)
      case atStart => exact ⟨0, zs, by omega, by simp [Hid], rfl, rfl, HST, by simp [Hid], HO3, hb2⟩
      case round =>
        obtain ⟨k2, xs, hk2, hg2, rfl, hxl, HSX, HSE, HOX, hbq⟩ := hrel
        have HXL := hide hxl; clear hxl
        by_cases hlt2 : k2 < ms.length
        · obtain ⟨b1, o1, m1, rfl, hb1lt, hm1, hca, hcb, hcc⟩ := (HM.out.below hbq).at_ hlt2
          have hok : okMove xs.length m1 = true := by
            rw [HXL.out]; exact List.all_eq_true.1 HA.out m1 (List.mem_of_getElem? hm1)
          obtain ⟨i, j, za, zb, hmm, hza, hzb, hij, hc1, hc2⟩ := move_at hok
          have hS := send1_at (c := m1.c) hza hzb
          rw [← hmm] at hS
          obtain ⟨ma, mb, mc⟩ := m1
          simp only [T3.mk.injEq, and_true] at hmm
          obtain ⟨rfl, rfl⟩ := hmm
          dsimp only at *
          obtain ⟨hza1, hza2⟩ := stOk_bd HSX.out hza
          obtain ⟨hzb1, hzb2⟩ := stOk_bd HSX.out hzb
          have HOX' : Hid (wr.ownsRow w.heap.size 2 1 (.slice A3 xs.length c3) xs.length (xs.map (Value.int .i64))) := by rw [HXL.out]; exact HOX.out
          by_cases hlt : za < mc
          · rw [if_pos hlt] at hS
            have HE := hide (HSE.out.trans (sendFrom_stop hm1 hS))
            have HC := hide (l07Send_f w.heap.size xs A3 c3 i j mc za b1 (o1 + k2 * 3) wr hza (by rw [HXL.out]; exact hs) hlt HOX'.out hca hcb hcc)
            rw [HXL.out] at HC
            clear hS hza hzb hij hm1 hok hlt
            go_wp2_with (go_at_call 77; refine (HC.out).mono ?_; rintro e w3 ⟨rfl, hb3⟩)
            go_ret3
            refine ⟨_, by rw [HR1.out, HE.out]; rfl, ?_, hbq.trans (hb3.mono hbq.size)⟩
            rw [HR1.out, HE.out]
            exact O_int_of (own_below HOX.out hb3 (Nat.le_refl _)) hs
          · rw [if_neg hlt] at hS
            have HE := hide (HSE.out.trans (sendFrom_cons hm1 hS))
            have hnp : ∀ g, A3 = some ⟨g, 0, none⟩ → b1 ≠ g := fun g hg => by
              have := HOX.out.lt g (by rw [hg]; rfl); omega
            have HC := hide (l07Send_t w.heap.size xs A3 c3 i j mc za zb b1 (o1 + k2 * 3) wr hza hzb hij (by rw [HXL.out]; exact hs) (by omega) hc1 (by omega) hzb1 (by omega) HOX'.out hnp hca hcb hcc)
            have HSN := hide (stOk_send HSX.out hza hzb hij hc1 (by omega))
            have HLT := hide HOX.out.lt
            rw [HXL.out] at HC
            clear hS hza hzb hij hm1 hok hnp HOX'
            go_wp2_with (go_at_call 77; refine (HC.out).mono ?_; rintro e w3 ⟨rfl, ho5, hg5⟩)
            have HO5 := hide ho5; clear ho5
            have hb5 : Below w.heap.size w w3 := hbq.grown hg5 hbq.size (fun g hg => (HLT.out g hg).1)
            go_roundg (ms.length - (k2 + 1))
            case measure => have := hg2.out; omega
            case rel => exact ⟨k2 + 1, _, by omega, rfl, by go_num, by rw [List.length_set, List.length_set]; exact HXL.out, HSN, HE, HO5, hb5⟩
        · have HE : Hid (sendFrom zs ms 0 = (xs, -1)) := by
            have := HSE.out; rw [List.drop_eq_nil_of_le (by omega)] at this; exact this
          go_wp2_with fail
          go_ret3
          refine ⟨_, by rw [HR1.out, HE.out]; rfl, ?_, hbq⟩
          rw [HR1.out, HE.out]
          exact O_int_of HOX.out hs
set_option maxRecDepth 100000 in
set_option maxHeartbeats 8000000 in
theorem P_SendAll (zs : List Int) (v : Value) (ms : List T3) (u : Value) (w : World) (hs : zs.length ≤ 1048576) (_ : ∀ z ∈ zs, -9223372036854775808 ≤ z ∧ z ≤ 9223372036854775807) (h : R_Int64S w w.heap.size v zs) (hs2 : ms.length ≤ 1048576) (_ : ∀ z ∈ ms, z.Fits) (hq : R_MoveS w w.heap.size u ms) :
    Calls Try.prog 52 #[v, u] w fun e w' => ∃ r, e = .returned (.tuple #[r, .int .i64 (sendAll zs ms).2.1, .int .i64 (sendAll zs ms).2.2]) ∧ O_Int64S w' w.heap.size w'.heap.size r (sendAll zs ms).1 ∧ Below w.heap.size w w' := by
  obtain ⟨A, cA, rfl, h1⟩ := h
  obtain ⟨A2, c2, rfl, h2⟩ := hq
  have HX := hide h1; clear h1
  have HM := hide h2; clear h2
  have HV := hide (implValidStock_any zs A cA w hs HX.out)
  cases hv : vStock zs
  · rw [hv] at HV
    have HR := hide (show sendAll zs ms = ([], 0, 1) by simp [sendAll, hv])
    clear hv
    go_enter Try.func52, Try.ntmps52
    go_wp2_with (go_at_call 17; refine (HV.out).mono ?_; rintro e w1 ⟨rfl, hb1⟩)
    go_ret3
    exact ⟨_, by rw [HR.out]; rfl, by rw [HR.out]; exact O_Int64S.nil _ _ _ _ _, hb1⟩
  rw [hv] at HV
  obtain ⟨hst, hl2, hl10⟩ := stOk_of hv
  have HST := hide hst
  have HR0 := hide (show sendAll zs ms = (if vMoves zs.length ms then ((sendFrom zs ms 0).1, (sendFrom zs ms 0).2, 0) else ([], 0, 2)) by simp [sendAll, hv])
  have HMV := hide fun W (hW : Below w.heap.size w W) => areMoves_any (zs.length : Int) ms A2 c2 W (by omega) (by omega) hs2 ((HM.out.below hW).more hW.size)
  clear hv hst
  cases hm : vMoves zs.length ms
  · rw [hm] at HMV
    have HR := hide (show sendAll zs ms = ([], 0, 2) by rw [HR0.out, hm]; rfl)
    clear hm
    go_enter Try.func52, Try.ntmps52
    go_wp2_with (first | (go_at_call 17; refine (HV.out).mono ?_; rintro e w1 ⟨rfl, hb1⟩) | (go_at_call 83; refine (HMV.out _ hb1).mono ?_; rintro e w2 ⟨rfl, hb2⟩))
    go_ret3
    exact ⟨_, by rw [HR.out]; rfl, by rw [HR.out]; exact O_Int64S.nil _ _ _ _ _, hb1.trans (hb2.mono hb1.size)⟩
  rw [hm] at HMV
  have HA : Hid (ms.all (okMove zs.length) = true) := by
    unfold vMoves at hm; rw [Bool.and_eq_true] at hm; exact hm.1
  have hl40 : ms.length ≤ 40 := by
    unfold vMoves at hm; rw [Bool.and_eq_true, decide_eq_true_eq] at hm; exact hm.2
  have HR1 := hide (show sendAll zs ms = ((sendFrom zs ms 0).1, (sendFrom zs ms 0).2, 0) by rw [HR0.out, hm]; rfl)
  clear hm
  have HCL := hide fun W (hW : Below w.heap.size w W) => cloneI_any zs A cA W hs ((HX.out.below hW).more hW.size)
  go_enter Try.func52, Try.ntmps52
  go_wp2_with (first | (go_at_call 17; refine (HV.out).mono ?_; rintro e w1 ⟨rfl, hb1⟩) | (go_at_call 83; refine (HMV.out _ hb1).mono ?_; rintro e w2 ⟨rfl, hb2'⟩; have hb2 := hb1.trans (hb2'.mono hb1.size)) | (go_at_call 79; refine (HCL.out _ hb2).mono ?_; rintro e w3 ⟨A3, c3, rfl, ho3, hb3'⟩))
  have hb3 := hb2.trans (hb3'.mono hb2.size)
  obtain ⟨g, rfl, hgb', hgs⟩ := own_pos' ho3 (by omega)
  have hgb : w.heap.size ≤ g := Nat.le_trans hb2.size hgb'
  have ho3' := own_base ho3 hb2.size
  have HO3 := hide ho3'
  have hgs3 : g < w3.heap.size := hgs
  clear ho3 ho3'
  go_loopg [24] ms.length (fun gk i wq => ∃ (k : Nat) (xs : List Int), k ≤ ms.length ∧ Hid (gk = ms.length - k) ∧ i = .int .i64 k ∧ xs.length = zs.length ∧ Hid (StOk xs) ∧ Hid (sendFrom zs ms 0 = sendFrom xs (ms.drop k) k) ∧ Hid (wq.ownsRow w.heap.size 2 1 (.slice (some ⟨g, 0, none⟩) zs.length c3) zs.length (xs.map (Value.int .i64))) ∧ Below w.heap.size w wq ∧ g < wq.heap.size)
  case atStart => exact ⟨0, zs, by omega, by simp [Hid], rfl, rfl, HST, by simp [Hid], HO3, hb3, hgs⟩
  case round =>
    obtain ⟨k2, xs, hk2, hg2, rfl, hxl, HSX, HSE, HOX, hbq, hgq⟩ := hrel
    have HXL := hide hxl; clear hxl
    by_cases hlt2 : k2 < ms.length
    · obtain ⟨b1, o1, m1, rfl, hb1lt, hm1, hca, hcb, hcc⟩ := (HM.out.below hbq).at_ hlt2
      have hok : okMove xs.length m1 = true := by
        rw [HXL.out]; exact List.all_eq_true.1 HA.out m1 (List.mem_of_getElem? hm1)
      obtain ⟨i, j, za, zb, hmm, hza, hzb, hij, hc1, hc2⟩ := move_at hok
      have hS := send1_at (c := m1.c) hza hzb
      rw [← hmm] at hS
      obtain ⟨ma, mb, mc⟩ := m1
      simp only [T3.mk.injEq, and_true] at hmm
      obtain ⟨rfl, rfl⟩ := hmm
      dsimp only at *
      obtain ⟨hza1, hza2⟩ := stOk_bd HSX.out hza
      obtain ⟨hzb1, hzb2⟩ := stOk_bd HSX.out hzb
      have hi : i < zs.length := by rw [← HXL.out]; exact lt_of_get hza
      have hj : j < zs.length := by rw [← HXL.out]; exact lt_of_get hzb
      have hbsz := hbq.size
      have hM : Hid (ms[k2]? = some ⟨i, j, mc⟩) := hm1
      have HZA := hide hza; have HZB := hide hzb; have HIJ := hide hij
      have HOM : Hid (((wr.alloc (.cells #[.int .i64 i, .int .i64 j, .int .i64 mc] 52))).ownsRow w.heap.size 2 1 (.slice (some ⟨g, 0, none⟩) zs.length c3) zs.length (xs.map (Value.int .i64))) := HOX.out.alloc _
      have hxa := own_int_at HOM.out hza
      have hna : ((wr.alloc (.cells #[.int .i64 i, .int .i64 j, .int .i64 mc] 52))).cell? ⟨wr.heap.size, 0, none⟩ = some (.int .i64 i) := by simp [go_sem]
      have hnb : ((wr.alloc (.cells #[.int .i64 i, .int .i64 j, .int .i64 mc] 52))).cell? ⟨wr.heap.size, 1, none⟩ = some (.int .i64 j) := by simp [go_sem]
      have hnc : ((wr.alloc (.cells #[.int .i64 i, .int .i64 j, .int .i64 mc] 52))).cell? ⟨wr.heap.size, 2, none⟩ = some (.int .i64 mc) := by simp [go_sem]
      have hb6 : Below w.heap.size w (wr.alloc (.cells #[.int .i64 i, .int .i64 j, .int .i64 mc] 52)) := hbq.alloc hbq.size _
      clear hza hzb hij hm1 hok
      by_cases hlt : za < mc
      · rw [if_pos hlt] at hS
        have HE := hide (HSE.out.trans (sendFrom_stop hM.out hS))
        clear hS
        go_wp2_with fail
        go_quiet (fail)
        go_wp2_with fail
        go_ret3
        refine ⟨_, by rw [HR1.out, HE.out]; rfl, ?_, bdn hb6 _⟩
        rw [HR1.out, HE.out]
        have h6 : ((wr.alloc (.cells #[.int .i64 i, .int .i64 j, .int .i64 mc] 52)).drewN nq).ownsRow w.heap.size 2 1 (.slice (some ⟨g, 0, none⟩) zs.length c3) zs.length (xs.map (Value.int .i64)) := HOM.out
        exact O_int_of h6 hs
      · rw [if_neg hlt] at hS
        have HE := hide (HSE.out.trans (sendFrom_cons hM.out hS))
        have HSN := hide (stOk_send HSX.out HZA.out HZB.out HIJ.out hc1 (by omega))
        clear hS
        go_wp2_with fail
        go_quiet (fail)
        go_wp2_with fail
        have hb7 : Below w.heap.size w ((wr.alloc (.cells #[.int .i64 i, .int .i64 j, .int .i64 mc] 52)).drewN nq) := bdn hb6 _
        have HOX4 : Hid (((wr.alloc (.cells #[.int .i64 i, .int .i64 j, .int .i64 mc] 52)).drewN nq).ownsRow w.heap.size 2 1 (.slice (some ⟨g, 0, none⟩) zs.length c3) zs.length (xs.map (Value.int .i64))) := HOM.out
        have e0 : ((wr.alloc (.cells #[.int .i64 i, .int .i64 j, .int .i64 mc] 52)).drewN nq).cell? ⟨wr.heap.size, 0, none⟩ = _ := hna
        have e1 : ((wr.alloc (.cells #[.int .i64 i, .int .i64 j, .int .i64 mc] 52)).drewN nq).cell? ⟨wr.heap.size, 1, none⟩ = _ := hnb
        have e2 : ((wr.alloc (.cells #[.int .i64 i, .int .i64 j, .int .i64 mc] 52)).drewN nq).cell? ⟨wr.heap.size, 2, none⟩ = _ := hnc
        have hszq : wr.heap.size + 1 ≤ ((wr.alloc (.cells #[.int .i64 i, .int .i64 j, .int .i64 mc] 52)).drewN nq).heap.size := by simp
        clear hna hnb hnc hxa HOM hb6 hca hcb hcc
        generalize (wr.alloc (.cells #[.int .i64 i, .int .i64 j, .int .i64 mc] 52)).drewN nq = w4 at *
        have hxa := own_int_at HOX4.out HZA.out
        have hxf := HOX4.out.frozenAt i
        go_still_tail 9, (by kernel_rfl)
        change wpList _ _ _ _ _ w4.drew
        have hb8 : Below w.heap.size w w4.drew := hb7.drew
        have HO4 : Hid (w4.drew.ownsRow w.heap.size 2 1 (.slice (some ⟨g, 0, none⟩) zs.length c3) zs.length (xs.map (Value.int .i64))) := HOX4.out
        have f0 : w4.drew.cell? ⟨wr.heap.size, 0, none⟩ = _ := e0
        have f1 : w4.drew.cell? ⟨wr.heap.size, 1, none⟩ = _ := e1
        have f2 : w4.drew.cell? ⟨wr.heap.size, 2, none⟩ = _ := e2
        clear e0 e1 e2 hxa hxf
        generalize w4.drew = wd at *
        have hxa := own_int_at HO4.out HZA.out
        have hxf := HO4.out.frozenAt i
        have hs1 := own_int_set HO4.out i (za - mc)
        have HO5 := hide hs1.1
        have hb9 : Below w.heap.size w (wd.setCell ⟨g, i, none⟩ (.int .i64 (za - mc))) := hb8.setCell (by dsimp only; omega) _
        have hcb := own_int_at HO5.out (show (xs.set i (za - mc))[j]? = some zb by rw [List.getElem?_set_ne HIJ.out]; exact HZB.out)
        have hfb := HO5.out.frozenAt j
        have d0 := (World.cell?_setCell_other wd ⟨g, i, none⟩ ⟨wr.heap.size, 0, none⟩ (.int .i64 (za - mc)) (fun e => by have := (Addr.mk.inj e).1; omega)).trans f0
        have d1 := (World.cell?_setCell_other wd ⟨g, i, none⟩ ⟨wr.heap.size, 1, none⟩ (.int .i64 (za - mc)) (fun e => by have := (Addr.mk.inj e).1; omega)).trans f1
        have d2 := (World.cell?_setCell_other wd ⟨g, i, none⟩ ⟨wr.heap.size, 2, none⟩ (.int .i64 (za - mc)) (fun e => by have := (Addr.mk.inj e).1; omega)).trans f2
        clear hs1
        go_wp2_with fail
        generalize wd.setCell ⟨g, i, none⟩ (.int .i64 (za - mc)) = we at *
        go_still_tail 9, (by kernel_rfl)
        change wpList _ _ _ _ _ we.drew
        have hb10 : Below w.heap.size w we.drew := hb9.drew
        have HO6 : Hid (we.drew.ownsRow w.heap.size 2 1 (.slice (some ⟨g, 0, none⟩) zs.length c3) zs.length ((xs.set i (za - mc)).map (Value.int .i64))) := HO5.out
        clear hcb hfb f0 f1 f2 hxa hxf d0 d1 d2
        generalize we.drew = wf at *
        have hcb := own_int_at HO6.out (show (xs.set i (za - mc))[j]? = some zb by rw [List.getElem?_set_ne HIJ.out]; exact HZB.out)
        have hfb := HO6.out.frozenAt j
        have hs2 := own_int_set HO6.out j (zb + mc)
        have HS2 := hide hs2
        clear hs2
        go_wp2_with fail
        go_roundg (ms.length - (k2 + 1))
        case measure => have := hg2.out; omega
        case rel => exact ⟨k2 + 1, _, by omega, rfl, by go_num, by rw [List.length_set, List.length_set]; exact HXL.out, HSN, HE, hide HS2.out.1, hb10.setCell (by dsimp only; omega) _, (HS2.out.1.lt g rfl).2⟩
    · have HE : Hid (sendFrom zs ms 0 = (xs, -1)) := by
        have := HSE.out; rw [List.drop_eq_nil_of_le (by omega)] at this; exact this
      go_wp2_with fail
      go_ret3
      refine ⟨_, by rw [HR1.out, HE.out]; rfl, ?_, hbq⟩
      rw [HR1.out, HE.out]
      exact O_int_of HOX.out hs
end Go.Proofs.Ytgkmgncenljdaaa
