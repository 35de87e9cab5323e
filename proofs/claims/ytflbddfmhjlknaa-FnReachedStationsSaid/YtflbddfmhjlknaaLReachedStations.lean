/-
  The law FnReachedStations returns true for every input. No condition.
-/
import Derived.Test.YtflbddfmhjlknaaNet6
import Derived.Test.YtflbddfmhjlknaaNet8
import Derived.Test.YtflbddfmhjlknaaNetQ
import Derived.Test.YtflbddfmhjlknaaSrc9
import Derived.Test.YtflbddfmhjlknaaLawH
import Derived.Test.YtflbddfmhjlknaaRows
import Derived.Test.YtflbddfmhjlknaaOpenB
import Derived.ProofKit
import Derived.Deep.DeepCutAuto
import Derived.Deep.RegionHeld3
import Derived.OpenShut
namespace Go.Proofs.Ytflbddfmhjlknaa
open Go.ChangeShapes Go.WideShapes Go.ChangeAt Go.RowKit

set_option maxRecDepth 100000 in
set_option maxHeartbeats 8000000 in
theorem lReachedStations_walk (x : List Int) (v : Value) (w : World) (r : ∃ A c, v = .slice A x.length c ∧ RdB w w.heap.size A x) (nx : x.length ≤ 9223372036854775807) (fx : ∀ z ∈ x, 0 ≤ z ∧ z ≤ 255) :
    Calls Try.prog 8 #[v] w fun e w' => e = .returned (.bool true) ∧ Below w.heap.size w w' := by
  obtain ⟨A, c, rfl, r⟩ := r
  have HL := hide (a2Long_any x.length 0 A none c 0 w nx (by omega))
  by_cases hlong : 3000 < x.length
  · rw [decide_eq_true (show 3000 < x.length ∨ 3000 < 0 from .inl hlong)] at HL
    clear hlong r
    go_enter Try.func8, Try.ntmps8
    go_wp2_with (go_at_call 65; refine (HL.out).mono ?_; rintro e w' ⟨rfl, rfl⟩)
    go_ret
    exact ⟨rfl, Below.refl _ _⟩
  rw [decide_eq_false (show ¬ (3000 < x.length ∨ 3000 < 0) by omega)] at HL
  have HT := hide (a2Net_any x A c w ⟨by omega, fx⟩ r)
  clear r nx fx hlong
  go_enter Try.func8, Try.ntmps8
  go_upto_region 4 with (first | (go_at_call 65; refine (HL.out).mono ?_; rintro e w' ⟨rfl, rfl⟩) | (go_at_call 66; (with_reducible refine (HT.out).mono ?_); rintro e w1 ⟨n, A2, c2, tb, rfl, hrd, hok, hl14, b1⟩))
  have HOK := hide hok
  obtain ⟨hn2, hn10⟩ := hok.1
  have X2 := hide (BoxN.new w1 #[.int .i64 n, .slice A2 tb.length c2] 87)
  have HB2 := hide (b1.alloc b1.size (.cells #[.int .i64 n, .slice A2 tb.length c2] 87))
  have b12 : Below w1.heap.size w1 (w1.alloc (.cells #[.int .i64 n, .slice A2 tb.length c2] 87)) := (Below.refl _ _).alloc (Nat.le_refl _) _
  have HR2 := hide ((hrd.below b12).more b12.size)
  have HST := hide (implIsStrong_any n tb A2 c2 _ hok ((hrd.below b12).more b12.size))
  have HSA := hide (strong_all hok)
  clear hrd hok b1 b12 HL HT
  generalize strongB n tb (-1) = sb at *
  generalize w1.heap.size = gN at *
  generalize w1.alloc (.cells #[.int .i64 n, .slice A2 tb.length c2] 87) = w2 at *
  have x0 : w2.cell? ⟨gN, 0, none⟩ = some (.int .i64 n) := X2.out.cell 0
  have x1 : w2.cell? ⟨gN, 1, none⟩ = some (.slice A2 tb.length c2) := X2.out.cell 1
  have hgN := X2.out.lt
  go_wp2_with (go_at_call 67; refine (HST.out).mono ?_; rintro e w3 ⟨rfl, b3⟩)
  have HB3 := hide b3
  clear HST b3 x0 x1
  go_loopg [6, 7] n (fun g al i wr => ∃ (k : Nat) (bv : Bool), k ≤ n ∧ Hid (g = n - k) ∧ i = .int .i64 k ∧ al = .bool bv ∧ Hid (bv = (List.range k).all fun i : Nat => decide ((reachL n tb i).length = n)) ∧ Hid (Below w2.heap.size w2 wr))
  case atStart => exact ⟨0, true, by omega, by simp [Hid], rfl, rfl, by simp [Hid], HB3.out⟩
  case round =>
    obtain ⟨k, bv, hk, hg, rfl, rfl, HBV, HB⟩ := hrel
    clear HB3
    have y0 : wr.cell? ⟨gN, 0, none⟩ = some (.int .i64 n) := (HB.out.cell (p := ⟨gN, 0, none⟩) hgN).trans (X2.out.cell 0)
    have y1 : wr.cell? ⟨gN, 1, none⟩ = some (.slice A2 tb.length c2) := (HB.out.cell (p := ⟨gN, 1, none⟩) hgN).trans (X2.out.cell 1)
    by_cases hkn : k < n
    · have hkn' : (k : Int) < (n : Int) := by omega
      have HY := hide fun W (hW : Below wr.heap.size wr W) (j : Nat) => (HB.out.trans (hW.mono HB.out.size)).cell (p := ⟨gN, j, none⟩) hgN
      have HRW := hide fun W (hW : Below wr.heap.size wr W) => (HR2.out.below (HB.out.trans (hW.mono HB.out.size))).more (HB.out.trans (hW.mono HB.out.size)).size
      have HC1 := hide (implReached_any n tb k A2 c2 wr HOK.out (by omega) (HRW.out wr (Below.refl _ _)))
      have HC2 := hide fun W (hW : Below wr.heap.size wr W) => implTubesFrom_any n tb k A2 c2 W HOK.out (by omega) (HRW.out W hW)
      have HSL := hide fun (z : Int) W (hW : Below wr.heap.size wr W) (hz : z ∈ reachL n tb k) => implShortest_any n tb k z A2 c2 W HOK.out (by omega) (reach_dist hz).1 (HRW.out W hW)
      have HDZ := hide fun (z : Int) (hz : z ∈ reachL n tb k) => (reach_dist hz).2
      have HRI := hide (idx_rises (reachP n tb k) (List.range n))
      have HRT := hide (idx_rises (fun t : T3 => t.a == (k : Int)) tb)
      have HSE := hide (reach_self HOK.out hkn)
      have HNX := hide fun (j : Nat) (t : T3) (ht : tb[j]? = some t) (ha : hasI (reachL n tb k) t.a = true) => reach_next HOK.out ht ha
      have HTM := hide fun (j : Nat) (t : T3) (ht : tb[j]? = some t) => tubes_mem (s := (k : Int)) ht
      have hl1 : (reachL n tb k).length ≤ 1000 := by have := idxFrom_len (reachP n tb k) (List.range n) 0; rw [List.length_range] at this; unfold reachL; omega
      have hl2 : (tubesL tb k).length ≤ 1000 := by have := idxFrom_len (fun t : T3 => t.a == (k : Int)) tb 0; unfold tubesL; omega
      have HRI' : Hid (Rises (reachL n tb k) n) := by have h := HRI.out; rw [List.length_range] at h; exact h
      have HRT' : Hid (Rises (tubesL tb k) tb.length) := HRT.out
      have HBVN := hide (show (bv && decide ((reachL n tb k).length = n)) = (List.range (k + 1)).all fun i : Nat => decide ((reachL n tb i).length = n) by rw [HBV.out, List.range_succ, List.all_append]; simp)
      clear HRI HRT HBV
      generalize reachL n tb k = L1 at *
      generalize tubesL tb k = L2 at *
      go_upto_region 13 with (first
        | (go_at_call 68; (with_reducible refine (HC1.out).mono ?_); rintro e w4 ⟨A4, c4, rfl, r4, b4⟩; have z0 := (HY.out w4 b4 0).trans (X2.out.cell 0); have z1 := (HY.out w4 b4 1).trans (X2.out.cell 1))
        | (go_at_call 69; (with_reducible refine (HC2.out _ b4).mono ?_); rintro e w5 ⟨A5, c5, rfl, r5, b5⟩; have b45 := b4.trans (b5.mono b4.size); have u0 := (HY.out w5 b45 0).trans (X2.out.cell 0); have u1 := (HY.out w5 b45 1).trans (X2.out.cell 1); have HRS := hide (a2Rises_any L1 n A4 c4 w5 (by omega) HRI'.out ((r4.below b5).more b5.size)))
        | (go_at_call 70; (with_reducible refine (HRS.out).mono ?_); rintro e w6 ⟨rfl, b6⟩; have b46 := b45.trans (b6.mono b45.size); have v0 := (HY.out w6 b46 0).trans (X2.out.cell 0); have v1 := (HY.out w6 b46 1).trans (X2.out.cell 1); have b56 := b5.trans (b6.mono b5.size); have HHS := hide (a2Has_any L1 k A4 c4 w6 (by omega) ((r4.below b56).more b56.size)); rw [HSE.out] at HHS; have HRS2 := hide (a2Rises_any L2 tb.length A5 c5 w6 (by omega) HRT'.out ((r5.below b6).more b6.size)))
        | (go_at_call 71; refine (HHS.out).mono ?_; rintro e w' ⟨rfl, rfl⟩)
        | (go_at_call 70; (with_reducible refine (HRS2.out).mono ?_); rintro e w7 ⟨rfl, b7⟩))
      have b47 := b46.trans (b7.mono b46.size)
      have HB47 := hide b47
      have R4 := hide ((r4.below (b56.trans (b7.mono b56.size))).more (b56.trans (b7.mono b56.size)).size)
      have b67 := b6.trans (b7.mono b6.size)
      have R5 := hide ((r5.below b67).more b67.size)
      have s0 := (HY.out w7 b47 0).trans (X2.out.cell 0)
      clear r4 r5 b4 b5 b6 b7 b45 b46 b56 b67 b47 z0 z1 u0 u1 v0 v1 HRS HHS HRS2 HC1 HC2 y0 y1
      go_cut [6] (fun c wx => c = .bool (bv && decide (L1.length = n)) ∧ w7 = wx)
      case first =>
        cases bv
        · go_wp2_with fail
          go_meet
          exact ⟨rfl, rfl⟩
        · by_cases hln : L1.length = n
          · have hB : ((L1.length : Int) == (n : Int)) = true := by simp [hln]
            have HLN := hide (show decide (L1.length = n) = true from decide_eq_true hln)
            clear hln
            go_wp2_with fail
            go_meet
            exact ⟨by rw [HLN.out]; rfl, rfl⟩
          · have hB : ((L1.length : Int) == (n : Int)) = false := by simp; omega
            have HLN := hide (show decide (L1.length = n) = false from decide_eq_false hln)
            clear hln
            go_wp2_with fail
            go_meet
            exact ⟨by rw [HLN.out]; rfl, rfl⟩
      case rest =>
        obtain ⟨rfl, rfl⟩ := hcut
        generalize (bv && decide (L1.length = n)) = bw at *
        clear s0
        go_wp2_with fail
        go_loopg [12] tb.length (fun gm i wr' => ∃ j : Nat, j ≤ tb.length ∧ Hid (gm = tb.length - j) ∧ i = .int .i64 j ∧ Hid (Below w7.heap.size w7 wr'))
        case atStart => exact ⟨0, by omega, by simp [Hid], rfl, Below.refl _ _⟩
        case round =>
          obtain ⟨j, hj, hgm, rfl, HBJ⟩ := hrel
          have hb4 := HB47.out.trans (HBJ.out.mono HB47.out.size)
          have t1 := (HY.out _ hb4 1).trans (X2.out.cell 1)
          by_cases hjt : j < tb.length
          · obtain ⟨pb, po, t, hA2, _, htj, hta, htb, htc⟩ := (HRW.out _ hb4).at_ hjt
            cases hA2
            have HNXJ := hide fun ha => HNX.out j t htj ha
            have HTMJ := hide (HTM.out j t htj)
            clear htj
            have HBK := hide (HBJ.out.alloc HBJ.out.size (.cells #[.int .i64 t.a, .int .i64 t.b, .int .i64 t.c] 93))
            have XT := hide (BoxN.new wr #[.int .i64 t.a, .int .i64 t.b, .int .i64 t.c] 93)
            have hj9 : (j : Int) < (tb.length : Int) := by omega
            clear hb4 HBJ
            go_upto_region 18 with fail
            generalize wr.alloc (.cells #[.int .i64 t.a, .int .i64 t.b, .int .i64 t.c] 93) = wT at *
            generalize wr.heap.size = gT at *
            have k0 : wT.cell? ⟨gT, 0, none⟩ = some (.int .i64 t.a) := XT.out.cell 0
            have k1 : wT.cell? ⟨gT, 1, none⟩ = some (.int .i64 t.b) := XT.out.cell 1
            have H1 := hide fun (m : Nat) => a2Has_any L1 t.a A4 c4 (wT.drewN m) (by omega) ((R4.out.below (bdn HBK.out m)).more (bdn HBK.out m).size)
            have H2 := hide fun (m : Nat) => a2Has_any L1 t.b A4 c4 (wT.drewN m) (by omega) ((R4.out.below (bdn HBK.out m)).more (bdn HBK.out m).size)
            have H3 := hide fun (m : Nat) => a2Has_any L2 j A5 c5 (wT.drewN m) (by omega) ((R5.out.below (bdn HBK.out m)).more (bdn HBK.out m).size)
            rw [HTMJ.out] at H3
            clear t1 hta htb htc
            cases ha : hasI L1 t.a
            · rw [ha] at H1
              have HHA := hide ha
              clear ha
              go_quiet (first | (go_at_call 71; with_reducible exact ql (H1.out _)) | (go_at_call 71; with_reducible exact ql (H3.out _)))
              go_wp2_with fail
              go_roundg (tb.length - (j + 1))
              case measure => have := hgm.out; omega
              case rel => exact ⟨j + 1, by omega, rfl, by go_num, bdn HBK.out _⟩
            · rw [ha] at H1
              rw [HNXJ.out ha] at H2
              have HHA := hide ha
              clear ha
              go_quiet (first | (go_at_call 71; with_reducible exact ql (H1.out _)) | (go_at_call 71; with_reducible exact ql (H2.out _)) | (go_at_call 71; with_reducible exact ql (H3.out _)))
              go_wp2_with fail
              go_roundg (tb.length - (j + 1))
              case measure => have := hgm.out; omega
              case rel => exact ⟨j + 1, by omega, rfl, by go_num, bdn HBK.out _⟩
          · clear hb4
            go_wp2_with fail
            have HB8 := HBJ
            go_loopg [14] L1.length (fun gm i wr' => ∃ m : Nat, m ≤ L1.length ∧ Hid (gm = L1.length - m) ∧ i = .int .i64 m ∧ Hid (Below w7.heap.size w7 wr'))
            case atStart => exact ⟨0, by omega, by simp [Hid], rfl, HB8.out⟩
            case round =>
              obtain ⟨m, hm, hgm2, rfl, HBM⟩ := hrel
              clear t1 HB8 HBJ
              have hb4 := HB47.out.trans (HBM.out.mono HB47.out.size)
              by_cases hmt : m < L1.length
              · obtain ⟨b9, o9, z, hA4, _, hz, hcz⟩ := (R4.out.below HBM.out).at_ hmt
                cases hA4
                have hzm := List.mem_of_getElem? hz
                have s0 := (HY.out _ hb4 0).trans (X2.out.cell 0)
                have s1 := (HY.out _ hb4 1).trans (X2.out.cell 1)
                have hm9 : (m : Int) < (L1.length : Int) := by omega
                have HZM := hide hzm
                have HB4 := hide hb4
                clear hz hzm hb4
                go_wp2_with fail
                have e0 : wr.drew.cell? ⟨gN, 0, none⟩ = some (.int .i64 n) := s0
                have e1 : wr.drew.cell? ⟨gN, 1, none⟩ = some (.slice A2 tb.length c2) := s1
                have e2 : wr.drew.cell? ⟨b9, o9 + m, none⟩ = some (.int .i64 z) := hcz
                have hgw : gN < wr.drew.heap.size := World.block_lt_of_cell? _ _ e0
                have hbw : b9 < wr.drew.heap.size := World.block_lt_of_cell? _ _ e2
                have HS := hide (HSL.out z wr.drew HB4.out.drew HZM.out)
                rw [if_pos (HDZ.out z HZM.out), if_pos (HDZ.out z HZM.out)] at HS
                have HBD : Hid (Below w7.heap.size w7 wr.drew) := HBM.out.drew
                generalize dAt (dist n tb z (-1)) k = dz at *
                clear s0 s1 hcz HBM HB4
                refine wp_region_held_drew (S := fun W => W.cell? ⟨gN, 0, none⟩ = some (.int .i64 n) ∧ W.cell? ⟨gN, 1, none⟩ = some (.slice A2 tb.length c2) ∧ W.cell? ⟨b9, o9 + m, none⟩ = some (.int .i64 z)) (by kernel_rfl) (⟨e0, e1, e2⟩) (fun hHeld => ?_)
                generalize wr.drew = wd at *
                refine wpAnyH_take (i := 0) (v := ?_) rfl (by kernel_rfl) (by kernel_rfl) (by kernel_rfl) (fun _ _ _ h => h) (Or.inl ⟨by rfl, ?_⟩) (by assumption) ?_
                rotate_left 1
                · (intro w hSw; (try dsimp only at hSw); go_simp; try with_reducible rfl)
                try simp only [Act.put, List.getElem_toArray, List.getElem_cons_succ, List.getElem_cons_zero, List.setIfInBounds_toArray, List.set_cons_zero, List.set_cons_succ]
                refine wpAnyH_take (i := 1) (v := ?_) rfl (by kernel_rfl) (by kernel_rfl) (by kernel_rfl) (fun _ _ _ h => h) (Or.inl ⟨by rfl, ?_⟩) (by assumption) ?_
                rotate_left 1
                · (intro w hSw; (try dsimp only at hSw); go_simp; try with_reducible rfl)
                try simp only [Act.put, List.getElem_toArray, List.getElem_cons_succ, List.getElem_cons_zero, List.setIfInBounds_toArray, List.set_cons_zero, List.set_cons_succ]
                refine wpAnyH_take (i := 2) (v := ?_) rfl (by kernel_rfl) (by kernel_rfl) (by kernel_rfl) (fun _ _ _ h => h) (Or.inl ⟨by rfl, ?_⟩) (by assumption) ?_
                rotate_left 1
                · (intro w hSw; (try dsimp only at hSw); go_simp; try with_reducible rfl)
                try simp only [Act.put, List.getElem_toArray, List.getElem_cons_succ, List.getElem_cons_zero, List.setIfInBounds_toArray, List.set_cons_zero, List.set_cons_succ]
                refine wpAnyH_take (i := 3) (v := ?_) rfl (by kernel_rfl) (by kernel_rfl) (by kernel_rfl) (fun _ _ _ h => h) (Or.inl ⟨by rfl, ?_⟩) (by assumption) ?_
                rotate_left 1
                · (intro w hSw; (try dsimp only at hSw); go_simp; try with_reducible rfl)
                try simp only [Act.put, List.getElem_toArray, List.getElem_cons_succ, List.getElem_cons_zero, List.setIfInBounds_toArray, List.set_cons_zero, List.set_cons_succ]
                refine wpAnyH_take (i := 4) (v := ?_) rfl (by kernel_rfl) (by kernel_rfl) (by kernel_rfl) (fun _ _ _ h => h) (Or.inl ⟨by rfl, ?_⟩) (by assumption) ?_
                rotate_left 1
                · (intro w hSw; (try dsimp only at hSw); go_simp; try with_reducible rfl)
                try simp only [Act.put, List.getElem_toArray, List.getElem_cons_succ, List.getElem_cons_zero, List.setIfInBounds_toArray, List.set_cons_zero, List.set_cons_succ]
                refine wpAnyH_take (i := 5) (v := ?_) rfl (by kernel_rfl) (by kernel_rfl) (by kernel_rfl) (fun _ _ _ h => h) (Or.inl ⟨by rfl, ?_⟩) (by assumption) ?_
                rotate_left 1
                · (intro w hSw; (try dsimp only at hSw); go_simp; try with_reducible rfl)
                try simp only [Act.put, List.getElem_toArray, List.getElem_cons_succ, List.getElem_cons_zero, List.setIfInBounds_toArray, List.set_cons_zero, List.set_cons_succ]
                refine wpAnyH_ready (rs := [6]) (by kernel_rfl) (by simp) ?_
                refine AllReadyH.cons rfl (fun K hK => ?_) AllReadyH.nil
                try simp only [Act.put, List.getElem_toArray, List.getElem_cons_succ, List.getElem_cons_zero, List.setIfInBounds_toArray, List.set_cons_zero, List.set_cons_succ]
                go_simp
                go_at_call 72
                refine (HS.out).mono ?_
                rintro e' w9 ⟨rfl, b9'⟩
                have j0 := (b9'.cell (p := ⟨gN, 0, none⟩) hgw).trans e0
                have j1 := (b9'.cell (p := ⟨gN, 1, none⟩) hgw).trans e1
                have j2 := (b9'.cell (p := ⟨b9, o9 + m, none⟩) hbw).trans e2
                dsimp only
                refine hK.out _ _ (⟨j0, j1, j2⟩) (fun hHeld => ?_)
                clear hK K
                try simp only [Act.put, List.getElem_toArray, List.getElem_cons_succ, List.getElem_cons_zero, List.setIfInBounds_toArray, List.set_cons_zero, List.set_cons_succ]
                refine wpAnyH_take (i := 7) (v := ?_) rfl (by kernel_rfl) (by kernel_rfl) (by kernel_rfl) (fun _ _ _ h => h) (Or.inl ⟨by rfl, ?_⟩) (by assumption) ?_
                rotate_left 1
                · (intro w hSw; (try dsimp only at hSw); go_simp; try with_reducible rfl)
                try simp only [Act.put, List.getElem_toArray, List.getElem_cons_succ, List.getElem_cons_zero, List.setIfInBounds_toArray, List.set_cons_zero, List.set_cons_succ]
                refine wpAnyH_take (i := 8) (v := ?_) rfl (by kernel_rfl) (by kernel_rfl) (by kernel_rfl) (fun _ _ _ h => h) (Or.inl ⟨by rfl, ?_⟩) (by assumption) ?_
                rotate_left 1
                · (intro w hSw; (try dsimp only at hSw); go_simp; try with_reducible rfl)
                try simp only [Act.put, List.getElem_toArray, List.getElem_cons_succ, List.getElem_cons_zero, List.setIfInBounds_toArray, List.set_cons_zero, List.set_cons_succ]
                refine wpAnyH_take (i := 9) (v := ?_) rfl (by kernel_rfl) (by kernel_rfl) (by kernel_rfl) (fun _ _ _ h => h) (Or.inl ⟨by rfl, ?_⟩) (by assumption) ?_
                rotate_left 1
                · (intro w hSw; (try dsimp only at hSw); go_simp; try with_reducible rfl)
                try simp only [Act.put, List.getElem_toArray, List.getElem_cons_succ, List.getElem_cons_zero, List.setIfInBounds_toArray, List.set_cons_zero, List.set_cons_succ]
                refine wpAnyH_take (i := 10) (v := ?_) rfl (by kernel_rfl) (by kernel_rfl) (by kernel_rfl) (fun _ _ _ h => h) (Or.inl ⟨by rfl, ?_⟩) (by assumption) ?_
                rotate_left 1
                · (intro w hSw; (try dsimp only at hSw); go_simp; try with_reducible rfl)
                try simp only [Act.put, List.getElem_toArray, List.getElem_cons_succ, List.getElem_cons_zero, List.setIfInBounds_toArray, List.set_cons_zero, List.set_cons_succ]
                refine wpAnyH_take (i := 11) (v := ?_) rfl (by kernel_rfl) (by kernel_rfl) (by kernel_rfl) (fun _ _ _ h => h) (Or.inl ⟨by rfl, ?_⟩) (by assumption) ?_
                rotate_left 1
                · (intro w hSw; (try dsimp only at hSw); go_simp; try with_reducible rfl)
                try simp only [Act.put, List.getElem_toArray, List.getElem_cons_succ, List.getElem_cons_zero, List.setIfInBounds_toArray, List.set_cons_zero, List.set_cons_succ]
                refine wpAnyH_done (by kernel_rfl) ?_ _
                go_wp2_with fail
                have HB9 := hide (HBD.out.trans (b9'.mono HBD.out.size))
                go_roundg (L1.length - (m + 1))
                case measure => have := hgm2.out; omega
                case rel => exact ⟨m + 1, by omega, rfl, by go_num, HB9⟩
              · have HBE := hide (HB.out.trans (hb4.mono HB.out.size))
                clear hb4
                go_wp2_with fail
                go_roundg (n - (k + 1))
                case measure => have := hg.out; omega
                case rel => exact ⟨k + 1, bw, by omega, rfl, by go_num, rfl, HBVN, HBE⟩
    · have hkl : k = n := by omega
      have HE := hide (show sb = bv by rw [HSA.out, HBV.out, hkl])
      have HBE := hide (HB2.out.trans (HB.out.mono HB2.out.size))
      clear hkl HSA HBV
      obtain rfl := HE.out
      go_wp2_with fail
      go_ret
      exact ⟨ret_b (by simp), HBE.out⟩
theorem fnReachedStations_own : ownKnob Try.prog.godebug = none := by kernel_rfl
theorem fnReachedStations_laid : laidOutB Try.prog = true := by kernel_rfl
set_option maxRecDepth 100000 in
theorem fnReachedStations_lifted (os : Os) (started : os.Started) (H : Type) (enc : TypeId × Value → H) :
    ReturnsInHanded {} Try.checked os 8 .any (Rows.fnReachedStationsSpec.pre6 enc Try.prog Try.f8 Rows.fnReachedStationsRow.domain false) (Rows.fnReachedStationsSpec.post enc Try.prog Try.f8 false true false false) := by
  refine returnsInHanded_of_change (C := Try.checked) fnReachedStations_own started (by kernel_rfl) Try.func8
    (ChangeSpec.witness6 (enc := enc) (C := Try.checked) false ⟨#[], #[.slice none 0 0], []⟩ 8 (by kernel_rfl) (by kernel_rfl) (by kernel_rfl) (by kernel_rfl)) ?_
  intro W base args ds gs before hval0 hW hcnd _
  have hval : ∀ (j : Nat) t v, Try.f8.params[j]? = some t → args[j]? = some v → Value.okWide Try.prog W .any base t v := hval0
  have hW' := hW
  obtain ⟨p, q, hA0, hV, rfl, hfz, hnd⟩ := hW
  have hA : DataW.TrodAll enc Try.prog W 0 (fun _ => true) true Try.f8.params.toList args.toList ds p := hA0
  rw [Try.params8] at hA hval
  obtain ⟨v0, vs0, d0, ds0, p0, q0, hargs, rfl, rfl, h0, r0⟩ := trodAll_cons hA
  obtain ⟨rfl, rfl, rfl⟩ := trodAll_nil r0
  obtain rfl : args = #[v0] := by cases args; simp_all
  obtain ⟨rfl, rfl⟩ := trodVars_none hV
  have k0 := h0
  have lt0 : ∀ x ∈ p0, x.block < W.heap.size := by obtain ⟨m, hm⟩ := k0; exact DataW.trod_lt m _ _ _ hm
  obtain ⟨A0, c0, zs0, rfl, rd0, len0, bd0⟩ := open_B Try.underlying22 Try.underlying5 (by kernel_rfl) (hval 0 22 v0 rfl rfl) h0
  clear hA0 hval0
  refine (lReachedStations_walk zs0 (.slice A0 zs0.length c0) W ⟨A0, c0, rfl, rd0⟩ len0 bd0).mono fun e W' ⟨he, bel⟩ => ?_
  subst he
  exact ⟨_, rfl, _, _, _, [], _, [], hW', trodAll_mk1 (shut_bool Try.underlying4 _), (trodAll_cons_mk (Below.trod fnReachedStations_laid (by kernel_rfl) (of_decide_eq_true (by kernel_rfl)) k0 bel lt0) trodAll_mk0), rfl, bel.frame _, fun h => by cases h⟩
theorem fnReachedStations_holds : Rows.FnReachedStationsSaid :=
  OpenClaim.holds_of_wide 8 Try.f8 rfl rfl rfl rfl rfl rfl rfl ⟨rfl, rfl, rfl, rfl, rfl⟩ rfl rfl rfl rfl rfl (by kernel_rfl) Try.func8 (by kernel_rfl)
    (of_decide_eq_true (by kernel_rfl)) (by unfold Func.isWrapper; first | (rw [if_pos (by decide +kernel)]; kernel_rfl) | (rw [if_neg (by decide +kernel)]; exact ⟨rfl, rfl⟩))
    (fun os started H enc _ => fnReachedStations_lifted os started H enc)
#print axioms fnReachedStations_holds
end Go.Proofs.Ytflbddfmhjlknaa
