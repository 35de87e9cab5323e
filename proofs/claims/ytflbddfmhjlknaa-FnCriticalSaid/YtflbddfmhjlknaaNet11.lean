/-
  Networks in the reference: the least lengths.
-/
import Derived.Test.YtflbddfmhjlknaaNetR
import Derived.Test.YtflbddfmhjlknaaNet6
namespace Go.Proofs.Ytflbddfmhjlknaa
open Go.RowKit
set_option maxRecDepth 100000 in
set_option maxHeartbeats 8000000 in
theorem l02Far_any (n : Nat) (tb : List T3) (td : Nat) (A : Option Addr) (c b : Nat) (w : World) (h : OkNet n tb) (htd : td < n) (hr : Rd3 w w.heap.size A tb) (hbx : BoxN w b #[.int .i64 n, .slice A tb.length c] 87) :
    Calls Try.prog 161 #[.pointer (some ⟨b, 0, none⟩), .int .i64 td, .int .i64 (-1)] w fun e w' => ∃ (g' : Nat) (d : List Int), e = .returned (.slice (some ⟨g', 0, none⟩) n n) ∧ w'.ownsRow w.heap.size 2 1 (.slice (some ⟨g', 0, none⟩) n n) n (d.map (Value.int .i64)) ∧ FB n tb td d ∧ Below w.heap.size w w' := by
  obtain ⟨i0, hi0, hz0, hs0, hb0⟩ := info_parts int64_info
  obtain ⟨⟨hn2, hn10⟩, hl, ht⟩ := h
  have hbl := hbx.lt
  have HT := hide ht
  have HOK : Hid (OkTubes n tb) := fun t ht' => by
    obtain ⟨h1, h2, _, h3⟩ := ht t ht'
    exact ⟨by omega, by omega, h3⟩
  have HR := hide hr
  have X0 := hide hbx
  have k0 : w.cell? ⟨b, 0, none⟩ = some (.int .i64 n) := hbx.cell 0
  clear ht hr hbx
  go_enter Try.func161, Try.ntmps161
  go_wp2_with (refine wpList_make_full _ rfl _ _ _ rfl w.heap.size 2 i0 _ 1 Try.underlying30 hi0 hz0 hs0 .i64 .i64 (n : Int) (n : Int) n rfl rfl rfl rfl (by rw [hb0]; omega) (by unfold maxLen; omega) (Nat.le_refl _) ?_; intro w1 hown1 hgr1)
  have hr1 : w1.ownsRow w.heap.size 2 1 (.slice (some ⟨w.heap.size, 0, none⟩) n n) n (repC 0 n) := by
    have h := made_ints n
    rw [h] at hown1
    exact hown1
  have HB1 := hide (show Below w.heap.size w w1 from (Below.refl _ _).grown hgr1 (Nat.le_refl _) (by intro k hk; cases hk))
  clear hown1 hgr1 k0
  go_loopg [8] n (fun g i wr => ∃ k : Nat, k ≤ n ∧ Hid (g = n - k) ∧ i = .int .i64 k ∧ Hid (wr.ownsRow w.heap.size 2 1 (.slice (some ⟨w.heap.size, 0, none⟩) n n) n (repC k n)) ∧ Hid (Below w.heap.size w wr))
  case atStart => exact ⟨0, by omega, by simp [Hid], rfl, hr1, HB1.out⟩
  case round =>
    obtain ⟨k, hk, hg, rfl, HRW, HB⟩ := hrel
    clear hr1 HB1
    by_cases hkn : k < n
    · have hkn' : (k : Int) < (n : Int) := by omega
      have hc0 : wr.cell? ⟨w.heap.size, k, none⟩ = some (.int .i64 0) := by
        rw [HRW.out.cellAt k (by omega)]; unfold repC
        rw [List.getElem?_map, List.getElem?_append_right (by simp), List.length_replicate, Nat.sub_self, List.getElem?_replicate, if_pos (by omega)]; rfl
      have hf0 := HRW.out.frozenAt k
      have ST := hide (HRW.out.stored k (.int .i64 (-1)))
      have HR2 := hide (show (wr.setCell ⟨w.heap.size, k, none⟩ (.int .i64 (-1))).ownsRow w.heap.size 2 1 (.slice (some ⟨w.heap.size, 0, none⟩) n n) n (repC (k + 1) n) from by
        have h := ST.out.1
        rw [repC_next hkn] at h
        exact h)
      have HB2 := hide (HB.out.setCell (p := ⟨w.heap.size, k, none⟩) (Nat.le_refl _) (.int .i64 (-1)))
      go_wp2_with fail
      go_roundg (n - (k + 1))
      case measure => have := hg.out; omega
      case rel => exact ⟨k + 1, by omega, rfl, by go_num, HR2, HB2⟩
    · obtain rfl : k = n := by omega
      have HRF : Hid (wr.ownsRow w.heap.size 2 1 (.slice (some ⟨w.heap.size, 0, none⟩) k k) k ((List.replicate k (-1 : Int)).map (Value.int .i64))) := by
        have h := HRW.out
        have e : repC k k = (List.replicate k (-1 : Int)).map (Value.int .i64) := by simp [repC]
        rw [e] at h
        exact h
      have hc0 : wr.cell? ⟨w.heap.size, td, none⟩ = some (.int .i64 (-1)) := by
        rw [HRF.out.cellAt td (by omega), List.getElem?_map, List.getElem?_replicate, if_pos htd]; rfl
      have hf0 := HRF.out.frozenAt td
      have ST := hide (HRF.out.stored td (.int .i64 0))
      have HR2 := hide (show (wr.setCell ⟨w.heap.size, td, none⟩ (.int .i64 0)).ownsRow w.heap.size 2 1 (.slice (some ⟨w.heap.size, 0, none⟩) k k) k ((dist0 k td).map (Value.int .i64)) from by
        have h := ST.out.1
        rw [← List.map_set] at h
        unfold dist0
        rw [Int.toNat_natCast]
        exact h)
      have HB2 := hide (HB.out.setCell (p := ⟨w.heap.size, td, none⟩) (Nat.le_refl _) (.int .i64 0))
      have ht0 : (td : Int) < (k : Int) := by omega
      have HFB := hide (FB.start (tb := tb) htd)
      clear HRF HRW HB
      go_upto_region 7 with fail
      generalize wr.setCell ⟨w.heap.size, td, none⟩ (.int .i64 0) = w3 at *
      go_wp2_with fail
      go_loopg [9] ((mm (dist0 k td)).toNat + 1) (fun g al wr => ∃ (d : List Int) (bv : Bool), al = .bool bv ∧ Hid (g = if bv then (mm d).toNat + 1 else 0) ∧ Hid (FB k tb td d) ∧ Hid (wr.ownsRow w.heap.size 2 1 (.slice (some ⟨w.heap.size, 0, none⟩) k k) k (d.map (Value.int .i64))) ∧ Hid (Below w.heap.size w wr))
      case atStart => exact ⟨dist0 k td, true, rfl, by simp [Hid], HFB, HR2, HB2⟩
      case round =>
        obtain ⟨d, bv, rfl, hg2, HF, HRD, HBD⟩ := hrel
        clear HR2 HB2 HFB hc0 hf0 ST
        cases bv
        · go_wp2_with fail
          go_ret
          exact ⟨w.heap.size, d, rfl, HRD.out, HF.out, HBD.out⟩
        · have HMN := hide (mm_nonneg fun z hz => ((HF.out.bd (by omega)) z hz).1)
          go_wp2_with fail
          go_loopg [9, 10] tb.length (fun gm al i wr => ∃ (j : Nat) (e : List Int) (mv : Bool), j ≤ tb.length ∧ Hid (gm = tb.length - j) ∧ i = .int .i64 j ∧ al = .bool mv ∧ Hid (mm e ≤ mm d ∧ (mv = true → mm e < mm d)) ∧ Hid (FB k tb td e) ∧ Hid (wr.ownsRow w.heap.size 2 1 (.slice (some ⟨w.heap.size, 0, none⟩) k k) k (e.map (Value.int .i64))) ∧ Hid (Below w.heap.size w wr))
          case atStart => exact ⟨0, d, false, by omega, by simp [Hid], rfl, rfl, ⟨Int.le_refl _, fun h => by cases h⟩, HF, HRD, HBD⟩
          case round =>
            obtain ⟨j, e, mv, hj, hgm, rfl, rfl, HMM, HFE, HRE, HBE⟩ := hrel
            clear HF HRD HBD
            have x1 : wr.cell? ⟨b, 1, none⟩ = some (.slice A tb.length c) := (HBE.out.cell (p := ⟨b, 1, none⟩) hbl).trans (X0.out.cell 1)
            by_cases hjt : j < tb.length
            · obtain ⟨pb, po, t, hA, _, htj, hta, htb, htc⟩ := (HR.out.below HBE.out).at_ hjt
              subst hA
              obtain ⟨hoa, hob, _, hoc⟩ := HT.out t (List.mem_of_getElem? htj)
              obtain ⟨ta, tt, tc⟩ := t
              dsimp only at *
              obtain ⟨aa, rfl⟩ := Int.eq_ofNat_of_zero_le hoa.1
              obtain ⟨bb, rfl⟩ := Int.eq_ofNat_of_zero_le hob.1
              have HTJ := hide htj
              have haa : aa < k := by omega
              have hbb : bb < k := by omega
              have hel := HFE.out.1
              obtain ⟨da, hea⟩ : ∃ z, e[aa]? = some z := ⟨_, List.getElem?_eq_getElem (show aa < e.length by omega)⟩
              obtain ⟨db, heb⟩ : ∃ z, e[bb]? = some z := ⟨_, List.getElem?_eq_getElem (show bb < e.length by omega)⟩
              have hba := HFE.out.bd (by omega) da (List.mem_of_getElem? hea)
              have hbd := HFE.out.bd (by omega) db (List.mem_of_getElem? heb)
              have hda1 := hba.2
              have hdb1 := hbd.2
              have hda0 := hba.1
              have hdb0 := hbd.1
              have hc0 := hoc.1
              have hc1 := hoc.2
              have HEA := hide hea
              have HEB := hide heb
              have hzw := HBE.out.size
              have HRT := hide (HRE.out.alloc (.cells #[.int .i64 (aa : Int), .int .i64 (bb : Int), .int .i64 tc] 93))
              have HBT := hide (HBE.out.alloc hzw (.cells #[.int .i64 (aa : Int), .int .i64 (bb : Int), .int .i64 tc] 93))
              have HTB := hide (BoxN.new wr #[.int .i64 (aa : Int), .int .i64 (bb : Int), .int .i64 tc] 93)
              have hgw : w.heap.size ≠ wr.heap.size := by have := (HRE.out.lt w.heap.size rfl).2; omega
              have hj9 : (j : Int) < (tb.length : Int) := by omega
              clear hoa hob hoc htj hba hbd HRE HBE
              go_upto_region 14 with fail
              generalize wr.heap.size = gt at *
              generalize wr.alloc (.cells #[.int .i64 (aa : Int), .int .i64 (bb : Int), .int .i64 tc] 93) = wT at *
              have k0 : wT.cell? ⟨gt, 0, none⟩ = some (.int .i64 (aa : Int)) := HTB.out.cell 0
              have k1 : wT.cell? ⟨gt, 1, none⟩ = some (.int .i64 (bb : Int)) := HTB.out.cell 1
              have k2 : wT.cell? ⟨gt, 2, none⟩ = some (.int .i64 tc) := HTB.out.cell 2
              have ca : wT.cell? ⟨w.heap.size, aa, none⟩ = some (.int .i64 da) := by rw [HRT.out.cellAt aa (by omega), List.getElem?_map, hea]; rfl
              have cb : wT.cell? ⟨w.heap.size, bb, none⟩ = some (.int .i64 db) := by rw [HRT.out.cellAt bb (by omega), List.getElem?_map, heb]; rfl
              have hb1 : (bb : Int) < (k : Int) := by omega
              have ha1 : (aa : Int) < (k : Int) := by omega
              have hjw : ((j : Int) == (-1 : Int)) = false := by simp <;> omega
              clear hta htb htc hea heb hel x1
              by_cases hdn : db < 0
              · go_wp2_with fail
                go_roundg (tb.length - (j + 1))
                case measure => have := hgm.out; omega
                case rel => exact ⟨j + 1, e, mv, by omega, rfl, by go_num, rfl, HMM, HFE, HRT, HBT⟩
              have hdb9 : 0 ≤ db := by omega
              have hwr : IntKind.i64.wrap (db + tc) = db + tc := by rw [IntKind.wrap_i64] <;> omega
              go_wp2_with fail
              go_quiet (fail)
              have ca' : (wT.drewN nq).cell? ⟨w.heap.size, aa, none⟩ = some (.int .i64 da) := ca
              have k0' : (wT.drewN nq).cell? ⟨gt, 0, none⟩ = some (.int .i64 (aa : Int)) := k0
              have HRT2 : Hid ((wT.drewN nq).ownsRow w.heap.size 2 1 (.slice (some ⟨w.heap.size, 0, none⟩) k k) k (e.map (Value.int .i64))) := HRT.out
              have HBT2 : Hid (Below w.heap.size w (wT.drewN nq)) := bdn HBT.out nq
              clear ca cb k0 k1 k2 HRT HBT HTB
              generalize wT.drewN nq = wq at *
              by_cases hst : da < 0 ∨ db + tc < da
              · have hf := HRT2.out.frozenAt aa
                have ST := hide (HRT2.out.stored aa (.int .i64 (db + tc)))
                have hset := FB.set HOK.out (by omega) HFE.out HTJ.out HEA.out HEB.out hdb9 hst
                have HFS := hide hset.1
                have HMS := hide (show mm (e.set aa (db + tc)) ≤ mm d ∧ (true = true → mm (e.set aa (db + tc)) < mm d) from by
                  have h1 := hset.2
                  have h2 := HMM.out.1
                  exact ⟨by omega, fun _ => by omega⟩)
                have HS2 := hide (show (wq.setCell ⟨w.heap.size, aa, none⟩ (.int .i64 (db + tc))).ownsRow w.heap.size 2 1 (.slice (some ⟨w.heap.size, 0, none⟩) k k) k ((e.set aa (db + tc)).map (Value.int .i64)) from by
                  have h := ST.out.1
                  rw [← List.map_set] at h
                  exact h)
                have HB2 := hide (HBT2.out.setCell (p := ⟨w.heap.size, aa, none⟩) (Nat.le_refl _) (.int .i64 (db + tc)))
                clear hset
                by_cases hdn2 : da < 0
                · clear hst
                  go_wp2_with fail
                  go_roundg (tb.length - (j + 1))
                  case measure => have := hgm.out; omega
                  case rel => exact ⟨j + 1, e.set aa (db + tc), true, by omega, rfl, by go_num, rfl, hide ⟨HMS.out.1, fun _ => HMS.out.2 (by first | rfl | trivial)⟩, HFS, HS2, HB2⟩
                · have hst2 : db + tc < da := by omega
                  clear hst
                  go_wp2_with fail
                  go_roundg (tb.length - (j + 1))
                  case measure => have := hgm.out; omega
                  case rel => exact ⟨j + 1, e.set aa (db + tc), true, by omega, rfl, by go_num, rfl, hide ⟨HMS.out.1, fun _ => HMS.out.2 (by first | rfl | trivial)⟩, HFS, HS2, HB2⟩
              · have hst1 : ¬ da < 0 := by omega
                have hst2 : ¬ db + tc < da := by omega
                clear hst
                go_wp2_with fail
                go_roundg (tb.length - (j + 1))
                case measure => have := hgm.out; omega
                case rel => exact ⟨j + 1, e, mv, by omega, rfl, by go_num, rfl, HMM, HFE, HRT2, HBT2⟩
            · go_wp2_with fail
              go_roundg (if mv then (mm e).toNat + 1 else 0)
              case measure =>
                have h1 := hg2.out
                have h2 := HMM.out
                have h3 := HMN.out
                have h5 := mm_nonneg fun z hz => ((HFE.out.bd (by omega)) z hz).1
                first | rw [if_pos rfl] at h1 | rw [if_pos trivial] at h1
                rw [h1]
                cases mv
                · simp
                · have h4 := h2.2 rfl
                  rw [if_pos rfl]
                  omega
              case rel => exact ⟨e, mv, rfl, rfl, HFE, HRE, HBE⟩
end Go.Proofs.Ytflbddfmhjlknaa
