/-
  Networks in the program: stations that are reached, tubes from a station, the least length.
  Networks in the program: stations that are reached, the least length.
  Networks in the reference: the least lengths.
  Networks in the reference: the first shortest way.
-/
import Derived.Test.YtlkccijlbeibjaaQTurns6
import Derived.Test.YtlkccijlbeibjaaQTurns7
import Derived.Test.YtlkccijlbeibjaaQTurns5
namespace Go.Proofs.Ytlkccijlbeibjaa
open Go.RowKit
theorem rdI1 {w : World} {v : Int} : RdI (w.alloc (.cells #[.int .i64 v] 2)) (w.alloc (.cells #[.int .i64 v] 2)).heap.size (some ⟨w.heap.size, 0, none⟩) [v] := by
  show Rd _ _ _ [Value.int .i64 v]
  exact Rd.more (rd_new w [.int .i64 v] 2 w.heap.size rfl) (by simp)
theorem rdI2 {w : World} {v u : Int} : RdI (w.alloc (.cells #[.int .i64 v, .int .i64 u] 2)) (w.alloc (.cells #[.int .i64 v, .int .i64 u] 2)).heap.size (some ⟨w.heap.size, 0, none⟩) [v, u] := by
  show Rd _ _ _ [Value.int .i64 v, Value.int .i64 u]
  exact Rd.more (rd_new w [.int .i64 v, .int .i64 u] 2 w.heap.size rfl) (by simp)
set_option maxRecDepth 100000 in
set_option maxHeartbeats 4000000 in
theorem tubesFrom_any (n : Nat) (tb : List T3) (s : Int) (A : Option Addr) (c : Nat) (w : World) (hl : tb.length ≤ 24) (hr : Rd3 w w.heap.size A tb) :
    Calls Try.prog 145 #[.agg #[.int .i64 n, .slice A tb.length c], .int .i64 s] w fun e w' => ∃ A' c', e = .returned (.slice A' (tubesL tb s).length c') ∧ w'.ownsRow w.heap.size 2 1 (.slice A' (tubesL tb s).length c') (tubesL tb s).length ((tubesL tb s).map (Value.int .i64)) ∧ Below w.heap.size w w' := by
  obtain ⟨i0, hi0, hz0, hs0, hb0⟩ := info_parts int64_info
  have HR := hide hr
  have b0 : Below w.heap.size w (w.alloc (.cells #[.int .i64 n, .slice A tb.length c] 44)) := (by repeat (first | exact Below.refl _ _ | assumption | (refine Below.alloc ?_ (by simp <;> omega) _) | refine Below.drew ?_ | refine bdn ?_ _))
  have X0 := BoxN.new w #[.int .i64 n, .slice A tb.length c] 44
  have k1 : (w.alloc (.cells #[.int .i64 n, .slice A tb.length c] 44)).cell? ⟨w.heap.size, 1, none⟩ = some (.slice A tb.length c) := X0.cell 1
  have z0 := X0.lt
  clear hr X0
  go_enter Try.func145, Try.ntmps145
  go_upto_region 1 with fail
  generalize w.alloc (.cells #[.int .i64 n, .slice A tb.length c] 44) = w0 at *
  have ho1 := own_new0 w0 w.heap.size 2 1 b0.size
  have HB1 := hide (b0.alloc b0.size (.cells #[] 2))
  have k1' : (w0.alloc (.cells #[] 2)).cell? ⟨w.heap.size, 1, none⟩ = some (.slice A tb.length c) := (World.cell?_alloc_old _ _ _ (by dsimp only; omega)).trans k1
  clear k1
  go_upto_region 2 with fail
  generalize w0.alloc (.cells #[] 2) = w1 at *
  generalize w0.heap.size = g1 at *
  go_wp2_with fail
  go_loopg [5, 12] tb.length (fun g s' i wr => ∃ (k : Nat) (acc : List Int), k ≤ tb.length ∧ Hid (g = tb.length - k) ∧ i = .int .i64 k ∧ acc.length ≤ k ∧ wr.ownsRow w.heap.size 2 1 s' acc.length (acc.map (Value.int .i64)) ∧ Hid (tubesL tb s = acc ++ idxFrom (fun t : T3 => t.a == s) (tb.drop k) k) ∧ Hid (Below w.heap.size w wr))
  case atStart => exact ⟨0, [], by omega, by simp [Hid], rfl, by simp, ho1, by simp [Hid, tubesL], HB1.out⟩
  case round =>
    obtain ⟨k, acc, hk, hg, rfl, hal, hown, HS, HB⟩ := hrel
    clear ho1 HB1 k1'
    by_cases hkt : k < tb.length
    · obtain ⟨pb, po, t, rfl, _, htj, hta, htb, htc⟩ := (HR.out.below HB.out).at_ hkt
      have hzw := HB.out.size
      have HOW := hide (hown.alloc (.cells #[.int .i64 t.a, .int .i64 t.b, .int .i64 t.c] 111))
      have HBT := hide (HB.out.alloc hzw (.cells #[.int .i64 t.a, .int .i64 t.b, .int .i64 t.c] 111))
      have k0 : (wr.alloc (.cells #[.int .i64 t.a, .int .i64 t.b, .int .i64 t.c] 111)).cell? ⟨wr.heap.size, 0, none⟩ = some (.int .i64 t.a) := (BoxN.new wr #[.int .i64 t.a, .int .i64 t.b, .int .i64 t.c] 111).cell 0
      have hS := HS.out
      rw [drop_cons htj] at hS
      clear hown HB HS htj
      go_upto_region 5 with fail
      generalize wr.alloc (.cells #[.int .i64 t.a, .int .i64 t.b, .int .i64 t.c] 111) = wT at *
      by_cases he : t.a = s
      · have hE : (t.a == s) = true := by simp [he]
        have HS2 : Hid (tubesL tb s = (acc ++ [(k : Int)]) ++ idxFrom (fun t : T3 => t.a == s) (tb.drop (k + 1)) (k + 1)) := by
          unfold Hid; rw [hS]; simp only [idxFrom, hE, if_true]; simp
        have HE := hide he
        have hown := HOW.out
        have hzT := HBT.out.size
        clear he hS
        go_wp2_with (at_builtin; go_must (refine wp_app _ rfl _ _ 22 rfl (w.heap.size) 2 i0 (.int .i64 0) 1 8 Try.underlying22 hi0 hz0 hs0 hb0 rfl (by decide) _ _ _ rfl (hown.alloc _) _ _ 1 1 [.int .i64 (k : Int)] rfl rfl (rd_new _ _ _ _ (by first | rfl | simp)) (int_one _) (by omega) (by decide) (by first | omega | (simp <;> omega) | (simp; omega)) ?_); intro v4 w4 hown4 hgrow4 hat4)
        have hb4 := app_below (HBT.out.alloc HBT.out.size (.cells #[.int .i64 (k : Int)] 2)) (hown.alloc (.cells #[.int .i64 (k : Int)] 2)) hgrow4 (Nat.le_refl _) (by simp <;> omega)
        go_roundg (tb.length - (k + 1))
        case measure => have := hg.out; omega
        case rel => exact ⟨k + 1, acc ++ [(k : Int)], by omega, rfl, by go_num, by simp; omega, by simpa using hown4, HS2, hb4⟩
      · have hE : (t.a == s) = false := by simp [he]
        have HS2 : Hid (tubesL tb s = acc ++ idxFrom (fun t : T3 => t.a == s) (tb.drop (k + 1)) (k + 1)) := by
          unfold Hid; rw [hS]; simp only [idxFrom, hE]; rfl
        have HE := hide he
        clear he hS
        go_wp2_with fail
        go_roundg (tb.length - (k + 1))
        case measure => have := hg.out; omega
        case rel => exact ⟨k + 1, acc, by omega, rfl, by go_num, by omega, HOW.out, HS2, HBT⟩
    · have hS := HS.out
      rw [List.drop_eq_nil_of_le (by omega)] at hS
      simp only [idxFrom, List.append_nil] at hS
      have HS2 := hide hS
      obtain ⟨A9, c9, hsh, _⟩ := own_shape hown
      subst hsh
      clear hS
      go_wp2_with fail
      go_ret
      rw [HS2.out]
      exact ⟨A9, c9, rfl, hown, HB.out⟩
end Go.Proofs.Ytlkccijlbeibjaa
namespace Go.Proofs.Ytlkccijlbeibjaa
open Go.RowKit
end Go.Proofs.Ytlkccijlbeibjaa
namespace Go.Proofs.Ytlkccijlbeibjaa
open Go.RowKit
/-- A tube leads to no shorter length. -/
def FixAt (tb : List T3) (d : List Int) (j : Nat) : Prop := ∀ t, tb[j]? = some t → 0 ≤ dAt d t.b → 0 ≤ dAt d t.a ∧ dAt d t.a ≤ dAt d t.b + t.c
theorem dAt_getF {d : List Int} {v : Nat} {z : Int} (h : d[v]? = some z) : dAt d (v : Int) = z := by simp [dAt, h]
set_option maxRecDepth 100000 in
set_option maxHeartbeats 8000000 in
theorem l02FarX_any (n : Nat) (tb : List T3) (td : Nat) (A : Option Addr) (c b : Nat) (w : World) (h : OkNet n tb) (htd : td < n) (hr : Rd3 w w.heap.size A tb) (hbx : BoxN w b #[.int .i64 n, .slice A tb.length c] 44) :
    Calls Try.prog 148 #[.pointer (some ⟨b, 0, none⟩), .int .i64 td, .int .i64 (-1)] w fun e w' => ∃ (g' : Nat) (d : List Int), e = .returned (.slice (some ⟨g', 0, none⟩) n n) ∧ w'.ownsRow w.heap.size 2 1 (.slice (some ⟨g', 0, none⟩) n n) n (d.map (Value.int .i64)) ∧ FB n tb td d ∧ (dAt d td = 0 ∧ ∀ j, FixAt tb d j) ∧ Below w.heap.size w w' := by
  obtain ⟨i0, hi0, hz0, hs0, hb0⟩ := info_parts int64_info
  obtain ⟨⟨hn2, hn10⟩, hl, ht⟩ := h
  have hbl := hbx.lt
  have HT := hide ht
  have HOK : Hid (OkTubes n tb) := fun t ht' => by
    obtain ⟨h1, h2, _, h3⟩ := ht t ht'
    exact ⟨by omega, by omega, h3⟩
  have HR := hide hr
  have X0 := hide hbx
  have k0 : w.cell? ⟨b, 0, none⟩ = some (.int .i64 n) := hbx.cell 0
  clear ht hr hbx
  go_enter Try.func148, Try.ntmps148
  go_wp2_with (refine wpList_make_full _ rfl _ _ _ rfl w.heap.size 2 i0 _ 1 Try.underlying22 hi0 hz0 hs0 .i64 .i64 (n : Int) (n : Int) n rfl rfl rfl rfl (by rw [hb0]; omega) (by unfold maxLen; omega) (Nat.le_refl _) ?_; intro w1 hown1 hgr1)
  have hr1 : w1.ownsRow w.heap.size 2 1 (.slice (some ⟨w.heap.size, 0, none⟩) n n) n (repC 0 n) := by
    have h := made_ints n
    rw [h] at hown1
    exact hown1
  have HB1 := hide (show Below w.heap.size w w1 from (Below.refl _ _).grown hgr1 (Nat.le_refl _) (by intro k hk; cases hk))
  clear hown1 hgr1 k0
  go_loopg [8] n (fun g i wr => ∃ k : Nat, k ≤ n ∧ Hid (g = n - k) ∧ i = .int .i64 k ∧ Hid (wr.ownsRow w.heap.size 2 1 (.slice (some ⟨w.heap.size, 0, none⟩) n n) n (repC k n)) ∧ Hid (Below w.heap.size w wr))
  case atStart => exact ⟨0, by omega, by simp [Hid], rfl, hr1, HB1.out⟩
  case round =>
    obtain ⟨k, hk, hg, rfl, HRW, HB⟩ := hrel
    clear hr1 HB1
    by_cases hkn : k < n
    · have hkn' : (k : Int) < (n : Int) := by omega
      have hc0 : wr.cell? ⟨w.heap.size, k, none⟩ = some (.int .i64 0) := by
        rw [HRW.out.cellAt k (by omega)]; unfold repC
        rw [List.getElem?_map, List.getElem?_append_right (by simp), List.length_replicate, Nat.sub_self, List.getElem?_replicate, if_pos (by omega)]; rfl
      have hf0 := HRW.out.frozenAt k
      have ST := hide (HRW.out.stored k (.int .i64 (-1)))
      have HR2 := hide (show (wr.setCell ⟨w.heap.size, k, none⟩ (.int .i64 (-1))).ownsRow w.heap.size 2 1 (.slice (some ⟨w.heap.size, 0, none⟩) n n) n (repC (k + 1) n) from by
        have h := ST.out.1
        rw [repC_next hkn] at h
        exact h)
      have HB2 := hide (HB.out.setCell (p := ⟨w.heap.size, k, none⟩) (Nat.le_refl _) (.int .i64 (-1)))
      go_wp2_with fail
      go_roundg (n - (k + 1))
      case measure => have := hg.out; omega
      case rel => exact ⟨k + 1, by omega, rfl, by go_num, HR2, HB2⟩
    · obtain rfl : k = n := by omega
      have HRF : Hid (wr.ownsRow w.heap.size 2 1 (.slice (some ⟨w.heap.size, 0, none⟩) k k) k ((List.replicate k (-1 : Int)).map (Value.int .i64))) := by
        have h := HRW.out
        have e : repC k k = (List.replicate k (-1 : Int)).map (Value.int .i64) := by simp [repC]
        rw [e] at h
        exact h
      have hc0 : wr.cell? ⟨w.heap.size, td, none⟩ = some (.int .i64 (-1)) := by
        rw [HRF.out.cellAt td (by omega), List.getElem?_map, List.getElem?_replicate, if_pos htd]; rfl
      have hf0 := HRF.out.frozenAt td
      have ST := hide (HRF.out.stored td (.int .i64 0))
      have HR2 := hide (show (wr.setCell ⟨w.heap.size, td, none⟩ (.int .i64 0)).ownsRow w.heap.size 2 1 (.slice (some ⟨w.heap.size, 0, none⟩) k k) k ((dist0 k td).map (Value.int .i64)) from by
        have h := ST.out.1
        rw [← List.map_set] at h
        unfold dist0
        rw [Int.toNat_natCast]
        exact h)
      have HB2 := hide (HB.out.setCell (p := ⟨w.heap.size, td, none⟩) (Nat.le_refl _) (.int .i64 0))
      have ht0 : (td : Int) < (k : Int) := by omega
      have HFB := hide (FB.start (tb := tb) htd)
      clear HRF HRW HB
      go_upto_region 7 with fail
      generalize wr.setCell ⟨w.heap.size, td, none⟩ (.int .i64 0) = w3 at *
      go_wp2_with fail
      go_loopg [9] ((mm (dist0 k td)).toNat + 1) (fun g al wr => ∃ (d : List Int) (bv : Bool), al = .bool bv ∧ Hid (g = if bv then (mm d).toNat + 1 else 0) ∧ Hid (FB k tb td d) ∧ Hid (dAt d td = 0 ∧ (bv = false → ∀ j, FixAt tb d j)) ∧ Hid (wr.ownsRow w.heap.size 2 1 (.slice (some ⟨w.heap.size, 0, none⟩) k k) k (d.map (Value.int .i64))) ∧ Hid (Below w.heap.size w wr))
      case atStart => exact ⟨dist0 k td, true, rfl, by simp [Hid], HFB, hide ⟨by rw [dAt_getF (show (dist0 k td)[td]? = some 0 by unfold dist0; rw [Int.toNat_natCast, List.getElem?_set_self (by simpa using htd)])], fun h => by cases h⟩, HR2, HB2⟩
      case round =>
        obtain ⟨d, bv, rfl, hg2, HF, HXF, HRD, HBD⟩ := hrel
        clear HR2 HB2 HFB hc0 hf0 ST
        cases bv
        · go_wp2_with fail
          go_ret
          first | exact ⟨w.heap.size, d, rfl, HRD.out, HF.out, ⟨HXF.out.1, HXF.out.2 (by first | rfl | trivial)⟩, HBD.out⟩ | exact ⟨w.heap.size, rfl, d, HRD.out, HF.out, ⟨HXF.out.1, HXF.out.2 (by first | rfl | trivial)⟩, HBD.out⟩
        · have HMN := hide (mm_nonneg fun z hz => ((HF.out.bd (by omega)) z hz).1)
          go_wp2_with fail
          go_loopg [9, 10] tb.length (fun gm al i wr => ∃ (j : Nat) (e : List Int) (mv : Bool), j ≤ tb.length ∧ Hid (gm = tb.length - j) ∧ i = .int .i64 j ∧ al = .bool mv ∧ Hid (mm e ≤ mm d ∧ (mv = true → mm e < mm d)) ∧ Hid (FB k tb td e) ∧ Hid (dAt e td = 0 ∧ (mv = false → ∀ i, i < j → FixAt tb e i)) ∧ Hid (wr.ownsRow w.heap.size 2 1 (.slice (some ⟨w.heap.size, 0, none⟩) k k) k (e.map (Value.int .i64))) ∧ Hid (Below w.heap.size w wr))
          case atStart => exact ⟨0, d, false, by omega, by simp [Hid], rfl, rfl, ⟨Int.le_refl _, fun h => by cases h⟩, HF, hide ⟨HXF.out.1, fun _ i hi => absurd hi (Nat.not_lt_zero _)⟩, HRD, HBD⟩
          case round =>
            obtain ⟨j, e, mv, hj, hgm, rfl, rfl, HMM, HFE, HXE, HRE, HBE⟩ := hrel
            clear HF HRD HBD
            have x1 : wr.cell? ⟨b, 1, none⟩ = some (.slice A tb.length c) := (HBE.out.cell (p := ⟨b, 1, none⟩) hbl).trans (X0.out.cell 1)
            by_cases hjt : j < tb.length
            · obtain ⟨pb, po, t, hA, _, htj, hta, htb, htc⟩ := (HR.out.below HBE.out).at_ hjt
              subst hA
              obtain ⟨hoa, hob, _, hoc⟩ := HT.out t (List.mem_of_getElem? htj)
              obtain ⟨ta, tt, tc⟩ := t
              dsimp only at *
              obtain ⟨aa, rfl⟩ := Int.eq_ofNat_of_zero_le hoa.1
              obtain ⟨bb, rfl⟩ := Int.eq_ofNat_of_zero_le hob.1
              have HTJ := hide htj
              have haa : aa < k := by omega
              have hbb : bb < k := by omega
              have hel := HFE.out.1
              obtain ⟨da, hea⟩ : ∃ z, e[aa]? = some z := ⟨_, List.getElem?_eq_getElem (show aa < e.length by omega)⟩
              obtain ⟨db, heb⟩ : ∃ z, e[bb]? = some z := ⟨_, List.getElem?_eq_getElem (show bb < e.length by omega)⟩
              have hba := HFE.out.bd (by omega) da (List.mem_of_getElem? hea)
              have hbd := HFE.out.bd (by omega) db (List.mem_of_getElem? heb)
              have hda1 := hba.2
              have hdb1 := hbd.2
              have hda0 := hba.1
              have hdb0 := hbd.1
              have hc0 := hoc.1
              have hc1 := hoc.2
              have HEA := hide hea
              have HEB := hide heb
              have hzw := HBE.out.size
              have HRT := hide (HRE.out.alloc (.cells #[.int .i64 (aa : Int), .int .i64 (bb : Int), .int .i64 tc] 111))
              have HBT := hide (HBE.out.alloc hzw (.cells #[.int .i64 (aa : Int), .int .i64 (bb : Int), .int .i64 tc] 111))
              have HTB := hide (BoxN.new wr #[.int .i64 (aa : Int), .int .i64 (bb : Int), .int .i64 tc] 111)
              have hgw : w.heap.size ≠ wr.heap.size := by have := (HRE.out.lt w.heap.size rfl).2; omega
              have hj9 : (j : Int) < (tb.length : Int) := by omega
              clear hoa hob hoc htj hba hbd HRE HBE
              go_upto_region 14 with fail
              generalize wr.heap.size = gt at *
              generalize wr.alloc (.cells #[.int .i64 (aa : Int), .int .i64 (bb : Int), .int .i64 tc] 111) = wT at *
              have k0 : wT.cell? ⟨gt, 0, none⟩ = some (.int .i64 (aa : Int)) := HTB.out.cell 0
              have k1 : wT.cell? ⟨gt, 1, none⟩ = some (.int .i64 (bb : Int)) := HTB.out.cell 1
              have k2 : wT.cell? ⟨gt, 2, none⟩ = some (.int .i64 tc) := HTB.out.cell 2
              have ca : wT.cell? ⟨w.heap.size, aa, none⟩ = some (.int .i64 da) := by rw [HRT.out.cellAt aa (by omega), List.getElem?_map, hea]; rfl
              have cb : wT.cell? ⟨w.heap.size, bb, none⟩ = some (.int .i64 db) := by rw [HRT.out.cellAt bb (by omega), List.getElem?_map, heb]; rfl
              have hb1 : (bb : Int) < (k : Int) := by omega
              have ha1 : (aa : Int) < (k : Int) := by omega
              have hjw : ((j : Int) == (-1 : Int)) = false := by simp <;> omega
              clear hta htb htc hea heb hel x1
              by_cases hdn : db < 0
              · go_wp2_with fail
                go_roundg (tb.length - (j + 1))
                case measure => have := hgm.out; omega
                case rel => exact ⟨j + 1, e, mv, by omega, rfl, by go_num, rfl, HMM, HFE, hide ⟨HXE.out.1, fun hm i hi => by
                  by_cases hij : i < j
                  · exact HXE.out.2 hm i hij
                  · obtain rfl : i = j := by omega
                    intro t ht h0
                    rw [HTJ.out] at ht; cases ht
                    dsimp only at h0
                    rw [dAt_getF HEB.out] at h0; omega⟩, HRT, HBT⟩
              have hdb9 : 0 ≤ db := by omega
              have hwr : IntKind.i64.wrap (db + tc) = db + tc := by rw [IntKind.wrap_i64] <;> omega
              go_wp2_with fail
              go_quiet (fail)
              have ca' : (wT.drewN nq).cell? ⟨w.heap.size, aa, none⟩ = some (.int .i64 da) := ca
              have k0' : (wT.drewN nq).cell? ⟨gt, 0, none⟩ = some (.int .i64 (aa : Int)) := k0
              have HRT2 : Hid ((wT.drewN nq).ownsRow w.heap.size 2 1 (.slice (some ⟨w.heap.size, 0, none⟩) k k) k (e.map (Value.int .i64))) := HRT.out
              have HBT2 : Hid (Below w.heap.size w (wT.drewN nq)) := bdn HBT.out nq
              clear ca cb k0 k1 k2 HRT HBT HTB
              generalize wT.drewN nq = wq at *
              by_cases hst : da < 0 ∨ db + tc < da
              · have hf := HRT2.out.frozenAt aa
                have ST := hide (HRT2.out.stored aa (.int .i64 (db + tc)))
                have hset := FB.set HOK.out (by omega) HFE.out HTJ.out HEA.out HEB.out hdb9 hst
                have HFS := hide hset.1
                have HXS := hide (show dAt (e.set aa (db + tc)) td = 0 ∧ (true = false → ∀ i, i < j + 1 → FixAt tb (e.set aa (db + tc)) i) from ⟨by
                  by_cases hta : td = aa
                  · have h := HXE.out.1
                    rw [hta, dAt_getF HEA.out] at h
                    omega
                  · have h := HXE.out.1
                    unfold dAt at h ⊢
                    rw [Int.toNat_natCast] at h ⊢
                    rw [List.getElem?_set_ne (by omega)]; exact h, fun h => by cases h⟩)
                have HMS := hide (show mm (e.set aa (db + tc)) ≤ mm d ∧ (true = true → mm (e.set aa (db + tc)) < mm d) from by
                  have h1 := hset.2
                  have h2 := HMM.out.1
                  exact ⟨by omega, fun _ => by omega⟩)
                have HS2 := hide (show (wq.setCell ⟨w.heap.size, aa, none⟩ (.int .i64 (db + tc))).ownsRow w.heap.size 2 1 (.slice (some ⟨w.heap.size, 0, none⟩) k k) k ((e.set aa (db + tc)).map (Value.int .i64)) from by
                  have h := ST.out.1
                  rw [← List.map_set] at h
                  exact h)
                have HB2 := hide (HBT2.out.setCell (p := ⟨w.heap.size, aa, none⟩) (Nat.le_refl _) (.int .i64 (db + tc)))
                clear hset
                by_cases hdn2 : da < 0
                · clear hst
                  go_wp2_with fail
                  go_roundg (tb.length - (j + 1))
                  case measure => have := hgm.out; omega
                  case rel => exact ⟨j + 1, e.set aa (db + tc), true, by omega, rfl, by go_num, rfl, hide ⟨HMS.out.1, fun _ => HMS.out.2 (by first | rfl | trivial)⟩, HFS, HXS, HS2, HB2⟩
                · have hst2 : db + tc < da := by omega
                  clear hst
                  go_wp2_with fail
                  go_roundg (tb.length - (j + 1))
                  case measure => have := hgm.out; omega
                  case rel => exact ⟨j + 1, e.set aa (db + tc), true, by omega, rfl, by go_num, rfl, hide ⟨HMS.out.1, fun _ => HMS.out.2 (by first | rfl | trivial)⟩, HFS, HXS, HS2, HB2⟩
              · have hst1 : ¬ da < 0 := by omega
                have hst2 : ¬ db + tc < da := by omega
                clear hst
                go_wp2_with fail
                go_roundg (tb.length - (j + 1))
                case measure => have := hgm.out; omega
                case rel => exact ⟨j + 1, e, mv, by omega, rfl, by go_num, rfl, HMM, HFE, hide ⟨HXE.out.1, fun hm i hi => by
                  by_cases hij : i < j
                  · exact HXE.out.2 hm i hij
                  · obtain rfl : i = j := by omega
                    intro t ht h0
                    rw [HTJ.out] at ht; cases ht
                    dsimp only at h0 ⊢
                    rw [dAt_getF HEB.out, dAt_getF HEA.out]; omega⟩, HRT2, HBT2⟩
            · go_wp2_with fail
              go_roundg (if mv then (mm e).toNat + 1 else 0)
              case measure =>
                have h1 := hg2.out
                have h2 := HMM.out
                have h3 := HMN.out
                have h5 := mm_nonneg fun z hz => ((HFE.out.bd (by omega)) z hz).1
                first | rw [if_pos rfl] at h1 | rw [if_pos trivial] at h1
                rw [h1]
                cases mv
                · simp
                · have h4 := h2.2 rfl
                  rw [if_pos rfl]
                  omega
              case rel => exact ⟨e, mv, rfl, rfl, HFE, hide ⟨HXE.out.1, fun hm i => by
                by_cases hij : i < j
                · exact HXE.out.2 hm i hij
                · intro t ht
                  have := (List.getElem?_eq_some_iff.1 ht).1
                  omega⟩, HRE, HBE⟩
theorem l02Far_any (n : Nat) (tb : List T3) (td : Nat) (A : Option Addr) (c b : Nat) (w : World) (h : OkNet n tb) (htd : td < n) (hr : Rd3 w w.heap.size A tb) (hbx : BoxN w b #[.int .i64 n, .slice A tb.length c] 44) :
    Calls Try.prog 148 #[.pointer (some ⟨b, 0, none⟩), .int .i64 td, .int .i64 (-1)] w fun e w' => ∃ (g' : Nat) (d : List Int), e = .returned (.slice (some ⟨g', 0, none⟩) n n) ∧ w'.ownsRow w.heap.size 2 1 (.slice (some ⟨g', 0, none⟩) n n) n (d.map (Value.int .i64)) ∧ FB n tb td d ∧ Below w.heap.size w w' :=
  (l02FarX_any n tb td A c b w h htd hr hbx).mono fun _ _ ⟨g', d, h1, h2, h3, _, h5⟩ => ⟨g', d, h1, h2, h3, h5⟩
end Go.Proofs.Ytlkccijlbeibjaa
namespace Go.Proofs.Ytlkccijlbeibjaa
open Go.RowKit
theorem far_opt {n : Nat} {tb : List T3} {d : List Int} {td : Nat} (hok : OkTubes n tb) (hF : ∀ j, FixAt tb d j) (h0 : dAt d td = 0) : ∀ (p : List Int) (v : Int), wk tb (-1) p v td → 0 ≤ dAt d v ∧ dAt d v ≤ lenW tb p := by
  intro p
  induction p with
  | nil => intro v h; have : v = (td : Int) := h; subst this; rw [h0]; exact ⟨Int.le_refl _, Int.le_refl _⟩
  | cons i p ih =>
    rintro v ⟨hi, _, t, ht, ha, h⟩
    obtain ⟨h1, h2⟩ := ih t.b h
    obtain ⟨h3, h4⟩ := hF i.toNat t ht h1
    rw [ha] at h3 h4
    rw [lenW, tubeAt_get ht]; omega
theorem far_step {n : Nat} {tb : List T3} {d : List Int} {td : Nat} (hok : OkTubes n tb) (hS : Sound tb (-1) td d) (hF : ∀ j, FixAt tb d j) (h0 : dAt d td = 0) {v : Int} (hv : 0 ≤ v) (hd : 0 ≤ dAt d v) (hne : v ≠ (td : Int)) :
    ∃ (j : Nat) (t : T3), tb[j]? = some t ∧ t.a = v ∧ 0 ≤ dAt d t.b ∧ dAt d t.b + t.c = dAt d v := by
  rcases hS v hv with h | ⟨_, p, hp, hl⟩
  · omega
  · cases p with
    | nil => exact absurd hp hne
    | cons i p =>
      obtain ⟨hi, _, t, ht, ha, h⟩ := hp
      obtain ⟨h1, h2⟩ := far_opt hok hF h0 p t.b h
      obtain ⟨h3, h4⟩ := hF i.toNat t ht h1
      rw [ha] at h3 h4
      rw [lenW, tubeAt_get ht] at hl
      exact ⟨i.toNat, t, ht, ha, h1, by omega⟩
theorem far_iff {n : Nat} {tb : List T3} {d : List Int} {td : Nat} (hok : OkTubes n tb) (hS : Sound tb (-1) td d) (hF : ∀ j, FixAt tb d j) (h0 : dAt d td = 0) {v : Int} (hv : 0 ≤ v) : 0 ≤ dAt d v ↔ ∃ p, wk tb (-1) p v td := by
  constructor
  · intro h
    rcases hS v hv with h1 | ⟨_, p, hp, _⟩
    · omega
    · exact ⟨p, hp⟩
  · rintro ⟨p, hp⟩; exact (far_opt hok hF h0 p v hp).1
/-- A way on which the lengths fall. -/
structure WaySt (tb : List T3) (d : List Int) (P : List Int) (v at_ : Int) : Prop where
  way : wk tb (-1) P v at_
  nod : (begins tb P).Nodup
  low : ∀ x ∈ begins tb P, dAt d at_ < dAt d x
theorem WaySt.step {tb : List T3} {d P : List Int} {v at_ : Int} (h : WaySt tb d P v at_) {j : Nat} {t : T3} (ht : tb[j]? = some t) (ha : t.a = at_) (hl : dAt d t.b < dAt d at_) : WaySt tb d (P ++ [(j : Int)]) v t.b := by
  have htt : tubeAt tb (j : Int) = t := tubeAt_get (by simpa using ht)
  have hb : begins tb (P ++ [(j : Int)]) = begins tb P ++ [at_] := by rw [begins_append]; show _ ++ [(tubeAt tb (j : Int)).a] = _; rw [htt, ha]
  refine ⟨wk_append.2 ⟨at_, h.way, by omega, by omega, t, by simpa using ht, ha, rfl⟩, ?_, ?_⟩
  · rw [hb, List.nodup_append]
    refine ⟨h.nod, by simp, fun x hx y hy e => ?_⟩
    rw [List.mem_singleton] at hy
    have := h.low x hx
    rw [e, hy] at this; omega
  · intro x hx
    rw [hb] at hx
    rcases List.mem_append.1 hx with hx | hx
    · have := h.low x hx; omega
    · rw [List.mem_singleton] at hx; rw [hx]; exact hl
theorem WaySt.simple {tb : List T3} {d P : List Int} {v u : Int} (h : WaySt tb d P v u) : Simple tb P v u := by
  refine ⟨h.way, ?_⟩
  rw [List.nodup_append]
  refine ⟨h.nod, by simp, fun x hx y hy e => ?_⟩
  rw [List.mem_singleton] at hy
  have := h.low x hx
  rw [e, hy] at this; omega
set_option maxRecDepth 100000 in
set_option maxHeartbeats 4000000 in
theorem l02Code_any (n : Nat) (tb : List T3) (s td : Int) (A : Option Addr) (c b : Nat) (w : World) (h : OkNet n tb) (hs : 0 ≤ s ∧ s ≤ (n : Int) - 1) (ht : 0 ≤ td ∧ td ≤ (n : Int) - 1) (hr : Rd3 w w.heap.size A tb) (hbx : BoxN w b #[.int .i64 n, .slice A tb.length c] 44) :
    Calls Try.prog 147 #[.pointer (some ⟨b, 0, none⟩), .int .i64 s, .int .i64 td] w fun e w' => e = .returned (.int .i64 0) ∧ Below w.heap.size w w' := by
  have HC := hide (l02Ok_any n tb A c b w h hr hbx)
  have hbl := hbx.lt
  have hn10 := h.1.2
  have X0 := hide hbx
  have e1 : IntKind.i64.wrap ((n : Int) - 1) = (n : Int) - 1 := by rw [IntKind.wrap_i64] <;> omega
  obtain ⟨hs1, hs2⟩ := hs
  obtain ⟨ht1, ht2⟩ := ht
  clear h hr hbx
  go_enter Try.func147, Try.ntmps147
  go_wp2_with (first | (go_at_call 116; first | (refine (l00In_t _ _ _ _ (by omega)).mono ?_; rintro e w' ⟨rfl, rfl⟩) | (refine (l00In_f _ _ _ _ (by omega)).mono ?_; rintro e w' ⟨rfl, rfl⟩)) | (go_at_call 169; (with_reducible refine (HC.out).mono ?_); rintro e w1 ⟨rfl, b1⟩; have x0 : w1.cell? ⟨b, 0, none⟩ = some (.int .i64 n) := (X0.out.below b1 hbl).cell 0))
  go_ret
  exact ⟨rfl, b1⟩
/-- The code of a way that is looked for. -/
def CodeR (tb : List T3) (s td cd : Int) : Prop := (cd = 0 ∧ ∃ p, wk tb (-1) p s td) ∨ (cd = 3 ∧ ¬ ∃ p, wk tb (-1) p s td)
theorem CodeR.unique {tb : List T3} {s td a b : Int} (h : CodeR tb s td a) (k : CodeR tb s td b) : a = b := by
  rcases h with ⟨rfl, h⟩ | ⟨rfl, h⟩ <;> rcases k with ⟨rfl, k⟩ | ⟨rfl, k⟩
  · rfl
  · exact absurd h k
  · exact absurd k h
  · rfl
theorem CodeR.ok {tb : List T3} {s td a : Int} (h : CodeR tb s td a) (h0 : a = 0) : ∃ p, wk tb (-1) p s td := by
  rcases h with ⟨_, h⟩ | ⟨h1, _⟩
  · exact h
  · omega
set_option maxRecDepth 100000 in
set_option maxHeartbeats 4000000 in
theorem specShortest_any (n : Nat) (tb : List T3) (s td : Nat) (A : Option Addr) (c : Nat) (w : World) (h : OkNet n tb) (hs : s < n) (ht : td < n) (hr : Rd3 w w.heap.size A tb) :
    Calls Try.prog 88 #[.agg #[.int .i64 n, .slice A tb.length c], .int .i64 s, .int .i64 td] w fun e w' => ∃ x cd : Int, e = .returned (.tuple #[.int .i64 x, .int .i64 cd]) ∧ CodeR tb s td cd ∧ Below w.heap.size w w' := by
  have X0 := hide (BoxN.new w #[.int .i64 n, .slice A tb.length c] 44)
  have b0 : Below w.heap.size w (w.alloc (.cells #[.int .i64 n, .slice A tb.length c] 44)) := (by repeat (first | exact Below.refl _ _ | assumption | (refine Below.alloc ?_ (by simp <;> omega) _) | refine Below.drew ?_ | refine bdn ?_ _))
  have B0 := hide b0
  have z0 := X0.out.lt
  have hok := ok_tubes h
  have HC := hide fun W (hW : Below w.heap.size w W) hX => l02Code_any n tb s td A c w.heap.size W h (by omega) (by omega) ((hr.below hW).more hW.size) hX
  have HF := hide fun W (hW : Below w.heap.size w W) hX => l02FarX_any n tb td A c w.heap.size W h ht ((hr.below hW).more hW.size) hX
  have hs0 : (0 : Int) ≤ (s : Int) := by omega
  have hs1 : (s : Int) < (n : Int) := by omega
  have HOK := hide hok
  clear h hr b0 hok
  go_enter Try.func88, Try.ntmps88
  go_upto_region 1 with fail
  generalize w.alloc (.cells #[.int .i64 n, .slice A tb.length c] 44) = w1 at *
  go_upto_region 4 with (go_at_call 147; (with_reducible refine (HC.out _ B0.out X0.out).mono ?_); rintro e w2 ⟨rfl, s2⟩)
  have X2 := hide (X0.out.below s2 z0)
  have B2 := hide (B0.out.trans (s2.mono B0.out.size))
  clear s2
  go_upto_region 5 with (go_at_call 148; (with_reducible refine (HF.out _ B2.out X2.out).mono ?_); rintro e w3 ⟨gd, d, rfl, hown, hfb, hfx, s3⟩; have hds : ∃ z, d[s]? = some z := ⟨_, List.getElem?_eq_getElem (by rw [hfb.1]; exact hs)⟩; obtain ⟨z, hz⟩ := hds; have hcz : w3.cell? ⟨gd, s, none⟩ = some (.int .i64 z) := by rw [hown.cellAt s (by omega), List.getElem?_map, hz]; rfl)
  have B3 := hide (B2.out.trans (s3.mono B2.out.size))
  have hdz : dAt d (s : Int) = z := dAt_getF hz
  have hff := far_iff HOK.out hfb.2.2 hfx.2 hfx.1 hs0
  rw [hdz] at hff
  have HFF := hide hff
  clear hff hcz hown hfb hfx s3 hz hdz
  by_cases hzn : z < 0
  · have HE := hide (show CodeR tb s td 3 from .inr ⟨rfl, fun h => by have := HFF.out.2 h; omega⟩)
    go_wp2_with fail
    refine bodyPost_ret (v := .tuple #[.int .i64 0, .int .i64 3]) (by simp [results, Try.results88, go_sem]) rfl ?_
    exact ⟨0, 3, rfl, HE.out, B3.out⟩
  · have HE := hide (show CodeR tb s td 0 from .inl ⟨rfl, HFF.out.1 (by omega)⟩)
    go_wp2_with fail
    refine bodyPost_ret (v := .tuple #[.int .i64 z, .int .i64 0]) (by simp [results, Try.results88, go_sem]) rfl ?_
    exact ⟨z, 0, rfl, HE.out, B3.out⟩
set_option maxRecDepth 100000 in
set_option maxHeartbeats 8000000 in
theorem l02Way_any (n : Nat) (tb : List T3) (s td : Nat) (A : Option Addr) (c b : Nat) (w : World) (h : OkNet n tb) (hs : s < n) (ht : td < n) (hp : ∃ p, wk tb (-1) p s td) (hr : Rd3 w w.heap.size A tb) (hbx : BoxN w b #[.int .i64 n, .slice A tb.length c] 44) :
    Calls Try.prog 89 #[.pointer (some ⟨b, 0, none⟩), .int .i64 s, .int .i64 td] w fun e w' => ∃ (P : List Int) (A' : Option Addr) (c' : Nat), e = .returned (.slice A' P.length c') ∧ w'.ownsRow w.heap.size 2 1 (.slice A' P.length c') P.length (P.map (Value.int .i64)) ∧ Simple tb P s td ∧ Below w.heap.size w w' := by
  obtain ⟨i0, hi0, hz0, hs0, hb0⟩ := info_parts int64_info
  have hn10 := h.1.2
  have hl24 := h.2.1
  have hok := ok_tubes h
  have hbl := hbx.lt
  have HF := hide (l02FarX_any n tb td A c b w h ht hr hbx)
  have HR := hide hr
  have X0 := hide hbx
  have HOK := hide hok
  have HPW := hide hp
  clear h hr hbx hok hp
  go_enter Try.func89, Try.ntmps89
  go_upto_region 2 with (go_at_call 148; (with_reducible refine (HF.out).mono ?_); rintro e w1 ⟨gd, d, rfl, hown, hfb, hfx, s1⟩)
  have HBD := hide (hfb.bd (by omega))
  have hdl := hfb.1
  have HS := hide hfb.2.2
  have HX := hide hfx
  have HD := hide hown
  have B1 := hide s1
  have hgd := hown.lt gd rfl
  have ho1 := own_new0 w1 w1.heap.size 2 1 (Nat.le_refl _)
  have hB2 : Below w1.heap.size w1 (w1.alloc (.cells #[] 2)) := (Below.refl _ _).alloc (Nat.le_refl _) _
  have HD0 := hide (show 0 ≤ dAt d (s : Int) from (far_iff HOK.out hfb.2.2 hfx.2 hfx.1 (by omega)).2 HPW.out)
  clear hfb hfx hown s1 HF
  go_wp2_with fail
  go_loopg [8, 9] (dAt d s).toNat (fun g sv av wr => ∃ (P : List Int) (at_ : Nat), av = .int .i64 at_ ∧ at_ < n ∧ Hid (g = (dAt d at_).toNat) ∧ Hid (0 ≤ dAt d at_) ∧ Hid (WaySt tb d P s at_) ∧ Hid (wr.ownsRow w1.heap.size 2 1 sv P.length (P.map (Value.int .i64))) ∧ Hid (Below w1.heap.size w1 wr))
  case atStart => exact ⟨[], s, rfl, hs, rfl, HD0, ⟨rfl, by simp [begins], fun x hx => by cases hx⟩, hide (by simpa using ho1), hB2⟩
  case round =>
    obtain ⟨P, at_, rfl, hat, hg, HDA, HW, HO, HB⟩ := hrel
    clear ho1 hB2
    obtain ⟨A5, c5, rfl, _⟩ := own_shape HO.out
    by_cases hend : at_ = td
    · subst hend
      have HSI := hide HW.out.simple
      go_wp2_with fail
      go_ret
      exact ⟨P, A5, c5, rfl, own_base HO.out B1.out.size, HSI.out, B1.out.trans (HB.out.mono B1.out.size)⟩
    · have hne : ((at_ : Int) != (td : Int)) = true := by simp; omega
      have HFS := hide (far_step HOK.out HS.out HX.out.2 HX.out.1 (v := (at_ : Int)) (by omega) HDA.out (by omega))
      obtain ⟨wU, hwU⟩ : ∃ q, q = wr := ⟨wr, rfl⟩
      subst hwU
      have HEND := hide hend
      clear hend
      go_wp2_with fail
      go_loopg [8, 9, 10] tb.length (fun g sw aw i wr => ∃ j : Nat, j ≤ tb.length ∧ Hid (g = tb.length - j) ∧ sw = .slice A5 P.length c5 ∧ aw = .int .i64 (at_ : Int) ∧ i = .int .i64 j ∧ Hid (∀ q, q < j → ∀ t, tb[q]? = some t → ¬ (t.a = (at_ : Int) ∧ 0 ≤ dAt d t.b ∧ dAt d t.b + t.c = dAt d at_)) ∧ Hid (Below wU.heap.size wU wr))
      case atStart => exact ⟨0, Nat.zero_le _, by simp [Hid], rfl, rfl, rfl, hide (fun q hq => absurd hq (Nat.not_lt_zero _)), hide (Below.refl _ _)⟩
      case round =>
        obtain ⟨j, hj, hgj, rfl, rfl, rfl, HNO, HBJ⟩ := hrel
        by_cases hjt : j < tb.length
        case neg =>
          exfalso
          obtain ⟨q, t, h1, h2, h3, h4⟩ := HFS.out
          exact HNO.out q (by have := lt_of_get h1; omega) t h1 ⟨h2, h3, h4⟩
        have hbw := HB.out.size
        have HBW := hide (HB.out.trans (HBJ.out.mono hbw))
        have hbb := B1.out.size
        have HBA := hide (B1.out.trans (HBW.out.mono hbb))
        have x1 : wr.cell? ⟨b, 1, none⟩ = some (.slice A tb.length c) := (HBA.out.cell (p := ⟨b, 1, none⟩) hbl).trans (X0.out.cell 1)
        obtain ⟨pb, po, t, hA, _, htj, hta, htb, htc⟩ := (HR.out.below HBA.out).at_ hjt
        subst hA
        obtain ⟨hoa, hob, hoc⟩ := HOK.out t (List.mem_of_getElem? htj)
        obtain ⟨ta, tt, tc⟩ := t
        dsimp only at *
        obtain ⟨aa, rfl⟩ := Int.eq_ofNat_of_zero_le hoa.1
        obtain ⟨bb, rfl⟩ := Int.eq_ofNat_of_zero_le hob.1
        have hbn : bb < n := by omega
        obtain ⟨db, hdb⟩ : ∃ z, d[bb]? = some z := ⟨_, List.getElem?_eq_getElem (by omega)⟩
        obtain ⟨da, hda⟩ : ∃ z, d[at_]? = some z := ⟨_, List.getElem?_eq_getElem (by omega)⟩
        have hdb1 := HBD.out db (List.mem_of_getElem? hdb)
        have hda1 := HBD.out da (List.mem_of_getElem? hda)
        have HTJ := hide htj
        have HRD := hide (own_below (own_below HD.out HB.out (Nat.le_refl _)) HBJ.out (by exact hbw |> fun h => Nat.le_refl _))
        have EB := hide (show dAt d (bb : Int) = db from dAt_getF hdb)
        have EA := hide (show dAt d (at_ : Int) = da from dAt_getF hda)
        have HOT := hide (own_below HO.out HBJ.out (Nat.le_refl _))
        have HTB := hide (BoxN.new wr #[.int .i64 (aa : Int), .int .i64 (bb : Int), .int .i64 tc] 111)
        have HBT := hide (HBJ.out.alloc HBJ.out.size (.cells #[.int .i64 (aa : Int), .int .i64 (bb : Int), .int .i64 tc] 111))
        have HRT := hide (HRD.out.alloc (.cells #[.int .i64 (aa : Int), .int .i64 (bb : Int), .int .i64 tc] 111))
        have HOA := hide (HOT.out.alloc (.cells #[.int .i64 (aa : Int), .int .i64 (bb : Int), .int .i64 tc] 111))
        have hj9 : (j : Int) < (tb.length : Int) := by omega
        have hj0 : (0 : Int) ≤ (j : Int) := by omega
        obtain ⟨hc1, hc2⟩ := hoc
        obtain ⟨hd1, hd2⟩ := hdb1
        obtain ⟨hd3, hd4⟩ := hda1
        clear hoa hob htj HRD HOT
        go_upto_region 9 with fail
        have HGT := hide HBJ.out.size
        generalize hgt : wr.heap.size = gt at *
        generalize wr.alloc (.cells #[.int .i64 (aa : Int), .int .i64 (bb : Int), .int .i64 tc] 111) = wT at *
        have k0 : wT.cell? ⟨gt, 0, none⟩ = some (.int .i64 (aa : Int)) := HTB.out.cell 0
        have k1 : wT.cell? ⟨gt, 1, none⟩ = some (.int .i64 (bb : Int)) := HTB.out.cell 1
        have k2 : wT.cell? ⟨gt, 2, none⟩ = some (.int .i64 tc) := HTB.out.cell 2
        have ca : wT.cell? ⟨gd, at_, none⟩ = some (.int .i64 da) := by rw [HRT.out.cellAt at_ (by omega), List.getElem?_map, hda]; rfl
        have cb : wT.cell? ⟨gd, bb, none⟩ = some (.int .i64 db) := by rw [HRT.out.cellAt bb (by omega), List.getElem?_map, hdb]; rfl
        have hb1 : (bb : Int) < (n : Int) := by omega
        have ha1 : (at_ : Int) < (n : Int) := by omega
        have hwr : IntKind.i64.wrap (db + tc) = db + tc := by rw [IntKind.wrap_i64] <;> omega
        clear hta htb htc hda hdb x1 hgt
        have HNEXT := hide (show ¬ (aa = at_ ∧ 0 ≤ db ∧ db + tc = da) → ∀ q, q < j + 1 → ∀ t, tb[q]? = some t → ¬ (t.a = (at_ : Int) ∧ 0 ≤ dAt d t.b ∧ dAt d t.b + t.c = dAt d at_) from fun hn q hq t htq => by
          by_cases hqj : q < j
          · exact HNO.out q hqj t htq
          · obtain rfl : q = j := by omega
            rw [HTJ.out] at htq; cases htq
            dsimp only
            rw [EB.out, EA.out]
            rintro ⟨h1, h2, h3⟩
            exact hn ⟨by omega, h2, h3⟩)
        by_cases h1 : aa = at_
        case neg =>
          have hB : ((aa : Int) == (at_ : Int)) = false := by simp; omega
          have HN2 := hide (HNEXT.out (fun h => h1 h.1))
          clear h1
          go_quiet (fail)
          go_wp2_with fail
          go_roundg (tb.length - (j + 1))
          case measure => have := hgj.out; omega
          case rel => exact ⟨j + 1, by omega, rfl, rfl, rfl, by go_num, HN2, hide (bdn HBT.out _)⟩
        have hB : ((aa : Int) == (at_ : Int)) = true := by simp; omega
        by_cases h2 : 0 ≤ db
        case neg =>
          have h2' : decide (0 ≤ db) = false := by simp; omega
          have h2b : db < 0 := by omega
          have HN2 := hide (HNEXT.out (fun h => h2 h.2.1))
          clear h1 h2
          go_quiet (fail)
          go_wp2_with fail
          go_roundg (tb.length - (j + 1))
          case measure => have := hgj.out; omega
          case rel => exact ⟨j + 1, by omega, rfl, rfl, rfl, by go_num, HN2, hide (bdn HBT.out _)⟩
        by_cases h3 : db + tc = da
        case neg =>
          have hB3 : ((db + tc : Int) == da) = false := by simpa using h3
          have HN2 := hide (HNEXT.out (fun h => h3 h.2.2))
          clear h1 h3
          go_quiet (fail)
          go_wp2_with fail
          go_roundg (tb.length - (j + 1))
          case measure => have := hgj.out; omega
          case rel => exact ⟨j + 1, by omega, rfl, rfl, rfl, by go_num, HN2, hide (bdn HBT.out _)⟩
        · have hB3 : ((db + tc : Int) == da) = true := by simpa using h3
          have HST := hide (HW.out.step HTJ.out (by show (aa : Int) = (at_ : Int); omega) (by show dAt d (bb : Int) < _; rw [EB.out, EA.out]; omega))
          have HPL := hide (show P.length ≤ n from by
            have := nodup_len HW.out.nod (begins_in HOK.out HW.out.way)
            rwa [begins, List.length_map] at this)
          have hpl := HPL.out
          have HMS := hide (show (dAt d (bb : Int)).toNat < (dAt d (at_ : Int)).toNat from by rw [EB.out, EA.out]; omega)
          have HDN := hide (show 0 ≤ dAt d (bb : Int) by rw [EB.out]; exact h2)
          clear h1 h3
          go_quiet (fail)
          have HOA2 := hide (show (wT.drewN nq).ownsRow w1.heap.size 2 1 _ P.length (P.map (Value.int .i64)) from HOA.out)
          have HBT2 := hide (bdn HBT.out nq)
          have k1' : (wT.drewN nq).cell? ⟨gt, 1, none⟩ = some (.int .i64 (bb : Int)) := k1
          have XT := hide (show BoxN (wT.drewN nq) gt #[.int .i64 (aa : Int), .int .i64 (bb : Int), .int .i64 tc] 111 from HTB.out)
          have zt := XT.out.lt
          have zb := HBT2.out.size
          clear ca cb k0 k1 k2 HOA HBT HTB HRT
          generalize wT.drewN nq = wq at *
          have HWQ := hide (HB.out.trans (HBT2.out.mono hbw))
          have hwq := HWQ.out.size
          have hbq : w1.heap.size ≤ wq.heap.size := HWQ.out.size
          generalize Value.slice A5 P.length c5 = sv at *
          have HOB := HOA2.out
          go_upto_region 11 with (at_builtin; go_must (refine wp_app _ rfl _ _ 22 rfl w1.heap.size 2 i0 (.int .i64 0) 1 8 Try.underlying22 hi0 hz0 hs0 hb0 rfl (by decide) _ _ _ rfl (HOB.alloc _) _ _ 1 1 [.int .i64 (j : Int)] rfl rfl (rd_new _ _ _ _ (by simp)) (int_one _) (by omega) (by decide) (by simp <;> omega) ?_); intro v' w6 hown' hgrow hat)
          have k6 : w6.cell? ⟨gt, 1, none⟩ = some (.int .i64 (bb : Int)) := by
            have hx : BoxN w6 gt #[.int .i64 (aa : Int), .int .i64 (bb : Int), .int .i64 tc] 111 := (hgrow.block gt (by have := zt; simp; omega) (fun e => by have := (HO.out.lt _ e.symm).2; have := HGT.out; omega)).trans (XT.out.alloc _)
            exact hx.cell 1
          have HB6 := hide (app_below (HWQ.out.alloc hbq _) (HOB.alloc _) hgrow (Nat.le_refl _) (by simp; omega))
          have HO6 := hide hown'
          have HMG := hide (show (P ++ [(j : Int)]).length = P.length + 1 by simp)
          have HMP := hide (show (P ++ [(j : Int)]).map (Value.int .i64) = P.map (Value.int .i64) ++ [.int .i64 (j : Int)] by simp)
          clear hown' hgrow hat HOB
          go_wp2_with fail
          go_roundg (dAt d (bb : Int)).toNat
          case measure => have := HMS.out; have := hg.out; omega
          case rel => exact ⟨P ++ [(j : Int)], bb, rfl, hbn, hide rfl, HDN, HST, hide (by rw [HMG.out, HMP.out]; exact HO6.out), HB6⟩
theorem specShortestWay_any (n : Nat) (tb : List T3) (s td : Nat) (A : Option Addr) (c : Nat) (w : World) (h : OkNet n tb) (hs : s < n) (ht : td < n) (hr : Rd3 w w.heap.size A tb) :
    Calls Try.prog 20 #[.agg #[.int .i64 n, .slice A tb.length c], .int .i64 s, .int .i64 td] w fun e w' => ∃ (P : List Int) (A' : Option Addr) (c' : Nat) (cd : Int), e = .returned (.tuple #[.slice A' P.length c', .int .i64 cd]) ∧ RdI w' w'.heap.size A' P ∧ CodeR tb s td cd ∧ (cd = 0 → Simple tb P s td) ∧ Below w.heap.size w w' := by
  have X0 := hide (BoxN.new w #[.int .i64 n, .slice A tb.length c] 44)
  have b0 : Below w.heap.size w (w.alloc (.cells #[.int .i64 n, .slice A tb.length c] 44)) := (by repeat (first | exact Below.refl _ _ | assumption | (refine Below.alloc ?_ (by simp <;> omega) _) | refine Below.drew ?_ | refine bdn ?_ _))
  have B0 := hide b0
  have z0 := X0.out.lt
  have HC := hide fun W (hW : Below w.heap.size w W) => specShortest_any n tb s td A c W h hs ht ((hr.below hW).more hW.size)
  have HL := hide fun W (hW : Below w.heap.size w W) hp hX => l02Way_any n tb s td A c w.heap.size W h hs ht hp ((hr.below hW).more hW.size) hX
  clear h hr b0
  go_enter Try.func20, Try.ntmps20
  go_upto_region 1 with fail
  generalize w.alloc (.cells #[.int .i64 n, .slice A tb.length c] 44) = w1 at *
  have k0 := X0.out.cell 0
  have k1 := X0.out.cell 1
  go_upto_region 2 with (go_at_call 88; (with_reducible refine (HC.out _ B0.out).mono ?_); rintro e w2 ⟨x, cd, rfl, hcd, s2⟩)
  have X2 := hide (X0.out.below s2 z0)
  have B2 := hide (B0.out.trans (s2.mono B0.out.size))
  have HCD := hide hcd
  clear k0 k1 s2 hcd
  by_cases h0 : cd = 0
  case neg =>
    have hB : (cd != 0) = true := by simpa using h0
    have H0 := hide h0
    clear h0
    go_wp2_with fail
    refine bodyPost_ret (v := .tuple #[.slice none 0 0, .int .i64 cd]) (by simp [results, Try.results20, go_sem]) rfl ?_
    exact ⟨[], none, 0, cd, rfl, Rd.nil _ _ _, HCD.out, fun h => absurd h H0.out, B2.out⟩
  · have HEX := hide (HCD.out.ok h0)
    subst h0
    go_wp2_with (go_at_call 89; (with_reducible refine (HL.out _ B2.out HEX.out X2.out).mono ?_); rintro e w3 ⟨P, A3, c3, rfl, hown, hsi, s3⟩)
    refine bodyPost_ret (v := .tuple #[.slice A3 P.length c3, .int .i64 0]) (by simp [results, Try.results20, go_sem]) rfl ?_
    exact ⟨P, A3, c3, 0, rfl, Rd.of_own hown, HCD.out, fun _ => hsi, B2.out.trans (s3.mono B2.out.size)⟩
end Go.Proofs.Ytlkccijlbeibjaa
