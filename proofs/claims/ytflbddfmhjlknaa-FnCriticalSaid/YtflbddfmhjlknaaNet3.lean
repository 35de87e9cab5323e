/-
  Least lengths in the program.
-/
import Derived.Test.YtflbddfmhjlknaaNet2
import Derived.Test.YtflbddfmhjlknaaSrc14
namespace Go.Proofs.Ytflbddfmhjlknaa
open Go.RowKit
theorem dAt_get {d : List Int} {k : Nat} {z : Int} (h : d[k]? = some z) : dAt d (k : Int) = z := by simp [dAt, h]
theorem relaxGo_drop {wo : Int} {tb : List T3} {j : Nat} {t : T3} {d : List Int} (h : tb[j]? = some t) : relaxGo wo (tb.drop j) (j : Int) d = relaxGo wo (tb.drop (j + 1)) ((j : Int) + 1) (relax1 wo j t d) := by rw [drop_cons h, relaxGo]
/-- What is known of the values while they are made. -/
def DBd (n : Nat) (K : Int) (d : List Int) : Prop := d.length = n ∧ ∀ z ∈ d, -1 ≤ z ∧ z ≤ K
theorem DBd.relax {n : Nat} {K wo i : Int} {t : T3} {d : List Int} (h : DBd n K d) (hc : 0 ≤ t.c ∧ t.c ≤ 2000) (hK : 0 ≤ K) : DBd n (K + 2000) (relax1 wo i t d) := by
  have hb : ∀ v : Int, -1 ≤ dAt d v ∧ dAt d v ≤ K := fun v => by
    unfold dAt
    cases hv : d[v.toNat]? with
    | none => simp; omega
    | some z => have := h.2 z (List.mem_of_getElem? hv); simpa using this
  refine ⟨by rw [relax1_len]; exact h.1, fun z hz => ?_⟩
  unfold relax1 at hz
  split at hz
  · have := h.2 z hz; omega
  · split at hz
    · rcases List.mem_or_eq_of_mem_set hz with hz | rfl
      · have := h.2 z hz; omega
      · have := hb t.b; omega
    · have := h.2 z hz; omega
theorem DBd.more {n : Nat} {K K' : Int} {d : List Int} (h : DBd n K d) (hk : K ≤ K') : DBd n K' d := ⟨h.1, fun z hz => by have := h.2 z hz; omega⟩
set_option maxRecDepth 100000 in
set_option maxHeartbeats 8000000 in
theorem distances_any (n : Nat) (tb : List T3) (td wo : Int) (A : Option Addr) (c : Nat) (w : World) (h : OkNet n tb) (hto : 0 ≤ td ∧ td < n) (hr : Rd3 w w.heap.size A tb) :
    Calls Try.prog 132 #[.agg #[.int .i64 n, .slice A tb.length c], .int .i64 td, .int .i64 wo] w fun e w' => ∃ g', e = .returned (.slice (some ⟨g', 0, none⟩) n n) ∧ w'.ownsRow w.heap.size 2 1 (.slice (some ⟨g', 0, none⟩) n n) n ((dist n tb td wo).map (Value.int .i64)) ∧ Below w.heap.size w w' := by
  obtain ⟨⟨hn2, hn10⟩, hl, ht⟩ := h
  obtain ⟨tn, rfl⟩ := Int.eq_ofNat_of_zero_le hto.1
  have htn : tn < n := by omega
  have HT := hide ht
  have HR := hide hr
  have X0 := hide (BoxN.new w #[.int .i64 n, .slice A tb.length c] 87)
  have b0 : Below w.heap.size w ((w.alloc (.cells #[.int .i64 n, .slice A tb.length c] 87)).alloc (.cells #[.int .i64 (-1)] 2)) := (by repeat (first | exact Below.refl _ _ | assumption | (refine Below.alloc ?_ (by simp <;> omega) _) | refine Below.drew ?_ | refine bdn ?_ _))
  have X1 := hide (X0.out.alloc (.cells #[.int .i64 (-1)] 2))
  have kc : ((w.alloc (.cells #[.int .i64 n, .slice A tb.length c] 87)).alloc (.cells #[.int .i64 (-1)] 2)).cell? ⟨w.heap.size + 1, 0, none⟩ = some (.int .i64 (-1)) := by simp [go_sem]
  have zz : w.heap.size < ((w.alloc (.cells #[.int .i64 n, .slice A tb.length c] 87)).alloc (.cells #[.int .i64 (-1)] 2)).heap.size := by simp <;> omega
  have HP := hide (repeat_any n (w.heap.size + 1) _ (by omega) (by omega) kc)
  clear ht hr hto kc
  go_enter Try.func132, Try.ntmps132
  go_upto_region 2 with (go_at_call 159; (with_reducible refine (HP.out).mono ?_); rintro e w1 ⟨g', rfl, hown, hb⟩)
  generalize (w.alloc (.cells #[.int .i64 n, .slice A tb.length c] 87)).alloc (.cells #[.int .i64 (-1)] 2) = w0 at *
  have hgb := (hown.lt g' rfl).1
  have X2 := hide (X1.out.only (only_of_below (lo := w0.heap.size) (hi := w0.heap.size) hb) (.inl zz))
  have HB1 := hide (b0.trans (hb.mono b0.size))
  have hc0 : w1.cell? ⟨g', tn, none⟩ = some (.int .i64 (-1)) := by
    rw [hown.cellAt tn (by omega), List.getElem?_map, List.getElem?_replicate, if_pos htn]; rfl
  have hf0 := hown.frozenAt tn
  have ST := hide (hown.stored tn (.int .i64 0))
  have ht0 : (tn : Int) < (n : Int) := by omega
  have ht1 : (0 : Int) ≤ (tn : Int) := by omega
  clear hown hb HP X0 X1 b0
  go_upto_region 3 with fail
  have R2 := hide (show (w1.setCell ⟨g', tn, none⟩ (.int .i64 0)).ownsRow w0.heap.size 2 1 (.slice (some ⟨g', 0, none⟩) n n) n ((dist0 n tn).map (Value.int .i64)) from by
    have h := ST.out.1
    rw [← List.map_set] at h
    unfold dist0
    rw [Int.toNat_natCast]
    exact h)
  have X3 := hide (X2.out.other (b' := g') (by omega) tn (.int .i64 0))
  have HB3 := hide (HB1.out.setCell (p := ⟨g', tn, none⟩) (show w.heap.size ≤ g' by omega) (.int .i64 0))
  have HD3 := hide (show DBd n 0 (dist0 n tn) from ⟨by simp [dist0], fun z hz => by
    unfold dist0 at hz
    rcases List.mem_or_eq_of_mem_set hz with hz | rfl
    · rw [List.eq_of_mem_replicate hz]; omega
    · omega⟩)
  clear ST hc0 hf0 X2 HB1
  generalize w1.setCell ⟨g', tn, none⟩ (.int .i64 0) = w3 at *
  have x0 : w3.cell? ⟨w.heap.size, 0, none⟩ = some (.int .i64 n) := X3.out.cell 0
  go_wp2_with fail
  go_loopg [20] n (fun gg i wr => ∃ (k : Nat) (d : List Int), k ≤ n ∧ Hid (gg = n - k) ∧ i = .int .i64 k ∧ Hid (d = rounds wo tb k (dist0 n tn)) ∧ Hid (DBd n (48000 * (k : Int)) d) ∧ Hid (wr.ownsRow w0.heap.size 2 1 (.slice (some ⟨g', 0, none⟩) n n) n (d.map (Value.int .i64))) ∧ Hid (BoxN wr w.heap.size #[.int .i64 n, .slice A tb.length c] 87) ∧ Hid (Below w.heap.size w wr))
  case atStart => exact ⟨0, dist0 n tn, by omega, by simp [Hid], rfl, rfl, HD3.out.more (by omega), R2.out, X3.out, HB3.out⟩
  case round =>
    obtain ⟨k, d, hk, hgg, rfl, HDE, HDB, HRW, HXN, HBW⟩ := hrel
    clear R2 X3 HB3 HD3 x0
    by_cases hkn : k < n
    · have x1 : wr.cell? ⟨w.heap.size, 1, none⟩ = some (.slice A tb.length c) := HXN.out.cell 1
      have hkn' : (k : Int) < (n : Int) := by omega
      go_wp2_with fail
      go_loopg [25] tb.length (fun gm i wr => ∃ (j : Nat) (e : List Int), j ≤ tb.length ∧ Hid (gm = tb.length - j) ∧ i = .int .i64 j ∧ Hid (relaxGo wo tb 0 d = relaxGo wo (tb.drop j) j e) ∧ Hid (DBd n (48000 * (k : Int) + 2000 * (j : Int)) e) ∧ Hid (wr.ownsRow w0.heap.size 2 1 (.slice (some ⟨g', 0, none⟩) n n) n (e.map (Value.int .i64))) ∧ Hid (BoxN wr w.heap.size #[.int .i64 n, .slice A tb.length c] 87) ∧ Hid (Below w.heap.size w wr))
      case atStart => exact ⟨0, d, by omega, by simp [Hid], rfl, by simp [Hid], HDB.out.more (by omega), HRW.out, HXN.out, HBW.out⟩
      case round =>
        obtain ⟨j, e, hj, hgm, rfl, HEE, HEB, HRE, HXE, HBE⟩ := hrel
        clear HRW HXN HBW x1
        by_cases hjt : j < tb.length
        · obtain ⟨pb, po, t, rfl, _, htj, hta, htb, htc⟩ := (HR.out.below HBE.out).at_ hjt
          obtain ⟨hoa, hob, _, hoc⟩ := HT.out t (List.mem_of_getElem? htj)
          have HTJ := hide htj
          obtain ⟨ta, tt, tc⟩ := t
          dsimp only at *
          obtain ⟨aa, rfl⟩ := Int.eq_ofNat_of_zero_le hoa.1
          obtain ⟨bb, rfl⟩ := Int.eq_ofNat_of_zero_le hob.1
          have haa : aa < n := by omega
          have hbb : bb < n := by omega
          have hel := HEB.out.1
          obtain ⟨da, hea⟩ : ∃ z, e[aa]? = some z := ⟨_, List.getElem?_eq_getElem (show aa < e.length by omega)⟩
          obtain ⟨db, heb⟩ : ∃ z, e[bb]? = some z := ⟨_, List.getElem?_eq_getElem (show bb < e.length by omega)⟩
          have hba := HEB.out.2 da (List.mem_of_getElem? hea)
          have hbd := HEB.out.2 db (List.mem_of_getElem? heb)
          have hda1 := hba.2
          have hdb1 := hbd.2
          have hda0 := hba.1
          have hdb0 := hbd.1
          have hc0 := hoc.1
          have hc1 := hoc.2
          have HSTEP := hide (relaxGo_drop (wo := wo) (d := e) htj)
          have HDA := hide (dAt_get hea)
          have HDB2 := hide (dAt_get heb)
          have hzw := HBE.out.size
          have HRT := hide (HRE.out.alloc (.cells #[.int .i64 (aa : Int), .int .i64 (bb : Int), .int .i64 tc] 93))
          have HXT := hide (HXE.out.alloc (.cells #[.int .i64 (aa : Int), .int .i64 (bb : Int), .int .i64 tc] 93))
          have HBT := hide (HBE.out.alloc hzw (.cells #[.int .i64 (aa : Int), .int .i64 (bb : Int), .int .i64 tc] 93))
          have HTB := hide (BoxN.new wr #[.int .i64 (aa : Int), .int .i64 (bb : Int), .int .i64 tc] 93)
          have HN1 := hide (HEB.out.relax (wo := wo) (i := (j : Int)) (t := ⟨(aa : Int), (bb : Int), tc⟩) (by dsimp only; omega) (by omega))
          have HNB := hide (HN1.out.more (K' := 48000 * (k : Int) + 2000 * ((j + 1 : Nat) : Int)) (by omega))
          have hgw : g' ≠ wr.heap.size := by have := (HRE.out.lt g' rfl).2; omega
          clear hoa hob hoc htj hba hbd HRE HXE HBE HN1
          go_upto_region 8 with fail
          generalize wr.heap.size = gt at *
          generalize wr.alloc (.cells #[.int .i64 (aa : Int), .int .i64 (bb : Int), .int .i64 tc] 93) = wT at *
          have k0 : wT.cell? ⟨gt, 0, none⟩ = some (.int .i64 (aa : Int)) := HTB.out.cell 0
          have k1 : wT.cell? ⟨gt, 1, none⟩ = some (.int .i64 (bb : Int)) := HTB.out.cell 1
          have k2 : wT.cell? ⟨gt, 2, none⟩ = some (.int .i64 tc) := HTB.out.cell 2
          have ca : wT.cell? ⟨g', aa, none⟩ = some (.int .i64 da) := by rw [HRT.out.cellAt aa (by omega), List.getElem?_map, hea]; rfl
          have cb : wT.cell? ⟨g', bb, none⟩ = some (.int .i64 db) := by rw [HRT.out.cellAt bb (by omega), List.getElem?_map, heb]; rfl
          have hb1 : (bb : Int) < (n : Int) := by omega
          have ha1 : (aa : Int) < (n : Int) := by omega
          have hb2 : (0 : Int) ≤ (bb : Int) := by omega
          have ha2 : (0 : Int) ≤ (aa : Int) := by omega
          have HEA := hide hea
          clear hta htb htc hea heb hel HTJ
          by_cases hjw : (j : Int) = wo
          · have hB : ((j : Int) == wo) = true := by simp [hjw]
            have HE2 := hide (show relaxGo wo tb 0 d = relaxGo wo (tb.drop (j + 1)) ((j + 1 : Nat) : Int) e by
              rw [HEE.out, HSTEP.out]; unfold relax1; rw [if_pos (.inl hjw)]; rfl)
            have HNB2 := HNB
            unfold relax1 at HNB2
            rw [if_pos (.inl hjw)] at HNB2
            have HJW := hide hjw
            clear hjw HNB
            go_wp2_with fail
            go_roundg (tb.length - (j + 1))
            case measure => have := hgm.out; omega
            case rel => exact ⟨j + 1, e, by omega, rfl, by go_num, HE2, HNB2, HRT, HXT, HBT⟩
          have hB : ((j : Int) == wo) = false := by simp [hjw]
          by_cases hdn : db < 0
          · have HE2 := hide (show relaxGo wo tb 0 d = relaxGo wo (tb.drop (j + 1)) ((j + 1 : Nat) : Int) e by
              rw [HEE.out, HSTEP.out]; unfold relax1; rw [if_pos (.inr (by dsimp only; rw [HDB2.out]; exact hdn))]; rfl)
            have HNB2 := HNB
            unfold relax1 at HNB2
            rw [if_pos (.inr (by dsimp only; rw [HDB2.out]; exact hdn))] at HNB2
            have HJW := hide hjw
            clear hjw HNB
            go_wp2_with fail
            go_roundg (tb.length - (j + 1))
            case measure => have := hgm.out; omega
            case rel => exact ⟨j + 1, e, by omega, rfl, by go_num, HE2, HNB2, HRT, HXT, HBT⟩
          have hskip : ¬ ((j : Int) = wo ∨ dAt e (bb : Int) < 0) := by rw [HDB2.out]; omega
          have HSK := hide hskip
          have HJW := hide hjw
          have hwr : IntKind.i64.wrap (db + tc) = db + tc := by rw [IntKind.wrap_i64] <;> omega
          clear hskip hjw
          go_wp2_with fail
          go_quiet (fail)
          have ca' : (wT.drewN nq).cell? ⟨g', aa, none⟩ = some (.int .i64 da) := ca
          have k0' : (wT.drewN nq).cell? ⟨gt, 0, none⟩ = some (.int .i64 (aa : Int)) := k0
          have HRT2 : Hid ((wT.drewN nq).ownsRow w0.heap.size 2 1 (.slice (some ⟨g', 0, none⟩) n n) n (e.map (Value.int .i64))) := HRT.out
          have HXT2 : Hid (BoxN (wT.drewN nq) w.heap.size #[.int .i64 n, .slice (some ⟨pb, po, none⟩) tb.length c] 87) := HXT.out
          have HBT2 : Hid (Below w.heap.size w (wT.drewN nq)) := bdn HBT.out nq
          clear ca cb k0 k1 k2 HRT HXT HBT HTB
          generalize wT.drewN nq = wq at *
          by_cases hst : da < 0 ∨ db + tc < da
          · have hf := HRT2.out.frozenAt aa
            have ST := hide (HRT2.out.stored aa (.int .i64 (db + tc)))
            have HE2 := hide (show relaxGo wo tb 0 d = relaxGo wo (tb.drop (j + 1)) ((j + 1 : Nat) : Int) (e.set aa (db + tc)) by
              rw [HEE.out, HSTEP.out]; unfold relax1; rw [if_neg HSK.out, if_pos (by dsimp only; rw [HDB2.out, HDA.out]; exact hst)]; dsimp only; rw [HDB2.out, Int.toNat_natCast]; rfl)
            have HNB2 := HNB
            unfold relax1 at HNB2
            rw [if_neg HSK.out, if_pos (by dsimp only; rw [HDB2.out, HDA.out]; exact hst)] at HNB2
            dsimp only at HNB2
            rw [HDB2.out, Int.toNat_natCast] at HNB2
            have HS2 := hide (show (wq.setCell ⟨g', aa, none⟩ (.int .i64 (db + tc))).ownsRow w0.heap.size 2 1 (.slice (some ⟨g', 0, none⟩) n n) n ((e.set aa (db + tc)).map (Value.int .i64)) from by
              have h := ST.out.1
              rw [← List.map_set] at h
              exact h)
            have HX2 := hide (HXT2.out.other (b' := g') (by omega) aa (.int .i64 (db + tc)))
            have HB2 := hide (HBT2.out.setCell (p := ⟨g', aa, none⟩) (show w.heap.size ≤ g' by omega) (.int .i64 (db + tc)))
            by_cases hdn2 : da < 0
            · clear hst
              go_wp2_with fail
              go_roundg (tb.length - (j + 1))
              case measure => have := hgm.out; omega
              case rel => exact ⟨j + 1, e.set aa (db + tc), by omega, rfl, by go_num, HE2, HNB2, HS2, HX2, HB2⟩
            · have hst2 : db + tc < da := by omega
              clear hst
              go_wp2_with fail
              go_roundg (tb.length - (j + 1))
              case measure => have := hgm.out; omega
              case rel => exact ⟨j + 1, e.set aa (db + tc), by omega, rfl, by go_num, HE2, HNB2, HS2, HX2, HB2⟩
          · have hst1 : ¬ da < 0 := by omega
            have hst2 : ¬ db + tc < da := by omega
            have HE2 := hide (show relaxGo wo tb 0 d = relaxGo wo (tb.drop (j + 1)) ((j + 1 : Nat) : Int) e by
              rw [HEE.out, HSTEP.out]; unfold relax1; rw [if_neg HSK.out, if_neg (by dsimp only; rw [HDB2.out, HDA.out]; exact hst)]; rfl)
            have HNB2 := HNB
            unfold relax1 at HNB2
            rw [if_neg HSK.out, if_neg (by dsimp only; rw [HDB2.out, HDA.out]; exact hst)] at HNB2
            clear hst
            go_wp2_with fail
            go_roundg (tb.length - (j + 1))
            case measure => have := hgm.out; omega
            case rel => exact ⟨j + 1, e, by omega, rfl, by go_num, HE2, HNB2, HRT2, HXT2, HBT2⟩
        · have hF := HEE.out
          rw [List.drop_eq_nil_of_le (by omega), relaxGo] at hF
          have HFF := hide (show e = rounds wo tb (k + 1) (dist0 n tn) by rw [rounds_snoc, ← HDE.out, hF])
          have hjl : j = tb.length := by omega
          have HEB2 := hide (HEB.out.more (K' := 48000 * ((k + 1 : Nat) : Int)) (by omega))
          clear hF hjl
          go_wp2_with fail
          go_roundg (n - (k + 1))
          case measure => have := hgg.out; omega
          case rel => exact ⟨k + 1, e, by omega, rfl, by go_num, HFF, HEB2, HRE, HXE, HBE⟩
    · obtain rfl : k = n := by omega
      go_wp2_with fail
      go_ret
      have h := HRW.out
      rw [HDE.out] at h
      exact ⟨g', rfl, own_base h (by omega), HBW.out⟩
end Go.Proofs.Ytflbddfmhjlknaa
