/-
  The law FnPlans returns true for every input. No condition.
-/
import Derived.Test.YtfhociekhffjhaaSrc10
import Derived.Test.YtfhociekhffjhaaOrdE
import Derived.Test.YtfhociekhffjhaaOrdD
import Derived.Test.YtfhociekhffjhaaLawH
import Derived.Test.YtfhociekhffjhaaRows
import Derived.Test.YtfhociekhffjhaaOpenB
import Derived.ProofKit
import Derived.OpenShut
namespace Go.Proofs.Ytfhociekhffjhaa
open Go.ChangeShapes Go.WideShapes Go.ChangeAt Go.RowKit

theorem rdI_s {w : World} {B : Nat} {A : Option Addr} {c n : Nat} {x : List Int} (h : R_Int64S w B (.slice A n c) x) : RdI w B A x := by
  obtain ⟨A', c', e, r⟩ := h
  simp only [Value.slice.injEq] at e
  rw [e.1]
  exact r
theorem rn_s {m : Nat} {w : World} {B : Nat} {A : Option Addr} {c n : Nat} {x : List TN} (h : ∃ A' c', Value.slice A n c = .slice A' x.length c' ∧ RN m w B A' x) : RN m w B A x := by
  obtain ⟨A', c', e, r⟩ := h
  simp only [Value.slice.injEq] at e
  rw [e.1]
  exact r
theorem o_shape {w : World} {lo hi : Nat} {v : Value} {x : List Int} (h : O_Int64S w lo hi v x) : ∃ A c, v = .slice A x.length c := by
  obtain ⟨⟨A, c, e⟩, _⟩ := h
  exact ⟨A, c, e⟩
set_option maxRecDepth 100000 in
set_option maxHeartbeats 8000000 in
theorem lPlans_walk (x : List Int) (v : Value) (y : List Int) (u : Value) (w : World) (r : ∃ A c, v = .slice A x.length c ∧ RdB w w.heap.size A x) (nx : x.length ≤ 9223372036854775807) (fx : ∀ z ∈ x, 0 ≤ z ∧ z ≤ 255) (r2 : ∃ A c, u = .slice A y.length c ∧ RdB w w.heap.size A y) (ny : y.length ≤ 9223372036854775807) (fy : ∀ z ∈ y, 0 ≤ z ∧ z ≤ 255) :
    Calls Try.prog 8 #[v, u] w fun e w' => e = .returned (.bool true) ∧ Below w.heap.size w w' := by
  obtain ⟨A, c, rfl, r⟩ := r
  obtain ⟨A2, c2, rfl, r2⟩ := r2
  obtain ⟨i1, hi1, hz1, hs1, hb1⟩ := info_parts RunS_info
  have HL := hide (a2Long_any x.length y.length A A2 c c2 w nx ny)
  by_cases hlong : 3000 < x.length ∨ 3000 < y.length
  · rw [decide_eq_true hlong] at HL
    clear hlong r r2
    go_enter Try.func8, Try.ntmps8
    go_wp2_with (go_at_call 11; refine (HL.out).mono ?_; rintro e w' ⟨rfl, rfl⟩)
    go_ret
    exact ⟨rfl, Below.refl _ _⟩
  rw [decide_eq_false hlong] at HL
  have HT := hide (a2Times_any x A c w ⟨by omega, fx⟩ r)
  have HW := hide fun n A3 c3 W (hW : Below w.heap.size w W) (hn : 1 ≤ n) (hn6 : n ≤ 1000) => a2Wishes_any y A2 c2 A3 n c3 W ⟨by omega, fy⟩ hn hn6 ((r2.below hW).more hW.size)
  have HOD := hide fun (n : Nat) W (hW : Below w.heap.size w W) (hn : n ≤ 1000) => a2Order_any x A c n W ⟨by omega, fx⟩ hn ((r.below hW).more hW.size)
  clear hlong r r2 fx fy nx ny
  go_enter Try.func8, Try.ntmps8
  go_wp2_with (first | (go_at_call 11; refine (HL.out).mono ?_; rintro e w' ⟨rfl, rfl⟩) | (go_at_call 12; refine (HT.out).mono ?_; rintro e w1 ⟨A3, c3, ts, rfl, o1, hts, b1⟩))
  have HTS := hide hts
  have hts1 := hts.1.1
  have hts6 := hts.1.2
  clear hts HT HL
  go_wp2_with (go_at_call 21; refine (HW.out _ _ _ _ b1 hts1 (by omega)).mono ?_; rintro e w2 ⟨A4, c4, l, rfl, o2, hl, b2⟩)
  have HVW := hide (wdrawn_ok HTS.out hl)
  have HFT : Hid (∀ z ∈ ts, -9223372036854775808 ≤ z ∧ z ≤ 9223372036854775807) := fun z hz => by have := HTS.out.2 z hz; omega
  have HFW : Hid (∀ e ∈ l, e.Fits) := fun e he => wdrawn_fits (by omega) (hl.2 e he)
  have HSM := hide o2.small
  have HOT := hide (vWishes_iff.1 HVW.out).1
  have HOW := hide fun e (he : e ∈ l) => ((vWishes_iff.1 HVW.out).2.2 e he)
  have hl4 := hl.1
  have bw2 : Below w.heap.size w w2 := b1.trans (b2.mono b1.size)
  have o1' := o1.below b2 (Nat.le_refl _)
  have HR1 := hide fun W (hW : Below w2.heap.size w2 W) => (o1'.r.below hW).more hW.size
  have HR2 := hide fun W (hW : Below w2.heap.size w2 W) => (o2.r.below hW).more hW.size
  clear hl o1 o2 o1' HW
  go_wp2_with (go_at_call 63; refine (HOD.out _ _ bw2 (by omega)).mono ?_; rintro e w3 ⟨A5, c5, xs, rfl, o5, hgt, b3⟩)
  obtain ⟨hxl, hxb, hxn⟩ := hgt
  have hcd : codeO ts l xs = 0 := GoodO.code HVW.out ⟨fun z hz => by have := hxb z hz; omega, hxn⟩ hxl
  have HCD := hide hcd
  have HXB := hide hxb
  have HO5 := hide o5
  have hz23 := b3.size
  have HQX := hide fun W (hW : Below w3.heap.size w3 W) => (o5.r.below hW).more hW.size
  have hcap := cap_of o5
  have HCAP := hide hcap
  have hpp : planByOrder ts l xs = (plan ts l xs, 0) := by unfold planByOrder; exact if_pos hcd
  have hps : sumOfDelays ts l xs = (dlGo l (plan ts l xs) 0, 0) := by unfold sumOfDelays; exact if_pos hcd
  have hpl : lateWishes ts l xs = (laGo ts l (plan ts l xs) 0, 0) := by unfold lateWishes; exact if_pos hcd
  have hpe : lastEnd ts l xs = (leGo ts l (plan ts l xs) 0 0, 0) := by unfold lastEnd; exact if_pos hcd
  have hpf : (bestO true ts l).2.2 = 0 := by unfold bestO; rw [if_pos HVW.out]
  have hxf : ∀ z ∈ xs, -9223372036854775808 ≤ z ∧ z ≤ 9223372036854775807 := fun z hz => by have := HXB.out z hz; omega
  have HPB := hide fun W (hW : Below w3.heap.size w3 W) => P_PlanByOrder ts (.slice A3 ts.length c3) l (.slice A4 l.length c4) xs (.slice A5 xs.length c5) W (by omega) HFT.out (HR1.out W (b3.trans (hW.mono hz23))) HSM.out HFW.out (HR2.out W (b3.trans (hW.mono hz23))) (by omega) hxf (HQX.out W hW) HCAP.out
  have HPS := hide fun W (hW : Below w3.heap.size w3 W) => P_SumOfDelays ts (.slice A3 ts.length c3) l (.slice A4 l.length c4) xs (.slice A5 xs.length c5) W (by omega) HFT.out (HR1.out W (b3.trans (hW.mono hz23))) HSM.out HFW.out (HR2.out W (b3.trans (hW.mono hz23))) (by omega) hxf (HQX.out W hW) HCAP.out
  have HPL := hide fun W (hW : Below w3.heap.size w3 W) => P_LateWishes ts (.slice A3 ts.length c3) l (.slice A4 l.length c4) xs (.slice A5 xs.length c5) W (by omega) HFT.out (HR1.out W (b3.trans (hW.mono hz23))) HSM.out HFW.out (HR2.out W (b3.trans (hW.mono hz23))) (by omega) hxf (HQX.out W hW) HCAP.out
  have HPE := hide fun W (hW : Below w3.heap.size w3 W) => P_LastEnd ts (.slice A3 ts.length c3) l (.slice A4 l.length c4) xs (.slice A5 xs.length c5) W (by omega) HFT.out (HR1.out W (b3.trans (hW.mono hz23))) HSM.out HFW.out (HR2.out W (b3.trans (hW.mono hz23))) (by omega) hxf (HQX.out W hW) HCAP.out
  have HPF := hide fun W (hW : Below w3.heap.size w3 W) => P_FewestLate ts (.slice A3 ts.length c3) l (.slice A4 l.length c4) W (by omega) HFT.out (HR1.out W (b3.trans (hW.mono hz23))) HSM.out HFW.out (HR2.out W (b3.trans (hW.mono hz23)))
  rw [hpp] at HPB
  rw [hps] at HPS
  rw [hpl] at HPL
  rw [hpe] at HPE
  rw [hpf] at HPF
  have HDL := hide (dl_order hcd)
  have HLE := hide (le_order hcd)
  have HRI := hide (late_rises ts l xs)
  have HFE := hide (few_le hcd)
  have HLH := hide fun (k : Int) (h1 : 0 ≤ k) (h2 : k < l.length) => late_has (ts := ts) (order := xs) h1 h2
  have HSS := hide fun i k (hk : xs[i]? = some k) => start_spec hcd hk
  have HDN := hide (dn_ok hcd)
  have hll : (laGo ts l (plan ts l xs) 0).length ≤ 4 := by have := laGo_len ts l (plan ts l xs) 0; rw [plan_len] at this; omega
  have hpln := plan_len ts l xs
  clear hcd hxb hxn o5 hcap hpp hps hpl hpe hpf hxf HOD
  generalize laGo ts l (plan ts l xs) 0 = la at *
  generalize dlGo l (plan ts l xs) 0 = ds at *
  generalize leGo ts l (plan ts l xs) 0 0 = le at *
  generalize (bestO true ts l).2.1 = fw at *
  generalize plan ts l xs = pl at *
  have hf1 := HFE.out.1
  have hf2 := HFE.out.2
  have hD1 : decide ((la.length : Int) < fw) = false := decide_eq_false (by omega)
  have hD2 : decide (fw < 0) = false := decide_eq_false (by omega)
  have hlen1 : pl.length ≤ l.length := by omega
  have hlen2 : l.length ≤ pl.length := by omega
  have hxl1 : xs.length ≤ l.length := by omega
  have hxl2 : l.length ≤ xs.length := by omega
  have HLEN := hide hpln
  have HXL := hide hxl
  clear hpln hxl
  have HAR := hide fun A c W (h : RdI W W.heap.size A la) => a2Rises_any la l.length A c W (by omega) HRI.out h
  go_wp2_with (first | (go_at_call 64; refine (HPB.out _ (Below.refl _ _)).mono ?_; rintro e w4 ⟨vp, rfl, o4, b4⟩; obtain ⟨A6, c6, rfl⟩ := o_shape o4; have b34 := b4) | (go_at_call 26; refine (HPS.out _ b34).mono ?_; rintro e w5 ⟨rfl, b5⟩; have b35 := b34.trans (b5.mono b34.size)) | (go_at_call 65; refine (HPL.out _ b35).mono ?_; rintro e w6 ⟨vl, rfl, o6, b6⟩; obtain ⟨A7, c7, rfl⟩ := o_shape o6; have b36 := b35.trans (b6.mono b35.size)) | (go_at_call 66; refine (HPE.out _ b36).mono ?_; rintro e w7 ⟨rfl, b7⟩; have b37 := b36.trans (b7.mono b36.size)) | (go_at_call 67; refine (HPF.out _ b37).mono ?_; rintro e w8 ⟨vf, rfl, _, b8⟩; have b38 := b37.trans (b8.mono b37.size); have hla8 := ((RdI.below (own_rdI o6) (b7.trans (b8.mono b7.size))).more (b7.trans (b8.mono b7.size)).size)) | (go_at_call 68; refine (HAR.out _ _ _ hla8).mono ?_; rintro e w9 ⟨rfl, b9⟩))
  have b39 := b38.trans (b9.mono b38.size)
  have b29 := b3.trans (b39.mono hz23)
  have bw9 := bw2.trans (b29.mono bw2.size)
  have HRT := hide (rdI_s (HR1.out _ b29))
  have HRL := hide (rn_s (HR2.out _ b29))
  have HRX := hide (rdI_s (HQX.out _ b39))
  have b49 := b5.trans ((b6.trans ((b7.trans ((b8.trans (b9.mono b8.size)).mono b7.size)).mono b6.size)).mono b5.size)
  have HRP := hide ((RdI.below (own_rdI o4) b49).more b49.size)
  have HRA := hide ((RdI.below hla8 b9).more b9.size)
  have HBW := hide bw9
  clear b4 b5 b6 b7 b8 b9 b34 b35 b36 b37 b38 b39 b29 bw9 b49 o4 o6 hla8 b1 b2 b3 bw2 HR1 HR2 HQX HPB HPS HPL HPE HPF HAR
  have hrun1 := own_new0 w9 w9.heap.size 34 2 (Nat.le_refl _)
  have hb1 : Below w9.heap.size w9 (w9.alloc (.cells #[] 34)) := (Below.refl _ _).alloc (Nat.le_refl _) _
  have HDLE := hide (fun k (hk : k ≤ xs.length) => HDN.out k hk)
  go_loopg [19, 20, 21, 22] l.length (fun g d e s i wr => ∃ (k : Nat) (ps : List (Value × TN)) (dv ev : Int), k ≤ l.length ∧ Hid (g = l.length - k) ∧ i = .int .i64 k ∧ d = .int .i64 dv ∧ e = .int .i64 ev ∧ 0 ≤ dv ∧ dv ≤ 100000 * k ∧ 0 ≤ ev ∧ ev ≤ 112000 ∧ Hid (dv = sumG (fun i => stOf pl i - (wishAt l i).p) (xs.take k)) ∧ Hid (ev = maxG (fun i => endGo ts (stOf pl i) (wishAt l i).way) (xs.take k) 0) ∧ Hid (ps.map (·.2) = dnGo ts l (xs.take k) []) ∧ Hid (∀ p ∈ ps, WayAt w9 w9.heap.size p) ∧
    wr.ownsRow w9.heap.size 34 2 s k (ps.flatMap (Nc 1)) ∧ Below w9.heap.size w9 wr)
  case atStart => exact ⟨0, [], 0, 0, by omega, by simp [Hid], rfl, rfl, rfl, by omega, by omega, by omega, by omega, rfl, rfl, rfl, hide (fun p hp => by cases hp), hrun1, hb1⟩
  case round =>
    obtain ⟨k, ps, dv, ev, hk, hg, rfl, rfl, rfl, hd0, hd1, he0, he1, HDV, HEV, HP, HWA, hrun, hb⟩ := hrel
    clear hrun1 hb1
    by_cases hlt : k < l.length
    · obtain ⟨bx, ox, z, rfl, hbx, hz, hcx⟩ := (HRX.out.below hb).at_ (show k < xs.length by omega)
      have hzi := HXB.out z (List.mem_of_getElem? hz)
      have HCX9 := hide ((hb.cell (p := ⟨bx, ox + k, none⟩) hbx).symm.trans hcx)
      obtain ⟨n1, rfl⟩ := Int.eq_ofNat_of_zero_le hzi.1
      have hnl : n1 < l.length := by omega
      obtain ⟨bl, ol, e, Aw, cw, rfl, hbl, he, hrw9, hl0', hl1', hl2'⟩ := HRL.out.at_ (by omega) hnl
      have hwa : Hid (WayAt w9 w9.heap.size (.slice Aw e.way.length cw, e)) := ⟨Aw, cw, rfl, hrw9⟩
      have hrw := hrw9.below hb
      have HRW9 := hide hrw9
      have hl0 := (hb.cell (p := ⟨bl, ol + n1 * 3, none⟩) hbl).trans hl0'
      have hp1 := (hb.cell (p := ⟨bl, ol + n1 * 3 + 1, none⟩) hbl).trans (hl1' (by omega))
      have hp2 := (hb.cell (p := ⟨bl, ol + n1 * 3 + 2, none⟩) hbl).trans (hl2' (by omega))
      clear hl0' hrw9
      obtain ⟨bs, os, st, rfl, hbs, hst, hcs⟩ := (HRP.out.below hb).at_ (show n1 < pl.length by omega)
      have hwe := wishAt_get he
      have hso : stOf pl (n1 : Int) = st := by unfold stOf; rw [Int.toNat_natCast, hst]; rfl
      obtain ⟨s1, s2, s3, s4, s5, s6⟩ := HSS.out k n1 hz
      have hlate := HLH.out n1 (by omega) (by omega)
      have hsum := sumG_step (g := fun i => stOf pl i - (wishAt l i).p) hz
      have hmax := maxG_step (g := fun i => endGo ts (stOf pl i) (wishAt l i).way) hz 0
      rw [← HDV.out] at hsum
      rw [← HEV.out] at hmax
      rw [hso, hwe] at s1 s4 s5 s6 hlate hsum hmax
      rw [hso] at s2 s3
      obtain ⟨hdl, hdn⟩ := HDLE.out k (by omega)
      have how := HOW.out e (List.mem_of_getElem? he)
      have hew := endGo_bd HOT.out (f := st) how.1.2
      have hw12 := how.1.1.2
      have hp0 := how.2.1
      have hq0 := how.2.2
      obtain ⟨Ar, cr, hsh, _⟩ := own_shape hrun
      subst hsh
      have hnw : RN 1 wr wr.heap.size Ar (dnGo ts l (xs.take k) []) := ⟨ps, HP.out, Rd.of_own hrun, fun p hp => by obtain ⟨A', c', h5, h6⟩ := HWA.out p hp; exact ⟨A', c', h5, (h6.below hb).more hb.size⟩⟩
      have HAL := hide fun W g (hW : Below wr.heap.size wr W) (h0 : 0 ≤ g) (h1 : g ≤ 100000) => a2Alone_any ts e.way (dnGo ts l (xs.take k) []) g A3 c3 Ar cr Aw cw W HOT.out how.1 h0 h1 (by omega) hdn (((HRT.out.below hb).more hb.size |>.below hW).more hW.size) ((hnw.below hW).more hW.size) (((hrw.more hb.size).below hW).more hW.size)
      rw [hdl] at HAL
      have HER := hide fun W (hW : Below w9.heap.size w9 W) => specEndOfRun_any ts e.way st A3 c3 Aw cw W HOT.out how.1 s2 s3 ((HRT.out.below hW).more hW.size) ((HRW9.out.below hW).more hW.size)
      have HHA := hide fun W (hW : Below w9.heap.size w9 W) => a2Has_any la n1 A7 c7 W (by omega) ((HRA.out.below hW).more hW.size)
      rw [hlate] at HHA
      have HDV2 := hide hsum
      have HEV2 := hide hmax
      have HLT := hide hlate
      have HS6 := hide s6
      have HS4 := hide s4
      have HS5 := hide s5
      have hn0 : (0 : Int) ≤ (n1 : Int) := by omega
      have hn9 : (n1 : Int) < l.length := by omega
      have hk9 : (k : Int) < xs.length := by omega
      have hnp : (n1 : Int) < pl.length := by omega
      have hA1 : decide (st < e.p) = false := decide_eq_false (by omega)
      have hA2 : decide (100000 < st) = false := decide_eq_false (by omega)
      have hbx' : bx < wr.heap.size := Nat.lt_of_lt_of_le hbx hb.size
      have hbs' : bs < wr.heap.size := Nat.lt_of_lt_of_le hbs hb.size
      have HB := hide hb
      have HRUN := hide hrun
      have b10 : Below wr.heap.size wr (wr.alloc (.cells #[.slice Aw e.way.length cw, .int .i64 e.p, .int .i64 e.q] 46)) := (by repeat (first | exact Below.refl _ _ | assumption | (refine Below.alloc ?_ (by simp <;> omega) _) | refine Below.drew ?_ | refine bdn ?_ _))
      clear s4 s5 s6 hlate hsum hmax hso hwe hst he hz hdl hdn how hnw hrw hl1' hl2' hzi hb hrun
      generalize endGo ts st e.way = en at *
      by_cases hlt2 : e.p < st
      · have hA3 : decide (e.p < st) = true := decide_eq_true hlt2
        have hst1 : 0 ≤ st - 1 := by omega
        have hst2 : st - 1 ≤ 100000 := by omega
        have hs5 := HS5.out hlt2
        have HS5' := hide hs5
        clear hs5
        go_wp2_with (first | (go_at_call 20; (with_reducible refine (HAL.out _ st b10 s2 s3).mono ?_); rintro e3 w10 ⟨rfl, b11⟩; rw [HS4.out]; have q0 : w10.cell? ⟨wr.heap.size, 0, none⟩ = some (.slice Aw e.way.length cw) := (b11.cell (p := ⟨wr.heap.size, 0, none⟩) (by simp)).trans (by simp [go_sem]); have q1 : w10.cell? ⟨wr.heap.size, 1, none⟩ = some (.int .i64 e.p) := (b11.cell (p := ⟨wr.heap.size, 1, none⟩) (by simp)).trans (by simp [go_sem]); have q2 : w10.cell? ⟨wr.heap.size, 2, none⟩ = some (.int .i64 e.q) := (b11.cell (p := ⟨wr.heap.size, 2, none⟩) (by simp)).trans (by simp [go_sem]); have hbz : wr.heap.size < w10.heap.size := (by have := b11.size; simp at this; omega)) | (go_at_call 20; refine (HAL.out _ (st - 1) (b10.trans (b11.mono b10.size)) hst1 hst2).mono ?_; rintro e4 w11 ⟨rfl, b12⟩; rw [HS5'.out]; have r0 : w11.cell? ⟨wr.heap.size, 0, none⟩ = some (.slice Aw e.way.length cw) := (b12.cell (p := ⟨wr.heap.size, 0, none⟩) hbz).trans q0; have r1 : w11.cell? ⟨wr.heap.size, 1, none⟩ = some (.int .i64 e.p) := (b12.cell (p := ⟨wr.heap.size, 1, none⟩) hbz).trans q1; have r2 : w11.cell? ⟨wr.heap.size, 2, none⟩ = some (.int .i64 e.q) := (b12.cell (p := ⟨wr.heap.size, 2, none⟩) hbz).trans q2; have bW := b10.trans ((b11.trans (b12.mono b11.size)).mono b10.size); have hbz' := Nat.lt_of_lt_of_le hbz b12.size; have bW9 := HB.out.trans (bW.mono HB.out.size); have hrunW := own_below HRUN.out bW (Nat.le_refl _); have R2 := hide (hrunW.alloc (.cells #[.slice Aw e.way.length cw, .int .i64 st] 34)); have B2 := hide (bW9.alloc bW9.size (.cells #[.slice Aw e.way.length cw, .int .i64 st] 34)); have HLTR := hide (fun g h => (HRUN.out.lt g h).2); clear hrunW) | (at_builtin; go_must (refine wp_app _ rfl _ _ 26 rfl w9.heap.size 34 i1 (.agg #[.slice none 0 0, .int .i64 0]) 2 32 Try.underlying26 hi1 hz1 hs1 hb1 rfl (by decide) _ _ _ rfl R2.out _ _ 1 1 [.slice Aw e.way.length cw, .int .i64 st] rfl rfl (rd_new _ _ _ _ (by simp)) (by intro u hu; simp at hu; rcases hu with rfl | rfl <;> rfl) (by omega) (by decide) B2.out.size ?_); intro v' w12 hown' hgrow hat; go_must (have b12' := app_below B2.out R2.out hgrow (Nat.le_refl _) B2.out.size); go_must (have hbz2 : wr.heap.size < w12.heap.size := (by have := hgrow.size; simp at this; omega)); go_must (have p0 : w12.cell? ⟨wr.heap.size, 0, none⟩ = some (.slice Aw e.way.length cw) := (World.cell?_of_block (hgrow.block wr.heap.size (by simp; omega) (fun h => by have := HLTR.out _ h.symm; omega))).trans ((World.cell?_alloc_old _ _ _ (by dsimp only; omega)).trans r0); have p1 : w12.cell? ⟨wr.heap.size, 1, none⟩ = some (.int .i64 e.p) := (World.cell?_of_block (hgrow.block wr.heap.size (by simp; omega) (fun h => by have := HLTR.out _ h.symm; omega))).trans ((World.cell?_alloc_old _ _ _ (by dsimp only; omega)).trans r1); have p2 : w12.cell? ⟨wr.heap.size, 2, none⟩ = some (.int .i64 e.q) := (World.cell?_of_block (hgrow.block wr.heap.size (by simp; omega) (fun h => by have := HLTR.out _ h.symm; omega))).trans ((World.cell?_alloc_old _ _ _ (by dsimp only; omega)).trans r2))) | (go_at_call 69; refine (HER.out _ b12').mono ?_; rintro e5 w13 ⟨rfl, b13⟩; have p2' := (b13.cell (p := ⟨wr.heap.size, 2, none⟩) hbz2).trans p2; have hcx13 : w13.cell? ⟨bx, ox + k, none⟩ = some (.int .i64 (n1 : Int)) := ((b12'.trans (b13.mono b12'.size)).cell (p := ⟨bx, ox + k, none⟩) hbx).trans HCX9.out))
        have b913 := b12'.trans (b13.mono b12'.size)
        have HH := hide fun n => HHA.out (w13.drewN n) (bdn b913 n)
        have HROW := hide (own_below hown' b13 (Nat.le_refl _))
        clear hown' hgrow hat
        go_quiet ((go_at_call 24; exact ql (HH.out _)))
        go_wp2_with fail
        all_goals (
          go_roundg (l.length - (k + 1))
          case measure => have := hg.out; omega
          case rel => exact ⟨k + 1, ps ++ [(.slice Aw e.way.length cw, ⟨e.way, st, 0⟩)], dv + (st - e.p), max ev en, by omega, rfl, by go_num, by go_num, by first | rfl | (congr 1; omega), by omega, by omega, by omega, by omega, HDV2.out.symm, HEV2.out.symm, by unfold Hid; rw [List.map_append, HP.out, HS6.out]; rfl, hide (fun p hp => by rcases List.mem_append.1 hp with hp | hp; exact HWA.out p hp; simp only [List.mem_singleton] at hp; subst hp; exact hwa.out), by rw [List.flatMap_append]; exact HROW.out, bdn b913 _⟩)
      · have hA3 : decide (e.p < st) = false := decide_eq_false hlt2
        go_wp2_with (first | (go_at_call 20; (with_reducible refine (HAL.out _ st b10 s2 s3).mono ?_); rintro e3 w10 ⟨rfl, b11⟩; rw [HS4.out]; have q0 : w10.cell? ⟨wr.heap.size, 0, none⟩ = some (.slice Aw e.way.length cw) := (b11.cell (p := ⟨wr.heap.size, 0, none⟩) (by simp)).trans (by simp [go_sem]); have q1 : w10.cell? ⟨wr.heap.size, 1, none⟩ = some (.int .i64 e.p) := (b11.cell (p := ⟨wr.heap.size, 1, none⟩) (by simp)).trans (by simp [go_sem]); have q2 : w10.cell? ⟨wr.heap.size, 2, none⟩ = some (.int .i64 e.q) := (b11.cell (p := ⟨wr.heap.size, 2, none⟩) (by simp)).trans (by simp [go_sem]); have hbz : wr.heap.size < w10.heap.size := (by have := b11.size; simp at this; omega); have bW := b10.trans (b11.mono b10.size); have bW9 := HB.out.trans (bW.mono HB.out.size); have hrunW := own_below HRUN.out bW (Nat.le_refl _); have R2 := hide (hrunW.alloc (.cells #[.slice Aw e.way.length cw, .int .i64 st] 34)); have B2 := hide (bW9.alloc bW9.size (.cells #[.slice Aw e.way.length cw, .int .i64 st] 34)); have HLTR := hide (fun g h => (HRUN.out.lt g h).2); clear hrunW) | (at_builtin; go_must (refine wp_app _ rfl _ _ 26 rfl w9.heap.size 34 i1 (.agg #[.slice none 0 0, .int .i64 0]) 2 32 Try.underlying26 hi1 hz1 hs1 hb1 rfl (by decide) _ _ _ rfl R2.out _ _ 1 1 [.slice Aw e.way.length cw, .int .i64 st] rfl rfl (rd_new _ _ _ _ (by simp)) (by intro u hu; simp at hu; rcases hu with rfl | rfl <;> rfl) (by omega) (by decide) B2.out.size ?_); intro v' w12 hown' hgrow hat; go_must (have b12' := app_below B2.out R2.out hgrow (Nat.le_refl _) B2.out.size); go_must (have hbz2 : wr.heap.size < w12.heap.size := (by have := hgrow.size; simp at this; omega)); go_must (have p0 : w12.cell? ⟨wr.heap.size, 0, none⟩ = some (.slice Aw e.way.length cw) := (World.cell?_of_block (hgrow.block wr.heap.size (by simp; omega) (fun h => by have := HLTR.out _ h.symm; omega))).trans ((World.cell?_alloc_old _ _ _ (by dsimp only; omega)).trans q0); have p1 : w12.cell? ⟨wr.heap.size, 1, none⟩ = some (.int .i64 e.p) := (World.cell?_of_block (hgrow.block wr.heap.size (by simp; omega) (fun h => by have := HLTR.out _ h.symm; omega))).trans ((World.cell?_alloc_old _ _ _ (by dsimp only; omega)).trans q1); have p2 : w12.cell? ⟨wr.heap.size, 2, none⟩ = some (.int .i64 e.q) := (World.cell?_of_block (hgrow.block wr.heap.size (by simp; omega) (fun h => by have := HLTR.out _ h.symm; omega))).trans ((World.cell?_alloc_old _ _ _ (by dsimp only; omega)).trans q2))) | (go_at_call 69; refine (HER.out _ b12').mono ?_; rintro e5 w13 ⟨rfl, b13⟩; have p2' := (b13.cell (p := ⟨wr.heap.size, 2, none⟩) hbz2).trans p2; have hcx13 : w13.cell? ⟨bx, ox + k, none⟩ = some (.int .i64 (n1 : Int)) := ((b12'.trans (b13.mono b12'.size)).cell (p := ⟨bx, ox + k, none⟩) hbx).trans HCX9.out))
        have b913 := b12'.trans (b13.mono b12'.size)
        have HH := hide fun n => HHA.out (w13.drewN n) (bdn b913 n)
        have HROW := hide (own_below hown' b13 (Nat.le_refl _))
        clear hown' hgrow hat
        go_quiet ((go_at_call 24; exact ql (HH.out _)))
        go_wp2_with fail
        all_goals (
          go_roundg (l.length - (k + 1))
          case measure => have := hg.out; omega
          case rel => exact ⟨k + 1, ps ++ [(.slice Aw e.way.length cw, ⟨e.way, st, 0⟩)], dv + (st - e.p), max ev en, by omega, rfl, by go_num, by go_num, by first | rfl | (congr 1; omega), by omega, by omega, by omega, by omega, HDV2.out.symm, HEV2.out.symm, by unfold Hid; rw [List.map_append, HP.out, HS6.out]; rfl, hide (fun p hp => by rcases List.mem_append.1 hp with hp | hp; exact HWA.out p hp; simp only [List.mem_singleton] at hp; subst hp; exact hwa.out), by rw [List.flatMap_append]; exact HROW.out, bdn b913 _⟩)
    · have hkl : k = l.length := by omega
      have HDF := hide (show dv = ds by rw [HDV.out, HDL.out, List.take_of_length_le (by omega)])
      have HEF := hide (show ev = le by rw [HEV.out, HLE.out, List.take_of_length_le (by omega)])
      have hdf := HDF.out
      have hef := HEF.out
      subst hdf hef
      go_wp2_with fail
      go_ret
      exact ⟨rfl, HBW.out.trans (hb.mono HBW.out.size)⟩
theorem fnPlans_own : ownKnob Try.prog.godebug = none := by kernel_rfl
theorem fnPlans_laid : laidOutB Try.prog = true := by kernel_rfl
set_option maxRecDepth 100000 in
theorem fnPlans_lifted (os : Os) (started : os.Started) (H : Type) (enc : TypeId × Value → H) :
    ReturnsInHanded {} Try.checked os 8 .any (Rows.fnPlansSpec.pre6 enc Try.prog Try.f8 Rows.fnPlansRow.domain false) (Rows.fnPlansSpec.post enc Try.prog Try.f8 false true false false) := by
  refine returnsInHanded_of_change (C := Try.checked) fnPlans_own started (by kernel_rfl) Try.func8
    (ChangeSpec.witness6 (enc := enc) (C := Try.checked) false ⟨#[], #[.slice none 0 0, .slice none 0 0], []⟩ 8 (by kernel_rfl) (by kernel_rfl) (by kernel_rfl) (by kernel_rfl)) ?_
  intro W base args ds gs before hval0 hW hcnd _
  have hval : ∀ (j : Nat) t v, Try.f8.params[j]? = some t → args[j]? = some v → Value.okWide Try.prog W .any base t v := hval0
  have hW' := hW
  obtain ⟨p, q, hA0, hV, rfl, hfz, hnd⟩ := hW
  have hA : DataW.TrodAll enc Try.prog W 0 (fun _ => true) true Try.f8.params.toList args.toList ds p := hA0
  rw [Try.params8] at hA hval
  obtain ⟨v0, vs0, d0, ds0, p0, q0, hargs, rfl, rfl, h0, r0⟩ := trodAll_cons hA
  obtain ⟨v1, vs1, d1, ds1, p1, q1, rfl, rfl, rfl, h1, r1⟩ := trodAll_cons r0
  obtain ⟨rfl, rfl, rfl⟩ := trodAll_nil r1
  obtain rfl : args = #[v0, v1] := by cases args; simp_all
  obtain ⟨rfl, rfl⟩ := trodVars_none hV
  have k0 := h0
  have lt0 : ∀ x ∈ p0, x.block < W.heap.size := by obtain ⟨m, hm⟩ := k0; exact DataW.trod_lt m _ _ _ hm
  obtain ⟨A0, c0, zs0, rfl, rd0, len0, bd0⟩ := open_B Try.underlying22 Try.underlying5 (by kernel_rfl) (hval 0 22 v0 rfl rfl) h0
  have k1 := h1
  have lt1 : ∀ x ∈ p1, x.block < W.heap.size := by obtain ⟨m, hm⟩ := k1; exact DataW.trod_lt m _ _ _ hm
  obtain ⟨A1, c1, zs1, rfl, rd1, len1, bd1⟩ := open_B Try.underlying22 Try.underlying5 (by kernel_rfl) (hval 1 22 v1 rfl rfl) h1
  clear hA0 hval0
  refine (lPlans_walk zs0 (.slice A0 zs0.length c0) zs1 (.slice A1 zs1.length c1) W ⟨A0, c0, rfl, rd0⟩ len0 bd0 ⟨A1, c1, rfl, rd1⟩ len1 bd1).mono fun e W' ⟨he, bel⟩ => ?_
  subst he
  exact ⟨_, rfl, _, _, _, [], _, [], hW', trodAll_mk1 (shut_bool Try.underlying4 _), (trodAll_cons_mk (Below.trod fnPlans_laid (by kernel_rfl) (of_decide_eq_true (by kernel_rfl)) k0 bel lt0) (trodAll_cons_mk (Below.trod fnPlans_laid (by kernel_rfl) (of_decide_eq_true (by kernel_rfl)) k1 bel lt1) trodAll_mk0)), rfl, bel.frame _, fun h => by cases h⟩
theorem fnPlans_holds : Rows.FnPlansSaid :=
  OpenClaim.holds_of_wide 8 Try.f8 rfl rfl rfl rfl rfl rfl rfl ⟨rfl, rfl, rfl, rfl, rfl⟩ rfl rfl rfl rfl rfl (by kernel_rfl) Try.func8 (by kernel_rfl)
    (of_decide_eq_true (by kernel_rfl)) (by unfold Func.isWrapper; first | (rw [if_pos (by decide +kernel)]; kernel_rfl) | (rw [if_neg (by decide +kernel)]; exact ⟨rfl, rfl⟩))
    (fun os started H enc _ => fnPlans_lifted os started H enc)
#print axioms fnPlans_holds
end Go.Proofs.Ytfhociekhffjhaa
