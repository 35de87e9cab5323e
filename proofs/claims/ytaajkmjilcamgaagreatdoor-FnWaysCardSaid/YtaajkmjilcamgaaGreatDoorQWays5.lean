/-
  Drawn seals.
  Draws of carriers: a fleet and which of them runs; lists of numbers compared.
  Drawn wishes.
  A drawn move.
  Least lengths in the program.
  Orders of wishes: the codes; in the program and in the reference.
  Networks in the program: strong ones, stations that are reached, tubes from a station, the least length.
  Drawn times and wishes, off bytes; small helpers of the laws.
  Drawn runs.
  The spans of a run and the earliest start; in the program.
  The spans of a run, and whether a run fits; in the reference.
  Helpers of the laws on runs: a number off bytes; the spans of a run by the reference.
  A run meets none of some others: the law's own helper.
  The earliest start; in the reference.
  The plan of wishes by an order; in the reference.
  The plan of wishes by an order; in the program.
  The plan by an order, and the sum of delays; in the program and in the reference.
  The sum of delays; in the program and in the reference.
-/
import Derived.Test.YtaajkmjilcamgaaGreatDoorQWays4
import Derived.Test.YtaajkmjilcamgaaGreatDoorQWays1
import Derived.Test.YtaajkmjilcamgaaGreatDoorQWays3
import Derived.Deep.DeepCutAuto
import Derived.Test.YtaajkmjilcamgaaGreatDoorQWays2
namespace Go.Proofs.YtaajkmjilcamgaaGreatDoor
open Go.RowKit

theorem grown_setC (w : World) (b j : Nat) (v : Value) : w.grownBy (w.setCell ⟨b, j, none⟩ v) (some b) :=
  ⟨rfl, rfl, rfl, by simp, fun k _ ho => heap_setCell_other w ⟨b, j, none⟩ _ v (fun e => ho (by rw [e]))⟩
theorem only_grown {lo hi : Nat} {w0 w w' : World} {row : Option Nat} (h : Only lo hi w0 w) (hg : w.grownBy w' row) (hr : ∀ g, row = some g → w0.heap.size ≤ g) : Only lo hi w0 w' :=
  ⟨hg.os.trans h.1, hg.tape.trans h.2.1, hg.output.trans h.2.2.1, Nat.le_trans h.size hg.size, fun i hi' ho' => (hg.block i (Nat.lt_of_lt_of_le hi' h.size) (fun e => by have := hr i e.symm; omega)).trans (h.2.2.2.2 i hi' ho')⟩
end Go.Proofs.YtaajkmjilcamgaaGreatDoor
namespace Go.Proofs.YtaajkmjilcamgaaGreatDoor
open Go.RowKit

theorem f6big_any (A : Option Addr) (n c : Nat) (w : World) (hn : n ≤ 4096) :
    Calls Tryz.prog 14 #[.slice A n c] w fun e w' => e = .returned (.bool false) ∧ w = w' := by
  have hD : decide ((4096 : Int) < (n : Int)) = false := decide_eq_false (by omega)
  go_enter Tryz.func14, Tryz.ntmps14
  go_wp2_with fail
  go_ret
  exact ⟨rfl, rfl⟩
theorem below_src' {w w1 w2 : World} (h : Below w.heap.size w w1) (k : Only w.heap.size (w.heap.size + 1) w1 w2) : Below w.heap.size w w2 := h.trans (k.below (Nat.le_refl _) h.size)
end Go.Proofs.YtaajkmjilcamgaaGreatDoor
namespace Go.Proofs.YtaajkmjilcamgaaGreatDoor
open Go.RowKit

theorem BoxN.only {w w' : World} {b lo hi : Nat} {cs : Array Value} {e : TypeId} (h : BoxN w b cs e) (k : Only lo hi w w') (hd : b < lo ∨ hi ≤ b) : BoxN w' b cs e := (k.2.2.2.2 b h.lt hd).trans h
theorem only_setNew {lo hi : Nat} {w0 w : World} (h : Only lo hi w0 w) (a : Addr) (v : Value) (hB : w0.heap.size ≤ a.block) : Only lo hi w0 (w.setCell a v) :=
  ⟨h.1, h.2.1, h.2.2.1, by have := h.size; simpa [World.setCell] using this, fun k hk ho => (Below.heap_setCell _ _ _ _ (by omega)).trans (h.2.2.2.2 k hk ho)⟩
theorem grown_setCell (w : World) (a : Addr) (v : Value) : w.grownBy (w.setCell a v) (some a.block) :=
  ⟨rfl, rfl, rfl, by simp [World.setCell], fun k _ hn => Below.heap_setCell _ _ _ _ (fun e => hn (by rw [e]))⟩
theorem SrcAt.set {b : Nat} {bs : List Int} {N : Int} {W : World} (h : SrcAt b bs N W) (a : Addr) (v : Value) (hb : b < a.block) : SrcAt b bs N (W.setCell a v) :=
  h.below (B := b + 1) ⟨rfl, rfl, rfl, by simp [World.setCell], fun k hk => Below.heap_setCell _ _ _ _ (by omega)⟩ (Nat.lt_succ_self b)
/-- A drawn wish, for n tubes. -/
def WDrawn (n : Nat) (e : TN) : Prop := ((1 ≤ e.way.length ∧ e.way.length ≤ 4) ∧ ∀ z ∈ e.way, 0 ≤ z ∧ z ≤ (n : Int) - 1) ∧ (0 ≤ e.p ∧ e.p ≤ 19) ∧ (0 ≤ e.q ∧ e.q ≤ 78)
end Go.Proofs.YtaajkmjilcamgaaGreatDoor
namespace Go.Proofs.YtaajkmjilcamgaaGreatDoor
open Go.RowKit
end Go.Proofs.YtaajkmjilcamgaaGreatDoor
namespace Go.Proofs.YtaajkmjilcamgaaGreatDoor
open Go.RowKit
theorem dAt_get {d : List Int} {k : Nat} {z : Int} (h : d[k]? = some z) : dAt d (k : Int) = z := by simp [dAt, h]
theorem relaxGo_drop {wo : Int} {tb : List T3} {j : Nat} {t : T3} {d : List Int} (h : tb[j]? = some t) : relaxGo wo (tb.drop j) (j : Int) d = relaxGo wo (tb.drop (j + 1)) ((j : Int) + 1) (relax1 wo j t d) := by rw [drop_cons h, relaxGo]
/-- What is known of the values while they are made. -/
def DBd (n : Nat) (K : Int) (d : List Int) : Prop := d.length = n ∧ ∀ z ∈ d, -1 ≤ z ∧ z ≤ K
theorem DBd.relax {n : Nat} {K wo i : Int} {t : T3} {d : List Int} (h : DBd n K d) (hc : 0 ≤ t.c ∧ t.c ≤ 2000) (hK : 0 ≤ K) : DBd n (K + 2000) (relax1 wo i t d) := by
  have hb : ∀ v : Int, -1 ≤ dAt d v ∧ dAt d v ≤ K := fun v => by
    unfold dAt
    cases hv : d[v.toNat]? with
    | none => simp; omega
    | some z => have := h.2 z (List.mem_of_getElem? hv); simpa using this
  refine ⟨by rw [relax1_len]; exact h.1, fun z hz => ?_⟩
  unfold relax1 at hz
  split at hz
  · have := h.2 z hz; omega
  · split at hz
    · rcases List.mem_or_eq_of_mem_set hz with hz | rfl
      · have := h.2 z hz; omega
      · have := hb t.b; omega
    · have := h.2 z hz; omega
theorem DBd.more {n : Nat} {K K' : Int} {d : List Int} (h : DBd n K d) (hk : K ≤ K') : DBd n K' d := ⟨h.1, fun z hz => by have := h.2 z hz; omega⟩
set_option maxRecDepth 100000 in
set_option maxHeartbeats 8000000 in
theorem distances_any (n : Nat) (tb : List T3) (td wo : Int) (A : Option Addr) (c : Nat) (w : World) (h : OkNet n tb) (hto : 0 ≤ td ∧ td < n) (hr : Rd3 w w.heap.size A tb) :
    Calls Tryz.prog 37 #[.agg #[.int .i64 n, .slice A tb.length c], .int .i64 td, .int .i64 wo] w fun e w' => ∃ g', e = .returned (.slice (some ⟨g', 0, none⟩) n n) ∧ w'.ownsRow w.heap.size 2 1 (.slice (some ⟨g', 0, none⟩) n n) n ((dist n tb td wo).map (Value.int .i64)) ∧ Below w.heap.size w w' := by
  obtain ⟨⟨hn2, hn10⟩, hl, ht⟩ := h
  obtain ⟨tn, rfl⟩ := Int.eq_ofNat_of_zero_le hto.1
  have htn : tn < n := by omega
  have HT := hide ht
  have HR := hide hr
  have X0 := hide (BoxN.new w #[.int .i64 n, .slice A tb.length c] 26)
  have b0 : Below w.heap.size w ((w.alloc (.cells #[.int .i64 n, .slice A tb.length c] 26)).alloc (.cells #[.int .i64 (-1)] 2)) := (by repeat (first | exact Below.refl _ _ | assumption | (refine Below.alloc ?_ (by simp <;> omega) _) | refine Below.drew ?_ | refine bdn ?_ _))
  have X1 := hide (X0.out.alloc (.cells #[.int .i64 (-1)] 2))
  have kc : ((w.alloc (.cells #[.int .i64 n, .slice A tb.length c] 26)).alloc (.cells #[.int .i64 (-1)] 2)).cell? ⟨w.heap.size + 1, 0, none⟩ = some (.int .i64 (-1)) := by simp [go_sem]
  have zz : w.heap.size < ((w.alloc (.cells #[.int .i64 n, .slice A tb.length c] 26)).alloc (.cells #[.int .i64 (-1)] 2)).heap.size := by simp <;> omega
  have HP := hide (repeat_any n (w.heap.size + 1) _ (by omega) (by omega) kc)
  clear ht hr hto kc
  go_enter Tryz.func37, Tryz.ntmps37
  go_upto_region 2 with (go_at_call 71; (with_reducible refine (HP.out).mono ?_); rintro e w1 ⟨g', rfl, hown, hb⟩)
  generalize (w.alloc (.cells #[.int .i64 n, .slice A tb.length c] 26)).alloc (.cells #[.int .i64 (-1)] 2) = w0 at *
  have hgb := (hown.lt g' rfl).1
  have X2 := hide (X1.out.only (only_of_below (lo := w0.heap.size) (hi := w0.heap.size) hb) (.inl zz))
  have HB1 := hide (b0.trans (hb.mono b0.size))
  have hc0 : w1.cell? ⟨g', tn, none⟩ = some (.int .i64 (-1)) := by
    rw [hown.cellAt tn (by omega), List.getElem?_map, List.getElem?_replicate, if_pos htn]; rfl
  have hf0 := hown.frozenAt tn
  have ST := hide (hown.stored tn (.int .i64 0))
  have ht0 : (tn : Int) < (n : Int) := by omega
  have ht1 : (0 : Int) ≤ (tn : Int) := by omega
  clear hown hb HP X0 X1 b0
  go_upto_region 3 with fail
  have R2 := hide (show (w1.setCell ⟨g', tn, none⟩ (.int .i64 0)).ownsRow w0.heap.size 2 1 (.slice (some ⟨g', 0, none⟩) n n) n ((dist0 n tn).map (Value.int .i64)) from by
    have h := ST.out.1
    rw [← List.map_set] at h
    unfold dist0
    rw [Int.toNat_natCast]
    exact h)
  have X3 := hide (X2.out.other (b' := g') (by omega) tn (.int .i64 0))
  have HB3 := hide (HB1.out.setCell (p := ⟨g', tn, none⟩) (show w.heap.size ≤ g' by omega) (.int .i64 0))
  have HD3 := hide (show DBd n 0 (dist0 n tn) from ⟨by simp [dist0], fun z hz => by
    unfold dist0 at hz
    rcases List.mem_or_eq_of_mem_set hz with hz | rfl
    · rw [List.eq_of_mem_replicate hz]; omega
    · omega⟩)
  clear ST hc0 hf0 X2 HB1
  generalize w1.setCell ⟨g', tn, none⟩ (.int .i64 0) = w3 at *
  have x0 : w3.cell? ⟨w.heap.size, 0, none⟩ = some (.int .i64 n) := X3.out.cell 0
  go_wp2_with fail
  go_loopg [20] n (fun gg i wr => ∃ (k : Nat) (d : List Int), k ≤ n ∧ Hid (gg = n - k) ∧ i = .int .i64 k ∧ Hid (d = rounds wo tb k (dist0 n tn)) ∧ Hid (DBd n (48000 * (k : Int)) d) ∧ Hid (wr.ownsRow w0.heap.size 2 1 (.slice (some ⟨g', 0, none⟩) n n) n (d.map (Value.int .i64))) ∧ Hid (BoxN wr w.heap.size #[.int .i64 n, .slice A tb.length c] 26) ∧ Hid (Below w.heap.size w wr))
  case atStart => exact ⟨0, dist0 n tn, by omega, by simp [Hid], rfl, rfl, HD3.out.more (by omega), R2.out, X3.out, HB3.out⟩
  case round =>
    obtain ⟨k, d, hk, hgg, rfl, HDE, HDB, HRW, HXN, HBW⟩ := hrel
    clear R2 X3 HB3 HD3 x0
    by_cases hkn : k < n
    · have x1 : wr.cell? ⟨w.heap.size, 1, none⟩ = some (.slice A tb.length c) := HXN.out.cell 1
      have hkn' : (k : Int) < (n : Int) := by omega
      go_wp2_with fail
      go_loopg [25] tb.length (fun gm i wr => ∃ (j : Nat) (e : List Int), j ≤ tb.length ∧ Hid (gm = tb.length - j) ∧ i = .int .i64 j ∧ Hid (relaxGo wo tb 0 d = relaxGo wo (tb.drop j) j e) ∧ Hid (DBd n (48000 * (k : Int) + 2000 * (j : Int)) e) ∧ Hid (wr.ownsRow w0.heap.size 2 1 (.slice (some ⟨g', 0, none⟩) n n) n (e.map (Value.int .i64))) ∧ Hid (BoxN wr w.heap.size #[.int .i64 n, .slice A tb.length c] 26) ∧ Hid (Below w.heap.size w wr))
      case atStart => exact ⟨0, d, by omega, by simp [Hid], rfl, by simp [Hid], HDB.out.more (by omega), HRW.out, HXN.out, HBW.out⟩
      case round =>
        obtain ⟨j, e, hj, hgm, rfl, HEE, HEB, HRE, HXE, HBE⟩ := hrel
        clear HRW HXN HBW x1
        by_cases hjt : j < tb.length
        · obtain ⟨pb, po, t, rfl, _, htj, hta, htb, htc⟩ := (HR.out.below HBE.out).at_ hjt
          obtain ⟨hoa, hob, _, hoc⟩ := HT.out t (List.mem_of_getElem? htj)
          have HTJ := hide htj
          obtain ⟨ta, tt, tc⟩ := t
          dsimp only at *
          obtain ⟨aa, rfl⟩ := Int.eq_ofNat_of_zero_le hoa.1
          obtain ⟨bb, rfl⟩ := Int.eq_ofNat_of_zero_le hob.1
          have haa : aa < n := by omega
          have hbb : bb < n := by omega
          have hel := HEB.out.1
          obtain ⟨da, hea⟩ : ∃ z, e[aa]? = some z := ⟨_, List.getElem?_eq_getElem (show aa < e.length by omega)⟩
          obtain ⟨db, heb⟩ : ∃ z, e[bb]? = some z := ⟨_, List.getElem?_eq_getElem (show bb < e.length by omega)⟩
          have hba := HEB.out.2 da (List.mem_of_getElem? hea)
          have hbd := HEB.out.2 db (List.mem_of_getElem? heb)
          have hda1 := hba.2
          have hdb1 := hbd.2
          have hda0 := hba.1
          have hdb0 := hbd.1
          have hc0 := hoc.1
          have hc1 := hoc.2
          have HSTEP := hide (relaxGo_drop (wo := wo) (d := e) htj)
          have HDA := hide (dAt_get hea)
          have HDB2 := hide (dAt_get heb)
          have hzw := HBE.out.size
          have HRT := hide (HRE.out.alloc (.cells #[.int .i64 (aa : Int), .int .i64 (bb : Int), .int .i64 tc] 41))
          have HXT := hide (HXE.out.alloc (.cells #[.int .i64 (aa : Int), .int .i64 (bb : Int), .int .i64 tc] 41))
          have HBT := hide (HBE.out.alloc hzw (.cells #[.int .i64 (aa : Int), .int .i64 (bb : Int), .int .i64 tc] 41))
          have HTB := hide (BoxN.new wr #[.int .i64 (aa : Int), .int .i64 (bb : Int), .int .i64 tc] 41)
          have HN1 := hide (HEB.out.relax (wo := wo) (i := (j : Int)) (t := ⟨(aa : Int), (bb : Int), tc⟩) (by dsimp only; omega) (by omega))
          have HNB := hide (HN1.out.more (K' := 48000 * (k : Int) + 2000 * ((j + 1 : Nat) : Int)) (by omega))
          have hgw : g' ≠ wr.heap.size := by have := (HRE.out.lt g' rfl).2; omega
          clear hoa hob hoc htj hba hbd HRE HXE HBE HN1
          go_upto_region 8 with fail
          generalize wr.heap.size = gt at *
          generalize wr.alloc (.cells #[.int .i64 (aa : Int), .int .i64 (bb : Int), .int .i64 tc] 41) = wT at *
          have k0 : wT.cell? ⟨gt, 0, none⟩ = some (.int .i64 (aa : Int)) := HTB.out.cell 0
          have k1 : wT.cell? ⟨gt, 1, none⟩ = some (.int .i64 (bb : Int)) := HTB.out.cell 1
          have k2 : wT.cell? ⟨gt, 2, none⟩ = some (.int .i64 tc) := HTB.out.cell 2
          have ca : wT.cell? ⟨g', aa, none⟩ = some (.int .i64 da) := by rw [HRT.out.cellAt aa (by omega), List.getElem?_map, hea]; rfl
          have cb : wT.cell? ⟨g', bb, none⟩ = some (.int .i64 db) := by rw [HRT.out.cellAt bb (by omega), List.getElem?_map, heb]; rfl
          have hb1 : (bb : Int) < (n : Int) := by omega
          have ha1 : (aa : Int) < (n : Int) := by omega
          have hb2 : (0 : Int) ≤ (bb : Int) := by omega
          have ha2 : (0 : Int) ≤ (aa : Int) := by omega
          have HEA := hide hea
          clear hta htb htc hea heb hel HTJ
          by_cases hjw : (j : Int) = wo
          · have hB : ((j : Int) == wo) = true := by simp [hjw]
            have HE2 := hide (show relaxGo wo tb 0 d = relaxGo wo (tb.drop (j + 1)) ((j + 1 : Nat) : Int) e by
              rw [HEE.out, HSTEP.out]; unfold relax1; rw [if_pos (.inl hjw)]; rfl)
            have HNB2 := HNB
            unfold relax1 at HNB2
            rw [if_pos (.inl hjw)] at HNB2
            have HJW := hide hjw
            clear hjw HNB
            go_wp2_with fail
            go_roundg (tb.length - (j + 1))
            case measure => have := hgm.out; omega
            case rel => exact ⟨j + 1, e, by omega, rfl, by go_num, HE2, HNB2, HRT, HXT, HBT⟩
          have hB : ((j : Int) == wo) = false := by simp [hjw]
          by_cases hdn : db < 0
          · have HE2 := hide (show relaxGo wo tb 0 d = relaxGo wo (tb.drop (j + 1)) ((j + 1 : Nat) : Int) e by
              rw [HEE.out, HSTEP.out]; unfold relax1; rw [if_pos (.inr (by dsimp only; rw [HDB2.out]; exact hdn))]; rfl)
            have HNB2 := HNB
            unfold relax1 at HNB2
            rw [if_pos (.inr (by dsimp only; rw [HDB2.out]; exact hdn))] at HNB2
            have HJW := hide hjw
            clear hjw HNB
            go_wp2_with fail
            go_roundg (tb.length - (j + 1))
            case measure => have := hgm.out; omega
            case rel => exact ⟨j + 1, e, by omega, rfl, by go_num, HE2, HNB2, HRT, HXT, HBT⟩
          have hskip : ¬ ((j : Int) = wo ∨ dAt e (bb : Int) < 0) := by rw [HDB2.out]; omega
          have HSK := hide hskip
          have HJW := hide hjw
          have hwr : IntKind.i64.wrap (db + tc) = db + tc := by rw [IntKind.wrap_i64] <;> omega
          clear hskip hjw
          go_wp2_with fail
          go_quiet (fail)
          have ca' : (wT.drewN nq).cell? ⟨g', aa, none⟩ = some (.int .i64 da) := ca
          have k0' : (wT.drewN nq).cell? ⟨gt, 0, none⟩ = some (.int .i64 (aa : Int)) := k0
          have HRT2 : Hid ((wT.drewN nq).ownsRow w0.heap.size 2 1 (.slice (some ⟨g', 0, none⟩) n n) n (e.map (Value.int .i64))) := HRT.out
          have HXT2 : Hid (BoxN (wT.drewN nq) w.heap.size #[.int .i64 n, .slice (some ⟨pb, po, none⟩) tb.length c] 26) := HXT.out
          have HBT2 : Hid (Below w.heap.size w (wT.drewN nq)) := bdn HBT.out nq
          clear ca cb k0 k1 k2 HRT HXT HBT HTB
          generalize wT.drewN nq = wq at *
          by_cases hst : da < 0 ∨ db + tc < da
          · have hf := HRT2.out.frozenAt aa
            have ST := hide (HRT2.out.stored aa (.int .i64 (db + tc)))
            have HE2 := hide (show relaxGo wo tb 0 d = relaxGo wo (tb.drop (j + 1)) ((j + 1 : Nat) : Int) (e.set aa (db + tc)) by
              rw [HEE.out, HSTEP.out]; unfold relax1; rw [if_neg HSK.out, if_pos (by dsimp only; rw [HDB2.out, HDA.out]; exact hst)]; dsimp only; rw [HDB2.out, Int.toNat_natCast]; rfl)
            have HNB2 := HNB
            unfold relax1 at HNB2
            rw [if_neg HSK.out, if_pos (by dsimp only; rw [HDB2.out, HDA.out]; exact hst)] at HNB2
            dsimp only at HNB2
            rw [HDB2.out, Int.toNat_natCast] at HNB2
            have HS2 := hide (show (wq.setCell ⟨g', aa, none⟩ (.int .i64 (db + tc))).ownsRow w0.heap.size 2 1 (.slice (some ⟨g', 0, none⟩) n n) n ((e.set aa (db + tc)).map (Value.int .i64)) from by
              have h := ST.out.1
              rw [← List.map_set] at h
              exact h)
            have HX2 := hide (HXT2.out.other (b' := g') (by omega) aa (.int .i64 (db + tc)))
            have HB2 := hide (HBT2.out.setCell (p := ⟨g', aa, none⟩) (show w.heap.size ≤ g' by omega) (.int .i64 (db + tc)))
            by_cases hdn2 : da < 0
            · clear hst
              go_wp2_with fail
              go_roundg (tb.length - (j + 1))
              case measure => have := hgm.out; omega
              case rel => exact ⟨j + 1, e.set aa (db + tc), by omega, rfl, by go_num, HE2, HNB2, HS2, HX2, HB2⟩
            · have hst2 : db + tc < da := by omega
              clear hst
              go_wp2_with fail
              go_roundg (tb.length - (j + 1))
              case measure => have := hgm.out; omega
              case rel => exact ⟨j + 1, e.set aa (db + tc), by omega, rfl, by go_num, HE2, HNB2, HS2, HX2, HB2⟩
          · have hst1 : ¬ da < 0 := by omega
            have hst2 : ¬ db + tc < da := by omega
            have HE2 := hide (show relaxGo wo tb 0 d = relaxGo wo (tb.drop (j + 1)) ((j + 1 : Nat) : Int) e by
              rw [HEE.out, HSTEP.out]; unfold relax1; rw [if_neg HSK.out, if_neg (by dsimp only; rw [HDB2.out, HDA.out]; exact hst)]; rfl)
            have HNB2 := HNB
            unfold relax1 at HNB2
            rw [if_neg HSK.out, if_neg (by dsimp only; rw [HDB2.out, HDA.out]; exact hst)] at HNB2
            clear hst
            go_wp2_with fail
            go_roundg (tb.length - (j + 1))
            case measure => have := hgm.out; omega
            case rel => exact ⟨j + 1, e, by omega, rfl, by go_num, HE2, HNB2, HRT2, HXT2, HBT2⟩
        · have hF := HEE.out
          rw [List.drop_eq_nil_of_le (by omega), relaxGo] at hF
          have HFF := hide (show e = rounds wo tb (k + 1) (dist0 n tn) by rw [rounds_snoc, ← HDE.out, hF])
          have hjl : j = tb.length := by omega
          have HEB2 := hide (HEB.out.more (K' := 48000 * ((k + 1 : Nat) : Int)) (by omega))
          clear hF hjl
          go_wp2_with fail
          go_roundg (n - (k + 1))
          case measure => have := hgg.out; omega
          case rel => exact ⟨k + 1, e, by omega, rfl, by go_num, HFF, HEB2, HRE, HXE, HBE⟩
    · obtain rfl : k = n := by omega
      go_wp2_with fail
      go_ret
      have h := HRW.out
      rw [HDE.out] at h
      exact ⟨g', rfl, own_base h (by omega), HBW.out⟩
end Go.Proofs.YtaajkmjilcamgaaGreatDoor
namespace Go.Proofs.YtaajkmjilcamgaaGreatDoor
open Go.RowKit

def hasI (xs : List Int) (v : Int) : Bool := xs.any fun z => decide (z = v)
def ordGo (n : Int) : List Int → List Int → Bool
  | _, [] => true
  | pre, k :: r => inB 0 (n - 1) k && (!hasI pre k && ordGo n (pre ++ [k]) r)
def ordOk (n : Nat) (order : List Int) : Bool := ordGo n [] order && decide (order.length = n)
def codeO (ts : List Int) (l : List TN) (order : List Int) : Int := if vWishes ts l = true then (if ordOk l.length order = true then 0 else 2) else 1
theorem ordGo_drop {n : Int} {xs : List Int} {k : Nat} {z : Int} (h : xs[k]? = some z) : ordGo n (xs.take k) (xs.drop k) = (inB 0 (n - 1) z && (!hasI (xs.take k) z && ordGo n (xs.take (k + 1)) (xs.drop (k + 1)))) := by
  obtain ⟨hl, he⟩ := List.getElem?_eq_some_iff.1 h
  rw [drop_cons h, ordGo, List.take_succ_eq_append_getElem hl, he]
theorem cap_of {e : TypeId} {s : Nat} {w : World} {lo hi : Nat} {v : Value} {n : Nat} {xs : List Value} (h : OwnV e s w lo hi v n xs) : ∀ A m c, v = .slice A m c → m ≤ c := by
  intro A m c hv
  rcases h.2.2 with ⟨h0, _⟩ | ⟨ho, _⟩
  · obtain ⟨A', c', he⟩ := h.1
    rw [hv] at he
    simp only [Value.slice.injEq] at he
    omega
  · obtain ⟨A', c', he, hle, _⟩ := own_shape ho
    rw [hv] at he
    simp only [Value.slice.injEq] at he
    omega
theorem RdI.take {w : World} {B : Nat} {A : Option Addr} {xs : List Int} (h : RdI w B A xs) (k : Nat) : RdI w B A (xs.take k) := fun hn => by
  obtain ⟨b, o, hA, hb, hc⟩ := h (by intro e; apply hn; rw [List.map_eq_nil_iff] at e; rw [e]; simp)
  refine ⟨b, o, hA, hb, fun j u hu => hc j u ?_⟩
  rw [List.getElem?_map] at hu ⊢
  by_cases hj : j < k
  · rw [List.getElem?_take_of_lt hj] at hu; exact hu
  · rw [List.getElem?_eq_none (by rw [List.length_take]; omega)] at hu; cases hu
end Go.Proofs.YtaajkmjilcamgaaGreatDoor
namespace Go.Proofs.YtaajkmjilcamgaaGreatDoor
open Go.RowKit

def noGap (n : Nat) (tb : List T3) (wo : Int) (k : Nat) : Bool := !hasI (dist n tb k wo) (-1)
def strongB (n : Nat) (tb : List T3) (wo : Int) : Bool := (List.range n).all (noGap n tb wo)
def reachP (n : Nat) (tb : List T3) (s : Int) (k : Nat) : Bool := decide (0 ≤ dAt (dist n tb k (-1)) s)
def reachL (n : Nat) (tb : List T3) (s : Int) : List Int := idxFrom (reachP n tb s) (List.range n) 0
def tubesL (tb : List T3) (s : Int) : List Int := idxFrom (fun t : T3 => t.a == s) tb 0
theorem range_get {n k : Nat} (h : k < n) : (List.range n)[k]? = some k := by rw [List.getElem?_range h]
end Go.Proofs.YtaajkmjilcamgaaGreatDoor
namespace Go.Proofs.YtaajkmjilcamgaaGreatDoor
open Go.RowKit

theorem small_drawn {n : Nat} : ∀ {l : List TN}, (∀ e ∈ l, WDrawn n e) → (l.map fun e => e.way.length).sum ≤ 4 * l.length := by
  intro l
  induction l with
  | nil => intro _; simp
  | cons e l ih =>
    intro h
    rw [List.map_cons, List.sum_cons, List.length_cons]
    have h1 := (h e (List.mem_cons_self ..)).1.1.2
    have h2 := ih fun x hx => h x (List.mem_cons_of_mem _ hx)
    omega
theorem below_of_src {w w1 w2 : World} (h : Below w.heap.size w w1) (k : Only w.heap.size (w.heap.size + 1) w1 w2) : Below w.heap.size w w2 := h.trans (k.below (Nat.le_refl _) h.size)
set_option maxRecDepth 100000 in
set_option maxHeartbeats 1000000 in
theorem a2Long_any (n m : Nat) (A A2 : Option Addr) (c c2 : Nat) (w : World) (hn : n ≤ 9223372036854775807) (hm : m ≤ 9223372036854775807) :
    Calls Tryz.prog 5 #[.slice A n c, .slice A2 m c2] w fun e w' => e = .returned (.bool (decide (3000 < n ∨ 3000 < m))) ∧ w = w' := by
  by_cases h1 : 3000 < n
  · have hR : decide (3000 < n ∨ 3000 < m) = true := decide_eq_true (.inl h1)
    have HR := hide hR
    have h1' : (3000 : Int) < (n : Int) := by omega
    clear hR
    go_enter Tryz.func5, Tryz.ntmps5
    go_wp2_with fail
    go_ret
    exact ⟨ret_b HR.out.symm, rfl⟩
  by_cases h2 : 3000 < m
  · have hR : decide (3000 < n ∨ 3000 < m) = true := decide_eq_true (.inr h2)
    have HR := hide hR
    have h1' : decide ((3000 : Int) < (n : Int)) = false := decide_eq_false (by omega)
    have h2' : decide ((3000 : Int) < (m : Int)) = true := decide_eq_true (by omega)
    clear hR
    go_enter Tryz.func5, Tryz.ntmps5
    go_wp2_with fail
    go_ret
    exact ⟨ret_b HR.out.symm, rfl⟩
  · have hR : decide (3000 < n ∨ 3000 < m) = false := decide_eq_false (by omega)
    have HR := hide hR
    have h1' : decide ((3000 : Int) < (n : Int)) = false := decide_eq_false (by omega)
    have h2' : decide ((3000 : Int) < (m : Int)) = false := decide_eq_false (by omega)
    clear hR
    go_enter Tryz.func5, Tryz.ntmps5
    go_wp2_with fail
    go_ret
    exact ⟨ret_b HR.out.symm, rfl⟩
end Go.Proofs.YtaajkmjilcamgaaGreatDoor
namespace Go.Proofs.YtaajkmjilcamgaaGreatDoor
open Go.RowKit

/-- A drawn run, for n tubes. -/
def RDrawn (n : Nat) (e : TN) : Prop := ((1 ≤ e.way.length ∧ e.way.length ≤ 4) ∧ ∀ z ∈ e.way, 0 ≤ z ∧ z ≤ (n : Int) - 1) ∧ (0 ≤ e.p ∧ e.p ≤ 49) ∧ e.q = 0
theorem small_runs {n : Nat} : ∀ {l : List TN}, (∀ e ∈ l, RDrawn n e) → (l.map fun e => e.way.length).sum ≤ 4 * l.length := by
  intro l
  induction l with
  | nil => intro _; simp
  | cons e l ih =>
    intro h
    rw [List.map_cons, List.sum_cons, List.length_cons]
    have h1 := (h e (List.mem_cons_self ..)).1.1.2
    have h2 := ih fun x hx => h x (List.mem_cons_of_mem _ hx)
    omega
end Go.Proofs.YtaajkmjilcamgaaGreatDoor
namespace Go.Proofs.YtaajkmjilcamgaaGreatDoor
open Go.RowKit

/-- The spans of a run of a list. -/
def spansR (ts : List Int) (e : TN) : List T3 := spGo ts e.p e.way
def takenOf (ts : List Int) (x : List TN) : List T3 := x.flatMap (spansR ts)
def OkPlan (ts : List Int) (x : List TN) : Prop := x.length ≤ 12 ∧ ∀ e ∈ x, OkWay ts e.way ∧ 0 ≤ e.p ∧ e.p ≤ 1000000
theorem tm_get {ts : List Int} {n : Nat} {z : Int} (h : ts[n]? = some z) : tmOf ts (n : Int) = z := by simp [tmOf, h]
theorem spGo_drop {ts way : List Int} {k : Nat} {t : Int} (h : way[k]? = some t) (f : Int) : spGo ts f (way.drop k) = ⟨t, f, f + tmOf ts t⟩ :: spGo ts (f + tmOf ts t) (way.drop (k + 1)) := by rw [drop_cons h, spGo]
theorem taken_bd {ts : List Int} (hts : OkTimes ts) {x : List TN} (h : OkPlan ts x) : ∀ o ∈ takenOf ts x, 0 ≤ o.b ∧ o.b < o.c ∧ o.c ≤ 1012000 := by
  intro o ho
  obtain ⟨e, he, hoe⟩ := List.mem_flatMap.1 ho
  obtain ⟨⟨h1, h2⟩, h3, h4⟩ := h.2 e he
  have := spGo_ge hts h2 o hoe
  omega
theorem taken_len {ts : List Int} {x : List TN} (h : ∀ e ∈ x, e.way.length ≤ 12) : (takenOf ts x).length ≤ 12 * x.length := by
  unfold takenOf
  induction x with
  | nil => simp
  | cons e x ih =>
    rw [List.flatMap_cons, List.length_append, List.length_cons]
    have h1 := h e (List.mem_cons_self ..)
    have h2 := ih fun d hd => h d (List.mem_cons_of_mem _ hd)
    have h3 : (spansR ts e).length = e.way.length := spGo_len _ _ _
    omega
theorem waitIn_drop {s : T3} {tk : List T3} {j : Nat} {o : T3} {w : Int} (h : tk[j]? = some o) : waitIn s (tk.drop j) w = waitIn s (tk.drop (j + 1)) (if meet s o then max w (o.c - s.b) else w) := by rw [drop_cons h, waitIn]
theorem waitOf_drop {tk ss : List T3} {j : Nat} {s : T3} {w : Int} (h : ss[j]? = some s) : waitOf tk (ss.drop j) w = waitOf tk (ss.drop (j + 1)) (waitIn s tk w) := by rw [drop_cons h, waitOf]
theorem lastC_bd {ts : List Int} (hts : OkTimes ts) {x : List TN} (h : OkPlan ts x) {f : Int} (hf : f ≤ 1000000) : lastC (takenOf ts x) f ≤ 1012000 := by
  rcases (lastC_spec (takenOf ts x) f).2.2 with h1 | ⟨o, ho, h1⟩
  · omega
  · have := taken_bd hts h o ho; omega
end Go.Proofs.YtaajkmjilcamgaaGreatDoor
namespace Go.Proofs.YtaajkmjilcamgaaGreatDoor
open Go.RowKit

def spTN (s : T3) : TN := ⟨[s.a, s.b, s.c], 0, 0⟩
theorem spans_at {w : World} {B : Nat} {A : Option Addr} {ss : List T3} (h : RN 0 w B A (ss.map spTN)) {k : Nat} (hk : k < ss.length) : ∃ b o s b' o' c', A = some ⟨b, o, none⟩ ∧ b < B ∧ b' < B ∧ ss[k]? = some s ∧ w.cell? ⟨b, o + k, none⟩ = some (.slice (some ⟨b', o', none⟩) 3 c') ∧
    w.cell? ⟨b', o', none⟩ = some (.int .i64 s.a) ∧ w.cell? ⟨b', o' + 1, none⟩ = some (.int .i64 s.b) ∧ w.cell? ⟨b', o' + 2, none⟩ = some (.int .i64 s.c) := by
  obtain ⟨b, o, e, Aw, cw, hA, hb, he, hr, hc, _, _⟩ := h.at_ (by omega) (k := k) (by simpa using hk)
  rw [List.getElem?_map, List.getElem?_eq_getElem hk] at he
  have he' := Option.some.inj he
  subst he'
  obtain ⟨b', o', z0, hA', hb', h0, g0⟩ := hr.at_ (k := 0) (by simp [spTN])
  obtain ⟨_, _, z1, hA1, _, h1, g1⟩ := hr.at_ (k := 1) (by simp [spTN])
  obtain ⟨_, _, z2, hA2, _, h2, g2⟩ := hr.at_ (k := 2) (by simp [spTN])
  subst hA'
  cases hA1; cases hA2
  simp only [spTN, List.getElem?_cons_zero, List.getElem?_cons_succ, Option.some.injEq] at h0 h1 h2
  subst h0 h1 h2
  exact ⟨b, o, ss[k], b', o', cw, hA, hb, hb', List.getElem?_eq_getElem hk, by rw [show o + k = o + k * (0 + 1) by omega]; exact hc, g0, g1, g2⟩
theorem sp_small {ss : List T3} (h : ss.length ≤ 1000) : SmallN (ss.map spTN) := by
  unfold SmallN
  rw [List.length_map, List.map_map]
  have : (ss.map ((fun e : TN => e.way.length) ∘ spTN)).sum = 3 * ss.length := by
    clear h
    induction ss with
    | nil => rfl
    | cons s ss ih => rw [List.map_cons, List.sum_cons, List.length_cons, ih]; simp [spTN]; omega
  rw [this]; omega
theorem sp_get {ts way : List Int} {f : Int} {k : Nat} (h : k < (spGo ts f way).length) : ∃ s, (spGo ts f way)[k]? = some s := ⟨_, List.getElem?_eq_getElem h⟩
def meetAt (ss tt : List T3) : Int := firstI (fun s => tt.any (meet s)) ss 0
end Go.Proofs.YtaajkmjilcamgaaGreatDoor
namespace Go.Proofs.YtaajkmjilcamgaaGreatDoor
open Go.RowKit

set_option maxRecDepth 100000 in
set_option maxHeartbeats 4000000 in
theorem a2At_any (bs : List Int) (A : Option Addr) (c : Nat) (k : Nat) (n : Int) (w : World) (hbs : BsOk bs) (h1 : RdB w w.heap.size A bs) :
    Calls Tryz.prog 7 #[.slice A bs.length c, .int .i64 k, .int .i64 n] w fun e w' => ∃ z, e = .returned (.int .i64 z) ∧ (0 ≤ z ∧ (1 ≤ n → z < n)) ∧ w = w' := by
  by_cases hk : k < bs.length
  · by_cases hn : n < 1
    · have hkl : decide ((bs.length : Int) ≤ (k : Int)) = false := decide_eq_false (by omega)
      have hkn : decide (bs.length ≤ k) = false := decide_eq_false (by omega)
      clear h1
      go_enter Tryz.func7, Tryz.ntmps7
      go_wp2_with fail
      go_ret
      exact ⟨0, rfl, ⟨by omega, by omega⟩, rfl⟩
    · obtain ⟨b1, o1, z, rfl, _, hz, hc⟩ := h1.at_ hk
      obtain ⟨hz0, hz1⟩ := hbs.2 z (List.mem_of_getElem? hz)
      have hkl : decide ((bs.length : Int) ≤ (k : Int)) = false := decide_eq_false (by omega)
      have hkn : decide (bs.length ≤ k) = false := decide_eq_false (by omega)
      have hki : (k : Int) < bs.length := by omega
      have hk0 : (0 : Int) ≤ (k : Int) := by omega
      clear h1 hz
      go_enter Tryz.func7, Tryz.ntmps7
      go_wp2_with fail
      have hm0 := Int.emod_nonneg z (show n ≠ 0 by omega)
      have hm1 := Int.emod_lt_of_pos z (show 0 < n by omega)
      go_ret
      exact ⟨z % n, rfl, ⟨hm0, by first | exact hm1 | exact fun _ => hm1⟩, rfl⟩
  · have hkl : decide ((bs.length : Int) ≤ (k : Int)) = true := decide_eq_true (by omega)
    have hkn : decide (bs.length ≤ k) = true := decide_eq_true (by omega)
    clear h1
    go_enter Tryz.func7, Tryz.ntmps7
    go_wp2_with fail
    go_ret
    exact ⟨0, rfl, ⟨by omega, by omega⟩, rfl⟩
end Go.Proofs.YtaajkmjilcamgaaGreatDoor
namespace Go.Proofs.YtaajkmjilcamgaaGreatDoor
open Go.RowKit

def aloneB (ts : List Int) (ss : List T3) (x : List TN) : Bool := x.all fun e => !(ss.any fun s => (spGo ts e.p e.way).any (meet s))
theorem alone_fits (ts : List Int) (x : List TN) (way : List Int) (f : Int) : aloneB ts (spGo ts f way) x = fits ts (takenOf ts x) way f := by
  rw [Bool.eq_iff_iff, fits_iff]
  unfold aloneB takenOf
  simp only [List.all_eq_true, Bool.not_eq_true', List.any_eq_false, List.mem_flatMap, spansR]
  constructor
  · rintro h s hs o ⟨e, he, ho⟩
    have := h e he s hs
    simp only [Bool.not_eq_true, List.any_eq_false] at this
    simpa using this o ho
  · intro h e he s hs
    simp only [Bool.not_eq_true, List.any_eq_false]
    intro o ho
    simpa using h s hs o ⟨e, he, ho⟩
end Go.Proofs.YtaajkmjilcamgaaGreatDoor
namespace Go.Proofs.YtaajkmjilcamgaaGreatDoor
open Go.RowKit

theorem meetAt_ge (ss tt : List T3) : decide (0 ≤ meetAt ss tt) = ss.any fun s => tt.any (meet s) := firstI_ge _ _ _
theorem fits_runs (ts way : List Int) (x : List TN) (f : Int) : fits ts (takenOf ts x) way f = x.all fun e => !decide (0 ≤ meetAt (spGo ts f way) (spansR ts e)) := by
  rw [Bool.eq_iff_iff, fits_iff, List.all_eq_true]
  constructor
  · intro h e he
    rw [meetAt_ge]
    simp only [Bool.not_eq_true']
    refine Bool.eq_false_iff.2 fun hc => ?_
    obtain ⟨s, hs, hs2⟩ := List.any_eq_true.1 hc
    obtain ⟨o, ho, ho2⟩ := List.any_eq_true.1 hs2
    have := h s hs o (List.mem_flatMap.2 ⟨e, he, ho⟩)
    rw [this] at ho2; cases ho2
  · intro h s hs o ho
    obtain ⟨e, he, hoe⟩ := List.mem_flatMap.1 ho
    have h2 := h e he
    rw [meetAt_ge] at h2
    cases hm : meet s o
    · rfl
    · rw [show (spGo ts f way).any (fun s => (spansR ts e).any (meet s)) = true from List.any_eq_true.2 ⟨s, hs, List.any_eq_true.2 ⟨o, hoe, hm⟩⟩] at h2
      cases h2
theorem candJ_drop {ts way : List Int} {o : T3} {j : Nat} {t bf : Int} (h : way[j]? = some t) : candJ ts o bf (way.drop j) = if t = o.a then (o.c - bf) :: candJ ts o (bf + tmOf ts t) (way.drop (j + 1)) else candJ ts o (bf + tmOf ts t) (way.drop (j + 1)) := by rw [drop_cons h, candJ]
def cands (ts way : List Int) (tk : List T3) : List Int := tk.flatMap fun o => candJ ts o 0 way
theorem cands_run (ts way : List Int) (z : TN) (l : List TN) : cands ts way (takenOf ts (z :: l)) = cands ts way (spGo ts z.p z.way) ++ cands ts way (takenOf ts l) := by
  unfold cands takenOf
  rw [List.flatMap_cons, List.flatMap_append]; rfl
theorem cands_cons (ts way : List Int) (s : T3) (ss : List T3) : cands ts way (s :: ss) = candJ ts s 0 way ++ cands ts way ss := by
  unfold cands
  rw [List.flatMap_cons]
end Go.Proofs.YtaajkmjilcamgaaGreatDoor
namespace Go.Proofs.YtaajkmjilcamgaaGreatDoor
open Go.RowKit

def wishAt (l : List TN) (k : Int) : TN := (l[k.toNat]?).getD ⟨[], 0, 0⟩
def startOf (ts : List Int) (l done : List TN) (k : Int) : Int := estOf ts (takenOf ts done) (wishAt l k).way (wishAt l k).p
def planGo (ts : List Int) (l : List TN) : List Int → List TN → List Int → List Int
  | [], _, out => out
  | k :: r, done, out => planGo ts l r (done ++ [⟨(wishAt l k).way, startOf ts l done k, 0⟩]) (out.set k.toNat (startOf ts l done k))
def planRGo (ts : List Int) (l : List TN) : List Int → List TN → List TN → List TN
  | [], _, out => out
  | k :: r, done, out => planRGo ts l r (done ++ [⟨(wishAt l k).way, startOf ts l done k, 0⟩]) (out.set k.toNat ⟨(wishAt l k).way, startOf ts l done k, 0⟩)
def plan (ts : List Int) (l : List TN) (order : List Int) : List Int := planGo ts l order [] (List.replicate l.length 0)
def planR (ts : List Int) (l : List TN) (order : List Int) : List TN := planRGo ts l order [] (List.replicate l.length ⟨[], 0, 0⟩)
theorem planR_p (ts : List Int) (l : List TN) : ∀ (order : List Int) (done out : List TN), (planRGo ts l order done out).map (·.p) = planGo ts l order done (out.map (·.p)) := by
  intro order
  induction order with
  | nil => intro done out; rfl
  | cons k r ih => intro done out; rw [planRGo, planGo, ih, List.map_set]
theorem plan_p (ts : List Int) (l : List TN) (order : List Int) : (planR ts l order).map (·.p) = plan ts l order := by
  unfold planR plan; rw [planR_p, List.map_replicate]
theorem planGo_len (ts : List Int) (l : List TN) : ∀ (order : List Int) (done : List TN) (out : List Int), (planGo ts l order done out).length = out.length := by
  intro order
  induction order with
  | nil => intro done out; rfl
  | cons k r ih => intro done out; rw [planGo, ih, List.length_set]
theorem plan_len (ts : List Int) (l : List TN) (order : List Int) : (plan ts l order).length = l.length := by
  unfold plan; rw [planGo_len, List.length_replicate]
def DoneOk (ts : List Int) (n : Nat) (done : List TN) : Prop := done.length = n ∧ ∀ e ∈ done, OkWay ts e.way ∧ 0 ≤ e.p ∧ e.p ≤ 10000 + 12000 * (n : Int)
theorem DoneOk.plan {ts : List Int} {n : Nat} {done : List TN} (h : DoneOk ts n done) (hn : n ≤ 6) : OkPlan ts done :=
  ⟨by rw [h.1]; omega, fun e he => by obtain ⟨h1, h2, h3⟩ := h.2 e he; exact ⟨h1, h2, by omega⟩⟩
theorem start_bd {ts : List Int} (hts : OkTimes ts) {n : Nat} {done : List TN} (h : DoneOk ts n done) {way : List Int} {f : Int} (hw : OkWay ts way) (hf : 0 ≤ f) (hf' : f ≤ 10000) : 0 ≤ estOf ts (takenOf ts done) way f ∧ estOf ts (takenOf ts done) way f ≤ 10000 + 12000 * ((n : Int) + 1) := by
  obtain ⟨h1, h2, _, _⟩ := est_spec (tk := takenOf ts done) hts hw.2 f
  refine ⟨by omega, ?_⟩
  rcases (lastC_spec (takenOf ts done) f).2.2 with h3 | ⟨o, ho, h3⟩
  · omega
  · obtain ⟨e, he, hoe⟩ := List.mem_flatMap.1 ho
    obtain ⟨⟨k1, k2⟩, k3, k4⟩ := h.2 e he
    have := spGo_ge hts k2 o hoe
    omega
theorem DoneOk.next {ts : List Int} (hts : OkTimes ts) {n : Nat} {done : List TN} (h : DoneOk ts n done) {way : List Int} {f : Int} (hw : OkWay ts way) (hf : 0 ≤ f) (hf' : f ≤ 10000) : DoneOk ts (n + 1) (done ++ [⟨way, estOf ts (takenOf ts done) way f, 0⟩]) := by
  obtain ⟨b1, b2⟩ := start_bd hts h hw hf hf'
  refine ⟨by rw [List.length_append, h.1]; rfl, fun e he => ?_⟩
  rcases List.mem_append.1 he with he | he
  · obtain ⟨k1, k2, k3⟩ := h.2 e he; exact ⟨k1, k2, by omega⟩
  · simp only [List.mem_singleton] at he; subst he; exact ⟨hw, b1, by dsimp only; omega⟩
theorem ordGo_in {n : Int} : ∀ {r pre : List Int}, ordGo n pre r = true → ∀ k ∈ r, 0 ≤ k ∧ k ≤ n - 1 := by
  intro r
  induction r with
  | nil => intro pre _ k hk; cases hk
  | cons a r ih =>
    intro pre h k hk
    rw [ordGo] at h
    simp only [Bool.and_eq_true] at h
    rcases List.mem_cons.1 hk with rfl | hk
    · exact inB_iff.1 h.1
    · exact ih h.2.2 k hk
theorem codeO_ok {ts : List Int} {l : List TN} {order : List Int} (h : codeO ts l order = 0) : (OkTimes ts ∧ l.length ≤ 6 ∧ ∀ e ∈ l, OkWish ts e) ∧ order.length = l.length ∧ ∀ k ∈ order, 0 ≤ k ∧ k ≤ (l.length : Int) - 1 := by
  unfold codeO at h
  split at h
  · rename_i hv
    split at h
    · rename_i ho
      unfold ordOk at ho
      simp only [Bool.and_eq_true, decide_eq_true_eq] at ho
      exact ⟨vWishes_iff.1 hv, ho.2, ordGo_in ho.1⟩
    · omega
  · omega
theorem planGo_drop {ts : List Int} {l : List TN} {order : List Int} {k : Nat} {z : Int} (h : order[k]? = some z) (done : List TN) (out : List Int) : planGo ts l (order.drop k) done out = planGo ts l (order.drop (k + 1)) (done ++ [⟨(wishAt l z).way, startOf ts l done z, 0⟩]) (out.set z.toNat (startOf ts l done z)) := by rw [drop_cons h, planGo]
theorem planRGo_drop {ts : List Int} {l : List TN} {order : List Int} {k : Nat} {z : Int} (h : order[k]? = some z) (done out : List TN) : planRGo ts l (order.drop k) done out = planRGo ts l (order.drop (k + 1)) (done ++ [⟨(wishAt l z).way, startOf ts l done z, 0⟩]) (out.set z.toNat ⟨(wishAt l z).way, startOf ts l done z, 0⟩) := by rw [drop_cons h, planRGo]
theorem wishAt_get {l : List TN} {n : Nat} {e : TN} (h : l[n]? = some e) : wishAt l (n : Int) = e := by simp [wishAt, h]
theorem own_atI {w : World} {base : Nat} {e : TypeId} {n c g : Nat} {zs : List Int} (h : w.ownsRow base e 1 (.slice (some ⟨g, 0, none⟩) n c) n (zs.map (Value.int .i64))) {i : Nat} {z : Int} (hz : zs[i]? = some z) : w.cell? ⟨g, i, none⟩ = some (.int .i64 z) := by
  have hl := h.1
  have hi := lt_of_get hz
  simp only [List.length_map, Nat.mul_one] at hl
  rw [h.cellAt i (by omega), List.getElem?_map, hz]; rfl
theorem own_setI {w : World} {base : Nat} {e : TypeId} {n c g : Nat} {zs : List Int} (h : w.ownsRow base e 1 (.slice (some ⟨g, 0, none⟩) n c) n (zs.map (Value.int .i64))) (i : Nat) (z : Int) :
    (w.setCell ⟨g, i, none⟩ (.int .i64 z)).ownsRow base e 1 (.slice (some ⟨g, 0, none⟩) n c) n ((zs.set i z).map (Value.int .i64)) ∧ w.grownBy (w.setCell ⟨g, i, none⟩ (.int .i64 z)) (some g) := by
  have := h.stored i (.int .i64 z)
  rw [← List.map_set] at this
  exact this
end Go.Proofs.YtaajkmjilcamgaaGreatDoor
namespace Go.Proofs.YtaajkmjilcamgaaGreatDoor
open Go.RowKit

theorem replicate_get_zp {n i : Nat} (h : i < n) : (List.replicate n zp)[i]? = some zp := by rw [List.getElem?_replicate, if_pos h]
theorem wayAt_zp (w : World) (B : Nat) : WayAt w B zp := ⟨none, 0, rfl, Rd.nil _ _ _⟩
end Go.Proofs.YtaajkmjilcamgaaGreatDoor
namespace Go.Proofs.YtaajkmjilcamgaaGreatDoor
open Go.RowKit

theorem own_posN {w : World} {base : Nat} {e : TypeId} {size n c : Nat} {A : Option Addr} {xs : List Value} (h : w.ownsRow base e size (.slice A n c) n xs) (hn : 0 < n) : ∃ g, A = some ⟨g, 0, none⟩ ∧ base ≤ g ∧ g < w.heap.size := by
  rcases own_block h with ⟨_, h0, _⟩ | ⟨g, hA, h1, h2⟩
  · omega
  · exact ⟨g, hA, h1, h2⟩
theorem planGo_bd {ts : List Int} {l : List TN} (hts : OkTimes ts) (hlo : ∀ e ∈ l, OkWish ts e) : ∀ (order : List Int) (n : Nat) (done : List TN) (out : List Int), (∀ k ∈ order, 0 ≤ k ∧ k ≤ (l.length : Int) - 1) → n + order.length ≤ 6 → DoneOk ts n done → (∀ z ∈ out, 0 ≤ z ∧ z ≤ 100000) → ∀ z ∈ planGo ts l order done out, 0 ≤ z ∧ z ≤ 100000 := by
  intro order
  induction order with
  | nil => intro n done out _ _ _ h; exact h
  | cons k r ih =>
    intro n done out hk hn hd h
    rw [List.length_cons] at hn
    obtain ⟨m, rfl⟩ := Int.eq_ofNat_of_zero_le (hk k (List.mem_cons_self ..)).1
    have hml : m < l.length := by have := (hk _ (List.mem_cons_self ..)).2; omega
    have he : l[m]? = some l[m] := List.getElem?_eq_getElem hml
    obtain ⟨hw, hp, _⟩ := hlo l[m] (List.getElem_mem _)
    have hb := start_bd hts hd hw hp.1 hp.2
    rw [planGo, startOf, wishAt_get he]
    refine ih (n + 1) _ _ (fun k' hk' => hk k' (List.mem_cons_of_mem _ hk')) (by omega) (hd.next hts hw hp.1 hp.2) fun z hz => ?_
    rcases List.mem_or_eq_of_mem_set hz with hz | hz
    · exact h z hz
    · subst hz; omega
theorem plan_bd {ts : List Int} {l : List TN} {order : List Int} (h : codeO ts l order = 0) : ∀ z ∈ plan ts l order, 0 ≤ z ∧ z ≤ 100000 := by
  obtain ⟨⟨hts, hl6, hlo⟩, hol, hoi⟩ := codeO_ok h
  exact planGo_bd hts hlo order 0 [] _ hoi (by omega) ⟨rfl, fun e he => by cases he⟩ fun z hz => by obtain ⟨_, rfl⟩ := List.mem_replicate.1 hz; omega
theorem planR_get {ts : List Int} {l : List TN} {order : List Int} {i : Nat} {e : TN} (h : (planR ts l order)[i]? = some e) : (plan ts l order)[i]? = some e.p := by
  rw [← plan_p, List.getElem?_map, h]; rfl
theorem planR_len (ts : List Int) (l : List TN) (order : List Int) : (planR ts l order).length = l.length := by
  rw [← plan_len ts l order, ← plan_p, List.length_map]
def planByOrder (ts : List Int) (l : List TN) (order : List Int) : List Int × Int := if codeO ts l order = 0 then (plan ts l order, 0) else ([], codeO ts l order)
/-- The sum of what is later than ready. -/
def dlGo (l : List TN) : List Int → Nat → Int
  | [], _ => 0
  | s :: r, i => s - (wishAt l i).p + dlGo l r (i + 1)
def sumOfDelays (ts : List Int) (l : List TN) (order : List Int) : Int × Int := if codeO ts l order = 0 then (dlGo l (plan ts l order) 0, 0) else (0, codeO ts l order)
end Go.Proofs.YtaajkmjilcamgaaGreatDoor
namespace Go.Proofs.YtaajkmjilcamgaaGreatDoor
open Go.RowKit

theorem dlGo_drop {l : List TN} {xs : List Int} {k : Nat} {z : Int} (h : xs[k]? = some z) : dlGo l (xs.drop k) k = z - (wishAt l k).p + dlGo l (xs.drop (k + 1)) (k + 1) := by rw [drop_cons h, dlGo]
end Go.Proofs.YtaajkmjilcamgaaGreatDoor
