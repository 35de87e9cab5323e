/-
  The search for the cheapest moves, in the program.
  The boxes of the reference's search for the cheapest moves. Plain lemmas.
  Drawn times and wishes, off bytes; small helpers of the laws.
  Drawn runs.
  The spans of a run and the earliest start; in the program.
  The spans of a run, and whether a run fits; in the reference.
  Helpers of the laws on runs: a number off bytes; the spans of a run by the reference.
  A run meets none of some others: the law's own helper.
  The earliest start; in the reference.
-/
import Derived.Test.YtklfjekpeoigoaaQMovesBack8
import Derived.Test.YtklfjekpeoigoaaQMovesBack10
import Derived.Deep.DeepCutAuto
import Derived.Deep.RegionHeld3
import Derived.Test.YtklfjekpeoigoaaQMovesBack9
import Derived.Test.YtklfjekpeoigoaaQMovesBack7
namespace Go.Proofs.Ytklfjekpeoigoaa
open Go.RowKit
set_option maxRecDepth 100000 in
set_option maxHeartbeats 8000000 in
theorem msNext_any (w0 : World) (gp gm gf cm cf : Nat) (Ac Ag : Option Addr) (cc cg : Nat) (cs : List TN) (gs : List Int) (nm : Nat) (hok : OkS nm gs cs) : ∀ (r k : Nat) (cost : Int) (w : World) (more F best : List Int) (vb : Value) (least : Int),
    k + r = gs.length → F.length = gs.length → OkM nm more → (∀ z ∈ F, 0 ≤ z ∧ z < nm) → (0 ≤ cost ∧ cost ≤ 1000 * (k : Int)) → (-1 ≤ least ∧ least ≤ 6000) → best.length ≤ 6 → SrI w0 gp gm gf cm cf Ac Ag cc cg cs gs w more F best vb least →
    Calls Try.prog 128 #[.pointer (some ⟨gp, 0, none⟩), .int .i64 k, .int .i64 cost] w fun e w' => e = .returned (.tuple #[]) ∧ ∃ (F' best' : List Int) (vb' : Value) (least' : Int), F'.take k = F.take k ∧ F'.length = gs.length ∧ (∀ z ∈ F', 0 ≤ z ∧ z < nm) ∧ (best', least') = srch gs cs nm r (F.take k) more cost (best, least) ∧ (-1 ≤ least' ∧ least' ≤ 6000) ∧ best'.length ≤ 6 ∧ SrI w0 gp gm gf cm cf Ac Ag cc cg cs gs w' more F' best' vb' least' := by
  intro r
  induction r with
  | zero =>
    intro k cost w more F best vb least hk hF hM hFb hc hl hbl hI
    have hgl := hok.2.1
    have HI := hide hI
    have c5 : w.cell? ⟨gp, 5, none⟩ = some (.int .i64 least) := hI.box.cell 5
    have c1 : w.cell? ⟨gp, 1, none⟩ = some (.slice Ag gs.length cg) := hI.box.cell 1
    have c3 : w.cell? ⟨gp, 3, none⟩ = some (.slice (some ⟨gf, 0, none⟩) F.length cf) := hI.box.cell 3
    have hkg : k = gs.length := by omega
    clear hI
    by_cases hp : 0 ≤ least ∧ least ≤ cost
    · obtain ⟨hp1, hp2⟩ := hp
      go_enter Try.func128, Try.ntmps128
      go_wp2_with fail
      (try simp only [Exit.inBlock, Exit.then]); refine bodyPost_ret (results_none rfl _ _ _) rfl ?_
      exact ⟨rfl, F, best, vb, least, rfl, hF, hFb, by rw [srch, if_pos ⟨hp1, hp2⟩], hl, hbl, HI.out⟩
    · have HP := hide hp
      have hq : least < 0 ∨ cost < least := by omega
      have hkI : ((k : Int) == (gs.length : Int)) = true := by simp [hkg]
      have HCL := hide (cloneI_any F (some ⟨gf, 0, none⟩) cf w (by omega) (by have h := Rd.of_own HI.out.rf; exact h))
      have hcz : cost ≤ 6000 := by omega
      have hF6 : F.length ≤ 6 := by omega
      have HFL := hide hF
      have HKG := hide hkg
      clear hp hF hk hkg
      have hcs : least < 0 ∨ (0 ≤ least ∧ cost < least) := by omega
      clear hq
      rcases hcs with hq | ⟨hq, hq2⟩
      all_goals (
        go_enter Try.func128, Try.ntmps128
        go_wp2_with (go_at_call 142; (with_reducible refine (HCL.out).mono ?_); rintro e w1 ⟨A1, c1', rfl, hown, b1⟩; have I1 := hide (HI.out.below b1); have d4 : w1.cell? ⟨gp, 4, none⟩ = some vb := I1.out.box.cell 4; have f4 := I1.out.box.fro 4; have d5 : w1.cell? ⟨gp, 5, none⟩ = some (.int .i64 least) := I1.out.box.cell 5; have X4 := hide (I1.out.box.set 4 (.slice A1 F.length c1')); have d5' : (w1.setCell ⟨gp, 4, none⟩ (.slice A1 F.length c1')).cell? ⟨gp, 5, none⟩ = some (.int .i64 least) := X4.out.cell 5; have f5 := X4.out.fro 5)
        (try simp only [Exit.inBlock, Exit.then]); refine bodyPost_ret (results_none rfl _ _ _) rfl ?_
        have hne : ∀ g, g < w.heap.size → (Value.slice A1 F.length c1').ownBlock ≠ some g := fun g hg e => by have := (hown.lt g e).1; omega
        have hI2 := I1.out.found (l2 := cost) (b2 := F) (own_base hown HI.out.bel.size) ⟨hne _ HI.out.box.lt, hne _ (HI.out.rm.lt gm rfl).2, hne _ (HI.out.rf.lt gf rfl).2⟩
        refine ⟨rfl, F, F, _, cost, rfl, HFL.out, hFb, ?_, by omega, by omega, hI2⟩
        rw [srch, if_neg HP.out, List.take_of_length_le (by have := HFL.out; have := HKG.out; omega)])
  | succ r ih =>
    intro k cost w more F best vb least hk hF hM hFb hc hl hbl hI
    have hgl := hok.2.1
    have HI := hide hI
    have c5 : w.cell? ⟨gp, 5, none⟩ = some (.int .i64 least) := hI.box.cell 5
    have c1 : w.cell? ⟨gp, 1, none⟩ = some (.slice Ag gs.length cg) := hI.box.cell 1
    have hkl : k < gs.length := by omega
    have hkl' : (k : Int) < (gs.length : Int) := by omega
    clear hI
    by_cases hp : 0 ≤ least ∧ least ≤ cost
    · obtain ⟨hp1, hp2⟩ := hp
      go_enter Try.func128, Try.ntmps128
      go_wp2_with fail
      (try simp only [Exit.inBlock, Exit.then]); refine bodyPost_ret (results_none rfl _ _ _) rfl ?_
      exact ⟨rfl, F, best, vb, least, rfl, hF, hFb, by rw [srch, if_pos ⟨hp1, hp2⟩], hl, hbl, HI.out⟩
    have HP := hide hp
    have hq : least < 0 ∨ cost < least := by omega
    have hcz : cost ≤ 6000 := by omega
    have hF6 : F.length ≤ 6 := by omega
    have hkF : k < F.length := by omega
    have HFL := hide hF
    have HK := hide hk
    have hkI : ((k : Int) == (gs.length : Int)) = false := by simp; omega
    have hcs : least < 0 ∨ (0 ≤ least ∧ cost < least) := by omega
    obtain ⟨gk, hgk⟩ : ∃ z, gs[k]? = some z := ⟨_, List.getElem?_eq_getElem hkl⟩
    have HGK := hide hgk
    have HTL := hide (show (F.take k).length = k by rw [List.length_take]; omega)
    clear hp hF hk hq hgk
    go_enter Try.func128, Try.ntmps128
    go_upto_region 0 with fail
    go_cut [20] (fun c wx => c = .bool false ∧ w = wx)
    case first =>
      rcases hcs with hq | ⟨hq, hq2⟩
      all_goals (
        go_wp2_with fail
        go_meet
        exact ⟨by first | rfl | (congr 1; exact decide_eq_false (by omega)), rfl⟩)
    case rest =>
      obtain ⟨rfl, rfl⟩ := hcut
      clear hcs c5
      go_upto_region 4 with fail
      go_cut [59] (fun c wx => ∃ bb : Bool, c = .bool bb ∧ Hid (bb = true → ∃ k', k = k' + 1 ∧ at0 gs k' = gk) ∧ Hid (bb = false → ¬ (0 < k ∧ at0 gs (k - 1) = gk)) ∧ Hid (SrI w0 gp gm gf cm cf Ac Ag cc cg cs gs wx more F best vb least))
      case first =>
        rcases Nat.eq_zero_or_pos k with rfl | hkp
        · go_quiet (fail)
          go_wp2_with fail
          go_meet
          exact ⟨false, rfl, (fun h => by cases h), (fun _ h => by omega), HI.out.below (bdn (Below.refl _ _) nq)⟩
        · obtain ⟨k', rfl⟩ : ∃ k', k = k' + 1 := ⟨k - 1, by omega⟩
          obtain ⟨gj, hgj⟩ : ∃ z, gs[k']? = some z := ⟨_, List.getElem?_eq_getElem (by omega)⟩
          have hAg := own_posN' HI.out.rg (by omega)
          obtain ⟨gg, rfl, _, _⟩ := hAg
          have e0 : w.cell? ⟨gg, k', none⟩ = some (.int .i64 gj) := by rw [HI.out.rg.cellAt k' (by omega), List.getElem?_map, hgj]; rfl
          have e1 : w.cell? ⟨gg, k' + 1, none⟩ = some (.int .i64 gk) := by rw [HI.out.rg.cellAt (k' + 1) (by omega), List.getElem?_map, HGK.out]; rfl
          have hk9 : (0 : Int) < ((k' + 1 : Nat) : Int) := by omega
          have hk1 : ((k' + 1 : Nat) : Int) - 1 = (k' : Int) := by omega
          have hj0 : (0 : Int) ≤ (k' : Int) := by omega
          have hj9 : (k' : Int) < (gs.length : Int) := by omega
          have hwr : IntKind.i64.wrap (k' : Int) = (k' : Int) := by rw [IntKind.wrap_i64] <;> omega
          have HGJ := hide hgj
          clear hgj
          by_cases heq : gj = gk
          · have hB : (gj == gk) = true := by simp [heq]
            have HEQ := hide heq
            clear heq
            go_quiet (fail)
            go_wp2_with fail
            go_meet
            exact ⟨true, rfl, (fun _ => ⟨k', rfl, by rw [at0_get HGJ.out, HEQ.out]⟩), (fun h => by cases h), HI.out.below (bdn (Below.refl _ _) nq)⟩
          · have hB : (gj == gk) = false := by simp [heq]
            have HEQ := hide heq
            clear heq
            go_quiet (fail)
            go_wp2_with fail
            go_meet
            exact ⟨false, rfl, (fun h => by cases h), (fun _ h => HEQ.out (by have := h.2; rw [show k' + 1 - 1 = k' by omega, at0_get HGJ.out] at this; exact this)), HI.out.below (bdn (Below.refl _ _) nq)⟩
      case rest =>
        obtain ⟨bb, rfl, HT1, HF1, HI2⟩ := hcut
        clear HI c1
        go_upto_if 59 with fail
        go_cut [6] (fun c wx => ∃ fv : Nat, c = .int .i64 fv ∧ fv ≤ nm ∧ Hid (firstOf gs (F.take k) = fv) ∧ Hid (SrI w0 gp gm gf cm cf Ac Ag cc cg cs gs wx more F best vb least))
        case first =>
          cases bb
          · have hfv := hide (show firstOf gs (F.take k) = 0 by
              unfold firstOf
              rw [HTL.out, if_neg (by rw [at0_get HGK.out]; exact HF1.out rfl)])
            go_wp2_with fail
            go_meet
            exact ⟨0, by first | rfl | go_num, by omega, hfv, HI2.out⟩
          · obtain ⟨k', rfl, hgj⟩ := HT1.out rfl
            obtain ⟨z, hz⟩ : ∃ z, F[k']? = some z := ⟨_, List.getElem?_eq_getElem (by omega)⟩
            have hzb := hFb z (List.mem_of_getElem? hz)
            obtain ⟨zn, rfl⟩ := Int.eq_ofNat_of_zero_le hzb.1
            have e3 := HI2.out.box.cell 3
            have c3 : _ = some (Value.slice (some ⟨gf, 0, none⟩) F.length cf) := e3
            have cz := HI2.out.rf.cellAt k' (by omega)
            rw [List.getElem?_map, hz] at cz
            have hk1 : ((k' + 1 : Nat) : Int) - 1 = (k' : Int) := by omega
            have hj0 : (0 : Int) ≤ (k' : Int) := by omega
            have hj9 : (k' : Int) < (F.length : Int) := by omega
            have hwr : IntKind.i64.wrap (k' : Int) = (k' : Int) := by rw [IntKind.wrap_i64] <;> omega
            have hfv := hide (show firstOf gs (F.take (k' + 1)) = zn by
              unfold firstOf
              rw [HTL.out, show k' + 1 - 1 = k' by omega, if_pos ⟨by omega, by rw [at0_get HGK.out]; exact hgj⟩]
              rw [at0_get (z := (zn : Int)) (by rw [List.getElem?_take, if_pos (by omega)]; exact hz), Int.toNat_natCast])
            have hzn : zn ≤ nm := by omega
            clear hz hgj e3
            go_wp2_with fail
            go_meet
            exact ⟨zn, rfl, hzn, hfv, HI2.out⟩
        case rest =>
          obtain ⟨fv, rfl, hfv, HFV, HI3⟩ := hcut
          clear HI2 HT1 HF1
          have HM := hide hM
          have hnm10 := hok.1
          have hmn : more.length ≤ nm := by have := hM.1; omega
          have hmn2 : nm ≤ more.length := by have := hM.1; omega
          have HFB := hide hFb
          have HLE := hide hl
          have hgkb := hok.2.2.1 gk (List.mem_of_getElem? HGK.out)
          obtain ⟨kn, rfl⟩ := Int.eq_ofNat_of_zero_le hgkb.1
          have hkn : kn < nm := by omega
          have HT := hide (show srch gs cs nm (r + 1) (F.take k) more cost (best, least) = ((List.range nm).drop fv).foldl (fun st i => if at0 more i = 0 then st else srch gs cs nm r (F.take k ++ [(i : Int)]) (more.set i (at0 more i - 1)) (cost + costAt cs (i : Int) (kn : Int)) st) (best, least) by
            rw [srch, if_neg HP.out, HFV.out, HTL.out, at0_get HGK.out])
          have hfl : gs.length ≤ F.length := by have := HFL.out; omega
          clear hM hFb hgkb
          go_wp2_with fail
          go_loopg [7] (nm - fv) (fun g iv wr => ∃ (i : Nat) (F' best' : List Int) (vb' : Value) (least' : Int), i ≤ nm ∧ Hid (g = nm - i) ∧ iv = .int .i64 i ∧ Hid (F'.take k = F.take k) ∧ Hid (F'.length = gs.length) ∧ Hid (∀ z ∈ F', 0 ≤ z ∧ z < nm) ∧ Hid (srch gs cs nm (r + 1) (F.take k) more cost (best, least) = ((List.range nm).drop i).foldl (fun st i => if at0 more i = 0 then st else srch gs cs nm r (F.take k ++ [(i : Int)]) (more.set i (at0 more i - 1)) (cost + costAt cs (i : Int) (kn : Int)) st) (best', least')) ∧ Hid (-1 ≤ least' ∧ least' ≤ 6000) ∧ Hid (best'.length ≤ 6) ∧ Hid (SrI w0 gp gm gf cm cf Ac Ag cc cg cs gs wr more F' best' vb' least'))
          case atStart => exact ⟨fv, F, best, vb, least, hfv, by simp [Hid], rfl, rfl, HFL.out, HFB.out, HT.out, HLE.out, hbl, HI3.out⟩
          case round =>
            obtain ⟨i, F', best', vb', least', hi, hg, rfl, HTK, HFL2, HFB2, HS, HLE2, HBL2, HIR⟩ := hrel
            clear HI3
            have c2 : wr.cell? ⟨gp, 2, none⟩ = some (.slice (some ⟨gm, 0, none⟩) more.length cm) := HIR.out.box.cell 2
            by_cases hin : i < nm
            · obtain ⟨z, hz⟩ : ∃ z, more[i]? = some z := ⟨_, List.getElem?_eq_getElem (by omega)⟩
              have hzb := HM.out.2 z (List.mem_of_getElem? hz)
              have cz : wr.cell? ⟨gm, i, none⟩ = some (.int .i64 z) := by rw [HIR.out.rm.cellAt i (by omega), List.getElem?_map, hz]; rfl
              have hil : (i : Int) < (more.length : Int) := by omega
              have hi0 : (0 : Int) ≤ (i : Int) := by omega
              have hS := HS.out
              rw [drop_cons (show (List.range nm)[i]? = some i by rw [List.getElem?_range hin]), List.foldl_cons, at0_get hz] at hS
              have HZ := hide hz
              clear hz HS
              by_cases hz0 : z = 0
              · have hB : (z == 0) = true := by simp [hz0]
                rw [if_pos hz0] at hS
                have HS2 := hide hS
                have HZ0 := hide hz0
                clear hz0 hS
                go_wp2_with fail
                go_roundg (nm - (i + 1))
                case measure => have := hg.out; omega
                case rel => exact ⟨i + 1, F', best', vb', least', by omega, rfl, by go_num, HTK, HFL2, HFB2, HS2, HLE2, HBL2, HIR⟩
              · have hB : (z == 0) = false := by simp [hz0]
                rw [if_neg hz0] at hS
                have HS2 := hide hS
                have hz1 : 1 ≤ z := by omega
                have hz2 : z ≤ 1000 := hzb.2
                clear hz0 hS hzb
                have I1 := hide (HIR.out.setm i (z - 1))
                have fz := HIR.out.rm.frozenAt i
                have e3 : (wr.setCell ⟨gm, i, none⟩ (.int .i64 (z - 1))).cell? ⟨gp, 3, none⟩ = some (.slice (some ⟨gf, 0, none⟩) F'.length cf) := I1.out.box.cell 3
                have hkF2 : k < F'.length := by have := HFL2.out; omega
                obtain ⟨f0, hf0⟩ : ∃ z, F'[k]? = some z := ⟨_, List.getElem?_eq_getElem hkF2⟩
                have cf0 : (wr.setCell ⟨gm, i, none⟩ (.int .i64 (z - 1))).cell? ⟨gf, k, none⟩ = some (.int .i64 f0) := by rw [I1.out.rf.cellAt k (by omega), List.getElem?_map, hf0]; rfl
                have ff0 := I1.out.rf.frozenAt k
                have I2 := hide (I1.out.setf k (i : Int))
                have hkF3 : (k : Int) < (F'.length : Int) := by omega
                have hk0 : (0 : Int) ≤ (k : Int) := by omega
                clear hf0
                go_upto_region 12 with fail
                generalize (wr.setCell ⟨gm, i, none⟩ (.int .i64 (z - 1))).setCell ⟨gf, k, none⟩ (.int .i64 (i : Int)) = wB at *
                obtain ⟨e, zc, he, hzc, hco, hzc0, hzc1⟩ := cost_at hok hin hkn
                have hel : e.way.length = nm := (hok.2.2.2.2 e (List.mem_of_getElem? he)).1
                have hcl : cs.length = nm := hok.2.2.2.1
                obtain ⟨bc, oc, e2, Aw, cw, hAc, _, he2, hrw, hcc, _, _⟩ := (I2.out.hc.below I2.out.bel).at_ (by omega) (k := i) (by omega)
                subst hAc
                obtain rfl := Option.some.inj (he.symm.trans he2)
                obtain ⟨bw, ow, z2, hAw, _, hzc2, hcw⟩ := hrw.at_ (k := kn) (by omega)
                subst hAw
                obtain rfl := Option.some.inj (hzc.symm.trans hzc2)
                rw [Nat.zero_add, Nat.mul_one] at hcc
                obtain ⟨gg, rfl, _, _⟩ := own_posN' I2.out.rg (by omega)
                have cgk : wB.cell? ⟨gg, k, none⟩ = some (.int .i64 (kn : Int)) := by rw [I2.out.rg.cellAt k (by omega), List.getElem?_map, HGK.out]; rfl
                have b0 : wB.cell? ⟨gp, 0, none⟩ = some (.slice (some ⟨bc, oc, none⟩) cs.length cc) := I2.out.box.cell 0
                have b1 : wB.cell? ⟨gp, 1, none⟩ = some (.slice (some ⟨gg, 0, none⟩) gs.length cg) := I2.out.box.cell 1
                have hic : (i : Int) < (cs.length : Int) := by omega
                have hke : (kn : Int) < (e.way.length : Int) := by omega
                have hkn0 : (0 : Int) ≤ (kn : Int) := by omega
                have hwk : IntKind.i64.wrap ((k : Int) + 1) = (k : Int) + 1 := by rw [IntKind.wrap_i64] <;> omega
                have hwc : IntKind.i64.wrap (cost + zc) = cost + zc := by rw [IntKind.wrap_i64] <;> omega
                have HCO := hide hco
                have HCL := hide hcl
                have HEL := hide hel
                clear he he2 hzc hzc2 hrw hco hcl hel cz fz e3 cf0 ff0 I1 HIR c2
                go_wp2_with fail
                go_still_tail 21, (by kernel_rfl)
                change wpList _ _ _ _ _ wB.drew
                have ID := hide (I2.out.below (Below.refl _ _).drew)
                clear hcc hcw cgk b0 b1 I2
                generalize wB.drew = wd at *
                have hih := ih (k + 1) (cost + zc) wd (more.set i (z - 1)) (F'.set k (i : Int)) best' vb' least' (by have := HK.out; omega) (by rw [List.length_set]; exact HFL2.out) (HM.out.set ⟨by omega, by omega⟩) (fun u hu => by
                  rcases List.mem_or_eq_of_mem_set hu with hu | rfl
                  · exact HFB2.out u hu
                  · omega) (by omega) HLE2.out HBL2.out ID.out
                have htk : (F'.set k (i : Int)).take (k + 1) = F.take k ++ [(i : Int)] := by
                  rw [← HTK.out]
                  apply List.ext_getElem?
                  intro j
                  rw [List.getElem?_take]
                  by_cases hj : j < k
                  · rw [if_pos (by omega), List.getElem?_set_ne (by omega), List.getElem?_append_left (by rw [List.length_take]; omega), List.getElem?_take, if_pos hj]
                  · rcases Nat.lt_or_ge j (k + 1) with h1 | h1
                    · obtain rfl : j = k := by omega
                      rw [if_pos h1, List.getElem?_set_self hkF2, List.getElem?_append_right (by rw [List.length_take]; omega), List.length_take, Nat.min_eq_left (by omega), Nat.sub_self]; rfl
                    · rw [if_neg (by omega), List.getElem?_eq_none (by rw [List.length_append, List.length_take]; simp; omega)]
                rw [htk] at hih
                have hkc : ((k : Int) + 1) = ((k + 1 : Nat) : Int) := by omega
                rw [← hkc] at hih
                have HIH := hide hih
                have HTKS := hide htk
                clear hih htk ih hkc hwk hwc ID
                go_upto_region 13 with (go_at_call 128; (with_reducible refine (HIH.out).mono ?_); rintro e5 w5 ⟨rfl, F5, best5, vb5, least5, hF5, hFL5, hFB5, hs5, hl5, hbl5, I5⟩)
                have hlen5 : (more.set i (z - 1)).length = more.length := List.length_set ..
                have c25 : w5.cell? ⟨gp, 2, none⟩ = some (.slice (some ⟨gm, 0, none⟩) (more.set i (z - 1)).length cm) := I5.box.cell 2
                rw [hlen5] at c25
                have cz5 : w5.cell? ⟨gm, i, none⟩ = some (.int .i64 (z - 1)) := by rw [I5.rm.cellAt i (by rw [hlen5]; omega), List.getElem?_map, List.getElem?_set_self (by omega)]; rfl
                have fz5 := I5.rm.frozenAt i
                have hms : (more.set i (z - 1)).set i z = more := by
                  rw [List.set_set]
                  obtain ⟨h1, h2⟩ := List.getElem?_eq_some_iff.1 HZ.out
                  rw [← h2, List.set_getElem_self]
                have h6 := I5.setm i z
                rw [hms] at h6
                have I6 := hide h6
                have HS5 := hide (show srch gs cs nm (r + 1) (F.take k) more cost (best, least) = ((List.range nm).drop (i + 1)).foldl (fun st i => if at0 more i = 0 then st else srch gs cs nm r (F.take k ++ [(i : Int)]) (more.set i (at0 more i - 1)) (cost + costAt cs (i : Int) (kn : Int)) st) (best5, least5) by
                  rw [HS2.out, hs5, HCO.out])
                have HF5 := hide (show F5.take k = F.take k by
                  have h1 := congrArg (List.take k) hF5
                  rw [List.take_take, Nat.min_eq_left (by omega), List.take_append_of_le_length (by rw [List.length_take]; omega), List.take_take, Nat.min_self] at h1
                  exact h1)
                have HFL5 := hide hFL5
                have HFB5 := hide hFB5
                have HL5 := hide hl5
                have HBL5 := hide hbl5
                have hwz : z - 1 + 1 = z := by omega
                clear I5 hs5 hF5 hFL5 hFB5 hl5 hbl5 hlen5 hms h6
                go_wp2_with fail
                go_roundg (nm - (i + 1))
                case measure => have := hg.out; omega
                case rel => exact ⟨i + 1, F5, best5, vb5, least5, by omega, rfl, by go_num, HF5, HFL5, HFB5, HS5, HL5, HBL5, I6⟩
            · have hd : (List.range nm).drop i = [] := List.drop_eq_nil_of_le (by simp; omega)
              have HE := hide (show (best', least') = srch gs cs nm (r + 1) (F.take k) more cost (best, least) by rw [HS.out, hd]; rfl)
              have hni : ¬ ((i : Int) < (more.length : Int)) := by omega
              clear hd
              go_wp2_with fail
              go_end0
              first | exact ⟨rfl, F', best', vb', least', HTK.out, HFL2.out, HFB2.out, HE.out, HLE2.out, HBL2.out, HIR.out⟩ | exact ⟨rfl, F', HTK.out, HFL2.out, HFB2.out, best', vb', least', HE.out, HLE2.out, HBL2.out, HIR.out⟩ | exact ⟨rfl, F', HTK.out, HFL2.out, HFB2.out, best', ⟨vb', least', HE.out, HLE2.out, HBL2.out, HIR.out⟩⟩ | (refine ⟨rfl, F', HTK.out, HFL2.out, HFB2.out, best', vb', least', ?_⟩; trace_state)
end Go.Proofs.Ytklfjekpeoigoaa
namespace Go.Proofs.Ytklfjekpeoigoaa
open Go.RowKit
theorem own_trunc {w : World} {base : Nat} {e : TypeId} {A : Option Addr} {n c k : Nat} {xs : List Value} (h : w.ownsRow base e 1 (.slice A n c) n xs) (hk : k ≤ n) (hn : 0 < n) : w.ownsRow base e 1 (.slice A k c) k (xs.take k) := by
  have hl := h.1
  rcases h.2 with ⟨e0, h0⟩ | ⟨g, cap, cur, e0, hb, hg, hn2, hm, hs, ht⟩
  · omega
  · simp only [Value.slice.injEq] at e0
    obtain ⟨rfl, _, rfl⟩ := e0
    refine ⟨by rw [List.length_take]; omega, .inr ⟨g, c, cur, rfl, hb, hg, by omega, hm, hs, ?_⟩⟩
    rw [← ht, List.take_take, Nat.min_eq_left (by omega), Nat.mul_one]
/-- The reference's search in memory. -/
structure SwI (w0 : World) (gp gm cm : Nat) (Ac Ag : Option Addr) (cc cg : Nat) (cs : List TN) (gs : List Int) (w : World) (more tk best : List Int) (vt vb : Value) (least : Int) : Prop where
  box : BoxN w gp #[.slice Ac cs.length cc, .slice (some ⟨gm, 0, none⟩) more.length cm, .slice Ag gs.length cg, vt, vb, .int .i64 least] 139
  rm : w.ownsRow w0.heap.size 2 1 (.slice (some ⟨gm, 0, none⟩) more.length cm) more.length (more.map (Value.int .i64))
  rt : w.ownsRow w0.heap.size 2 1 vt tk.length (tk.map (Value.int .i64))
  rb : w.ownsRow w0.heap.size 2 1 vb best.length (best.map (Value.int .i64))
  rg : w.ownsRow w0.heap.size 2 1 (.slice Ag gs.length cg) gs.length (gs.map (Value.int .i64))
  hc : RN 0 w0 w0.heap.size Ac cs
  bel : Below w0.heap.size w0 w
  np : w0.heap.size ≤ gp ∧ gp ≠ gm
  nt : vt.ownBlock ≠ some gp ∧ vt.ownBlock ≠ some gm
  nb : vb.ownBlock ≠ some gp ∧ vb.ownBlock ≠ some gm ∧ ∀ g, vt.ownBlock = some g → vb.ownBlock ≠ some g
  ng : (Value.slice Ag gs.length cg).ownBlock ≠ some gp ∧ (Value.slice Ag gs.length cg).ownBlock ≠ some gm ∧ ∀ g, vt.ownBlock = some g → (Value.slice Ag gs.length cg).ownBlock ≠ some g
section
variable {w0 : World} {gp gm cm : Nat} {Ac Ag : Option Addr} {cc cg : Nat} {cs : List TN} {gs : List Int} {w w' : World} {more tk best : List Int} {vt vb : Value} {least : Int}
theorem SwI.below (h : SwI w0 gp gm cm Ac Ag cc cg cs gs w more tk best vt vb least) (k : Below w.heap.size w w') : SwI w0 gp gm cm Ac Ag cc cg cs gs w' more tk best vt vb least :=
  ⟨h.box.below k h.box.lt, own_below h.rm k (Nat.le_refl _), own_below h.rt k (Nat.le_refl _), own_below h.rb k (Nat.le_refl _), own_below h.rg k (Nat.le_refl _), h.hc, h.bel.trans (k.mono h.bel.size), h.np, h.nt, h.nb, h.ng⟩
theorem SwI.setm (h : SwI w0 gp gm cm Ac Ag cc cg cs gs w more tk best vt vb least) (j : Nat) (z : Int) : SwI w0 gp gm cm Ac Ag cc cg cs gs (w.setCell ⟨gm, j, none⟩ (.int .i64 z)) (more.set j z) tk best vt vb least := by
  have hg := grown_setCell w ⟨gm, j, none⟩ (.int .i64 z)
  have hlm := (h.rm.lt gm rfl).1
  refine ⟨by rw [List.length_set]; exact h.box.other (fun e => h.np.2 e.symm) j _, ?_, h.rt.kept hg (.inr h.nt.2), h.rb.kept hg (.inr h.nb.2.1), h.rg.kept hg (.inr h.ng.2.1), h.hc, h.bel.setCell hlm _, h.np, h.nt, h.nb, h.ng⟩
  have h1 := (h.rm.stored j (.int .i64 z)).1
  rw [← List.map_set] at h1
  rw [List.length_set]; exact h1
/-- A store into the box: the rows stay. -/
theorem SwI.rows (h : SwI w0 gp gm cm Ac Ag cc cg cs gs w more tk best vt vb least) (j : Nat) (v : Value) :
    (w.setCell ⟨gp, j, none⟩ v).ownsRow w0.heap.size 2 1 (.slice (some ⟨gm, 0, none⟩) more.length cm) more.length (more.map (Value.int .i64)) ∧ (w.setCell ⟨gp, j, none⟩ v).ownsRow w0.heap.size 2 1 vt tk.length (tk.map (Value.int .i64)) ∧ (w.setCell ⟨gp, j, none⟩ v).ownsRow w0.heap.size 2 1 vb best.length (best.map (Value.int .i64)) ∧ (w.setCell ⟨gp, j, none⟩ v).ownsRow w0.heap.size 2 1 (.slice Ag gs.length cg) gs.length (gs.map (Value.int .i64)) := by
  have hg := grown_setCell w ⟨gp, j, none⟩ v
  exact ⟨h.rm.kept hg (.inr (fun e => h.np.2 (Option.some.inj e).symm)), h.rt.kept hg (.inr h.nt.1), h.rb.kept hg (.inr h.nb.1), h.rg.kept hg (.inr h.ng.1)⟩
theorem SwI.setl (h : SwI w0 gp gm cm Ac Ag cc cg cs gs w more tk best vt vb least) (l2 : Int) : SwI w0 gp gm cm Ac Ag cc cg cs gs (w.setCell ⟨gp, 5, none⟩ (.int .i64 l2)) more tk best vt vb l2 := by
  obtain ⟨r1, r2, r3, r4⟩ := h.rows 5 (.int .i64 l2)
  exact ⟨h.box.set 5 (.int .i64 l2), r1, r2, r3, r4, h.hc, h.bel.setCell h.np.1 _, h.np, h.nt, h.nb, h.ng⟩
theorem SwI.setb (h : SwI w0 gp gm cm Ac Ag cc cg cs gs w more tk best vt vb least) {v2 : Value} {b2 : List Int} (hr : w.ownsRow w0.heap.size 2 1 v2 b2.length (b2.map (Value.int .i64))) (hn : v2.ownBlock ≠ some gp ∧ v2.ownBlock ≠ some gm ∧ ∀ g, vt.ownBlock = some g → v2.ownBlock ≠ some g) : SwI w0 gp gm cm Ac Ag cc cg cs gs (w.setCell ⟨gp, 4, none⟩ v2) more tk b2 vt v2 least := by
  obtain ⟨r1, r2, r3, r4⟩ := h.rows 4 v2
  exact ⟨h.box.set 4 v2, r1, r2, hr.kept (grown_setCell w ⟨gp, 4, none⟩ v2) (.inr hn.1), r4, h.hc, h.bel.setCell h.np.1 _, h.np, h.nt, hn, h.ng⟩
/-- Behind an append to what is taken and the store of the new slice. -/
theorem SwI.push (h : SwI w0 gp gm cm Ac Ag cc cg cs gs w more tk best vt vb least) {w5 : World} {v' : Value} {i : Int} (hown : w5.ownsRow w0.heap.size 2 1 v' (tk.length + 1) (tk.map (Value.int .i64) ++ [.int .i64 i])) (hg : w.grownBy w5 vt.ownBlock) (hat : v'.ownBlock = vt.ownBlock ∨ v'.ownBlock = some w.heap.size) :
    SwI w0 gp gm cm Ac Ag cc cg cs gs (w5.setCell ⟨gp, 3, none⟩ v') more (tk ++ [i]) best v' vb least := by
  have hbx : BoxN w5 gp _ _ := (hg.block gp h.box.lt (fun e => h.nt.1 e.symm)).trans h.box
  have lt_of : ∀ {v : Value} {n : Nat} {xs : List Value}, w.ownsRow w0.heap.size 2 1 v n xs → v.ownBlock ≠ some w.heap.size := fun hr e => by have := (hr.lt _ e).2; omega
  have hne : v'.ownBlock ≠ some gp ∧ v'.ownBlock ≠ some gm := by
    rcases hat with h1 | h1
    · rw [h1]; exact h.nt
    · rw [h1]; exact ⟨fun e => by have := h.box.lt; have := Option.some.inj e; omega, fun e => by have := (h.rm.lt gm rfl).2; have := Option.some.inj e; omega⟩
  have key : ∀ {v : Value} {n : Nat} {xs : List Value}, w.ownsRow w0.heap.size 2 1 v n xs → v.ownBlock ≠ some gp → (∀ g, vt.ownBlock = some g → v.ownBlock ≠ some g) → (w5.setCell ⟨gp, 3, none⟩ v').ownsRow w0.heap.size 2 1 v n xs := fun {v n xs} hr h1 h2 => by
    refine (hr.kept hg ?_).kept (grown_setCell w5 ⟨gp, 3, none⟩ v') (.inr h1)
    cases hv : v.ownBlock with
    | none => exact .inl rfl
    | some g => exact .inr (fun e => h2 g e.symm hv)
  have far : ∀ {v : Value} {n : Nat} {xs : List Value}, w.ownsRow w0.heap.size 2 1 v n xs → (∀ g, vt.ownBlock = some g → v.ownBlock ≠ some g) → ∀ g, v'.ownBlock = some g → v.ownBlock ≠ some g := fun {v n xs} hr h2 g e => by
    rcases hat with h1 | h1
    · exact h2 g (h1.symm.trans e)
    · rw [h1] at e; rw [← Option.some.inj e]; exact lt_of hr
  refine ⟨hbx.set 3 v', key h.rm (fun e => h.np.2 (Option.some.inj e).symm) (fun g e e2 => h.nt.2 (e.trans e2.symm)), ?_, key h.rb h.nb.1 h.nb.2.2, key h.rg h.ng.1 h.ng.2.2, h.hc, ?_, h.np, hne, ⟨h.nb.1, h.nb.2.1, far h.rb h.nb.2.2⟩, ⟨h.ng.1, h.ng.2.1, far h.rg h.ng.2.2⟩⟩
  · have h1 := hown.kept (grown_setCell w5 ⟨gp, 3, none⟩ v') (.inr hne.1)
    rw [List.length_append, List.map_append]; exact h1
  · exact (app_below h.bel h.rt hg (Nat.le_refl _) h.bel.size).setCell h.np.1 _
/-- Behind the cut of what is taken. -/
theorem SwI.pop {A : Option Addr} {n c : Nat} (h : SwI w0 gp gm cm Ac Ag cc cg cs gs w more tk best (.slice A n c) vb least) {k : Nat} (hk : k < tk.length) (hn : n = tk.length) : SwI w0 gp gm cm Ac Ag cc cg cs gs (w.setCell ⟨gp, 3, none⟩ (.slice A k c)) more (tk.take k) best (.slice A k c) vb least := by
  obtain ⟨r1, r2, r3, r4⟩ := h.rows 3 (.slice A k c)
  have hob : (Value.slice A k c).ownBlock = (Value.slice A n c).ownBlock := by cases A <;> rfl
  refine ⟨h.box.set 3 (.slice A k c), r1, ?_, r3, r4, h.hc, h.bel.setCell h.np.1 _, h.np, by rw [hob]; exact h.nt, by rw [hob]; exact h.nb, by rw [hob]; exact h.ng⟩
  subst hn
  have h1 := own_trunc r2 (k := k) (by omega) (by omega)
  rw [List.length_take, Nat.min_eq_left (by omega), List.map_take]
  exact h1
end
end Go.Proofs.Ytklfjekpeoigoaa
namespace Go.Proofs.Ytklfjekpeoigoaa
open Go.RowKit

theorem small_drawn {n : Nat} : ∀ {l : List TN}, (∀ e ∈ l, WDrawn n e) → (l.map fun e => e.way.length).sum ≤ 4 * l.length := by
  intro l
  induction l with
  | nil => intro _; simp
  | cons e l ih =>
    intro h
    rw [List.map_cons, List.sum_cons, List.length_cons]
    have h1 := (h e (List.mem_cons_self ..)).1.1.2
    have h2 := ih fun x hx => h x (List.mem_cons_of_mem _ hx)
    omega
theorem below_of_src {w w1 w2 : World} (h : Below w.heap.size w w1) (k : Only w.heap.size (w.heap.size + 1) w1 w2) : Below w.heap.size w w2 := h.trans (k.below (Nat.le_refl _) h.size)
set_option maxRecDepth 100000 in
set_option maxHeartbeats 1000000 in
theorem a2Long_any (n m : Nat) (A A2 : Option Addr) (c c2 : Nat) (w : World) (hn : n ≤ 9223372036854775807) (hm : m ≤ 9223372036854775807) :
    Calls Try.prog 42 #[.slice A n c, .slice A2 m c2] w fun e w' => e = .returned (.bool (decide (3000 < n ∨ 3000 < m))) ∧ w = w' := by
  by_cases h1 : 3000 < n
  · have hR : decide (3000 < n ∨ 3000 < m) = true := decide_eq_true (.inl h1)
    have HR := hide hR
    have h1' : (3000 : Int) < (n : Int) := by omega
    clear hR
    go_enter Try.func42, Try.ntmps42
    go_wp2_with fail
    go_ret
    exact ⟨ret_b HR.out.symm, rfl⟩
  by_cases h2 : 3000 < m
  · have hR : decide (3000 < n ∨ 3000 < m) = true := decide_eq_true (.inr h2)
    have HR := hide hR
    have h1' : decide ((3000 : Int) < (n : Int)) = false := decide_eq_false (by omega)
    have h2' : decide ((3000 : Int) < (m : Int)) = true := decide_eq_true (by omega)
    clear hR
    go_enter Try.func42, Try.ntmps42
    go_wp2_with fail
    go_ret
    exact ⟨ret_b HR.out.symm, rfl⟩
  · have hR : decide (3000 < n ∨ 3000 < m) = false := decide_eq_false (by omega)
    have HR := hide hR
    have h1' : decide ((3000 : Int) < (n : Int)) = false := decide_eq_false (by omega)
    have h2' : decide ((3000 : Int) < (m : Int)) = false := decide_eq_false (by omega)
    clear hR
    go_enter Try.func42, Try.ntmps42
    go_wp2_with fail
    go_ret
    exact ⟨ret_b HR.out.symm, rfl⟩
set_option maxRecDepth 100000 in
set_option maxHeartbeats 4000000 in
theorem a2Has_any (xs : List Int) (v : Int) (A : Option Addr) (c : Nat) (w : World) (hx : xs.length ≤ 1048576) (h1 : RdI w w.heap.size A xs) :
    Calls Try.prog 60 #[.slice A xs.length c, .int .i64 v] w fun e w' => e = .returned (.bool (hasI xs v)) ∧ w = w' := by
  have HX := hide h1; clear h1
  go_enter Try.func60, Try.ntmps60
  go_wp2_with fail
  go_loopg [5] xs.length (fun g i wr => ∃ k : Nat, k ≤ xs.length ∧ Hid (g = xs.length - k) ∧ i = .int .i64 k ∧ Hid (hasI xs v = hasI (xs.drop k) v) ∧ w = wr)
  case atStart => exact ⟨0, by omega, by simp [Hid], rfl, by simp [Hid], rfl⟩
  case round =>
    obtain ⟨k, hk, hg, rfl, HS, rfl⟩ := hrel
    by_cases hlt : k < xs.length
    · obtain ⟨b1, o1, z1, rfl, _, hz1, hca⟩ := HX.out.at_ hlt
      have HS' := HS.out
      rw [drop_cons hz1, hasI, hasI, List.any_cons] at HS'
      have HQ : Hid (hasI xs v = (decide (z1 = v) || hasI (xs.drop (k + 1)) v)) := HS'
      clear HS' HS hz1
      by_cases he : z1 = v
      · have hB : (z1 == v) = true := by simp [he]
        have HN := hide (show hasI xs v = true by rw [HQ.out, decide_eq_true he]; rfl)
        clear he
        go_wp2_with fail
        go_ret
        exact ⟨ret_b HN.out.symm, rfl⟩
      · have hB : (z1 == v) = false := by simp [he]
        have HN := hide (show hasI xs v = hasI (xs.drop (k + 1)) v by rw [HQ.out, decide_eq_false he]; rfl)
        clear he
        go_wp2_with fail
        go_roundg (xs.length - (k + 1))
        case measure => have := hg.out; omega
        case rel => exact ⟨k + 1, by omega, rfl, by go_num, HN, rfl⟩
    · have HN := hide (show hasI xs v = false by rw [HS.out, List.drop_eq_nil_of_le (by omega)]; rfl)
      go_wp2_with fail
      go_ret
      exact ⟨ret_b HN.out.symm, rfl⟩
end Go.Proofs.Ytklfjekpeoigoaa
namespace Go.Proofs.Ytklfjekpeoigoaa
open Go.RowKit

/-- A drawn run, for n tubes. -/
def RDrawn (n : Nat) (e : TN) : Prop := ((1 ≤ e.way.length ∧ e.way.length ≤ 4) ∧ ∀ z ∈ e.way, 0 ≤ z ∧ z ≤ (n : Int) - 1) ∧ (0 ≤ e.p ∧ e.p ≤ 49) ∧ e.q = 0
theorem small_runs {n : Nat} : ∀ {l : List TN}, (∀ e ∈ l, RDrawn n e) → (l.map fun e => e.way.length).sum ≤ 4 * l.length := by
  intro l
  induction l with
  | nil => intro _; simp
  | cons e l ih =>
    intro h
    rw [List.map_cons, List.sum_cons, List.length_cons]
    have h1 := (h e (List.mem_cons_self ..)).1.1.2
    have h2 := ih fun x hx => h x (List.mem_cons_of_mem _ hx)
    omega
end Go.Proofs.Ytklfjekpeoigoaa
namespace Go.Proofs.Ytklfjekpeoigoaa
open Go.RowKit

/-- The spans of a run of a list. -/
def spansR (ts : List Int) (e : TN) : List T3 := spGo ts e.p e.way
def takenOf (ts : List Int) (x : List TN) : List T3 := x.flatMap (spansR ts)
def OkPlan (ts : List Int) (x : List TN) : Prop := x.length ≤ 12 ∧ ∀ e ∈ x, OkWay ts e.way ∧ 0 ≤ e.p ∧ e.p ≤ 1000000
theorem tm_get {ts : List Int} {n : Nat} {z : Int} (h : ts[n]? = some z) : tmOf ts (n : Int) = z := by simp [tmOf, h]
theorem spGo_drop {ts way : List Int} {k : Nat} {t : Int} (h : way[k]? = some t) (f : Int) : spGo ts f (way.drop k) = ⟨t, f, f + tmOf ts t⟩ :: spGo ts (f + tmOf ts t) (way.drop (k + 1)) := by rw [drop_cons h, spGo]
theorem taken_bd {ts : List Int} (hts : OkTimes ts) {x : List TN} (h : OkPlan ts x) : ∀ o ∈ takenOf ts x, 0 ≤ o.b ∧ o.b < o.c ∧ o.c ≤ 1012000 := by
  intro o ho
  obtain ⟨e, he, hoe⟩ := List.mem_flatMap.1 ho
  obtain ⟨⟨h1, h2⟩, h3, h4⟩ := h.2 e he
  have := spGo_ge hts h2 o hoe
  omega
theorem taken_len {ts : List Int} {x : List TN} (h : ∀ e ∈ x, e.way.length ≤ 12) : (takenOf ts x).length ≤ 12 * x.length := by
  unfold takenOf
  induction x with
  | nil => simp
  | cons e x ih =>
    rw [List.flatMap_cons, List.length_append, List.length_cons]
    have h1 := h e (List.mem_cons_self ..)
    have h2 := ih fun d hd => h d (List.mem_cons_of_mem _ hd)
    have h3 : (spansR ts e).length = e.way.length := spGo_len _ _ _
    omega
theorem waitIn_drop {s : T3} {tk : List T3} {j : Nat} {o : T3} {w : Int} (h : tk[j]? = some o) : waitIn s (tk.drop j) w = waitIn s (tk.drop (j + 1)) (if meet s o then max w (o.c - s.b) else w) := by rw [drop_cons h, waitIn]
theorem waitOf_drop {tk ss : List T3} {j : Nat} {s : T3} {w : Int} (h : ss[j]? = some s) : waitOf tk (ss.drop j) w = waitOf tk (ss.drop (j + 1)) (waitIn s tk w) := by rw [drop_cons h, waitOf]
theorem lastC_bd {ts : List Int} (hts : OkTimes ts) {x : List TN} (h : OkPlan ts x) {f : Int} (hf : f ≤ 1000000) : lastC (takenOf ts x) f ≤ 1012000 := by
  rcases (lastC_spec (takenOf ts x) f).2.2 with h1 | ⟨o, ho, h1⟩
  · omega
  · have := taken_bd hts h o ho; omega
end Go.Proofs.Ytklfjekpeoigoaa
namespace Go.Proofs.Ytklfjekpeoigoaa
open Go.RowKit

def spTN (s : T3) : TN := ⟨[s.a, s.b, s.c], 0, 0⟩
theorem spans_at {w : World} {B : Nat} {A : Option Addr} {ss : List T3} (h : RN 0 w B A (ss.map spTN)) {k : Nat} (hk : k < ss.length) : ∃ b o s b' o' c', A = some ⟨b, o, none⟩ ∧ b < B ∧ b' < B ∧ ss[k]? = some s ∧ w.cell? ⟨b, o + k, none⟩ = some (.slice (some ⟨b', o', none⟩) 3 c') ∧
    w.cell? ⟨b', o', none⟩ = some (.int .i64 s.a) ∧ w.cell? ⟨b', o' + 1, none⟩ = some (.int .i64 s.b) ∧ w.cell? ⟨b', o' + 2, none⟩ = some (.int .i64 s.c) := by
  obtain ⟨b, o, e, Aw, cw, hA, hb, he, hr, hc, _, _⟩ := h.at_ (by omega) (k := k) (by simpa using hk)
  rw [List.getElem?_map, List.getElem?_eq_getElem hk] at he
  have he' := Option.some.inj he
  subst he'
  obtain ⟨b', o', z0, hA', hb', h0, g0⟩ := hr.at_ (k := 0) (by simp [spTN])
  obtain ⟨_, _, z1, hA1, _, h1, g1⟩ := hr.at_ (k := 1) (by simp [spTN])
  obtain ⟨_, _, z2, hA2, _, h2, g2⟩ := hr.at_ (k := 2) (by simp [spTN])
  subst hA'
  cases hA1; cases hA2
  simp only [spTN, List.getElem?_cons_zero, List.getElem?_cons_succ, Option.some.injEq] at h0 h1 h2
  subst h0 h1 h2
  exact ⟨b, o, ss[k], b', o', cw, hA, hb, hb', List.getElem?_eq_getElem hk, by rw [show o + k = o + k * (0 + 1) by omega]; exact hc, g0, g1, g2⟩
theorem sp_small {ss : List T3} (h : ss.length ≤ 1000) : SmallN (ss.map spTN) := by
  unfold SmallN
  rw [List.length_map, List.map_map]
  have : (ss.map ((fun e : TN => e.way.length) ∘ spTN)).sum = 3 * ss.length := by
    clear h
    induction ss with
    | nil => rfl
    | cons s ss ih => rw [List.map_cons, List.sum_cons, List.length_cons, ih]; simp [spTN]; omega
  rw [this]; omega
theorem sp_get {ts way : List Int} {f : Int} {k : Nat} (h : k < (spGo ts f way).length) : ∃ s, (spGo ts f way)[k]? = some s := ⟨_, List.getElem?_eq_getElem h⟩
def meetAt (ss tt : List T3) : Int := firstI (fun s => tt.any (meet s)) ss 0
end Go.Proofs.Ytklfjekpeoigoaa
namespace Go.Proofs.Ytklfjekpeoigoaa
open Go.RowKit

set_option maxRecDepth 100000 in
set_option maxHeartbeats 4000000 in
theorem a2At_any (bs : List Int) (A : Option Addr) (c : Nat) (k : Nat) (n : Int) (w : World) (hbs : BsOk bs) (h1 : RdB w w.heap.size A bs) :
    Calls Try.prog 45 #[.slice A bs.length c, .int .i64 k, .int .i64 n] w fun e w' => ∃ z, e = .returned (.int .i64 z) ∧ (0 ≤ z ∧ (1 ≤ n → z < n)) ∧ w = w' := by
  by_cases hk : k < bs.length
  · by_cases hn : n < 1
    · have hkl : decide ((bs.length : Int) ≤ (k : Int)) = false := decide_eq_false (by omega)
      have hkn : decide (bs.length ≤ k) = false := decide_eq_false (by omega)
      clear h1
      go_enter Try.func45, Try.ntmps45
      go_wp2_with fail
      go_ret
      exact ⟨0, rfl, ⟨by omega, by omega⟩, rfl⟩
    · obtain ⟨b1, o1, z, rfl, _, hz, hc⟩ := h1.at_ hk
      obtain ⟨hz0, hz1⟩ := hbs.2 z (List.mem_of_getElem? hz)
      have hkl : decide ((bs.length : Int) ≤ (k : Int)) = false := decide_eq_false (by omega)
      have hkn : decide (bs.length ≤ k) = false := decide_eq_false (by omega)
      have hki : (k : Int) < bs.length := by omega
      have hk0 : (0 : Int) ≤ (k : Int) := by omega
      clear h1 hz
      go_enter Try.func45, Try.ntmps45
      go_wp2_with fail
      have hm0 := Int.emod_nonneg z (show n ≠ 0 by omega)
      have hm1 := Int.emod_lt_of_pos z (show 0 < n by omega)
      go_ret
      exact ⟨z % n, rfl, ⟨hm0, by first | exact hm1 | exact fun _ => hm1⟩, rfl⟩
  · have hkl : decide ((bs.length : Int) ≤ (k : Int)) = true := decide_eq_true (by omega)
    have hkn : decide (bs.length ≤ k) = true := decide_eq_true (by omega)
    clear h1
    go_enter Try.func45, Try.ntmps45
    go_wp2_with fail
    go_ret
    exact ⟨0, rfl, ⟨by omega, by omega⟩, rfl⟩
end Go.Proofs.Ytklfjekpeoigoaa
namespace Go.Proofs.Ytklfjekpeoigoaa
open Go.RowKit

def aloneB (ts : List Int) (ss : List T3) (x : List TN) : Bool := x.all fun e => !(ss.any fun s => (spGo ts e.p e.way).any (meet s))
theorem alone_fits (ts : List Int) (x : List TN) (way : List Int) (f : Int) : aloneB ts (spGo ts f way) x = fits ts (takenOf ts x) way f := by
  rw [Bool.eq_iff_iff, fits_iff]
  unfold aloneB takenOf
  simp only [List.all_eq_true, Bool.not_eq_true', List.any_eq_false, List.mem_flatMap, spansR]
  constructor
  · rintro h s hs o ⟨e, he, ho⟩
    have := h e he s hs
    simp only [Bool.not_eq_true, List.any_eq_false] at this
    simpa using this o ho
  · intro h e he s hs
    simp only [Bool.not_eq_true, List.any_eq_false]
    intro o ho
    simpa using h s hs o ⟨e, he, ho⟩
end Go.Proofs.Ytklfjekpeoigoaa
namespace Go.Proofs.Ytklfjekpeoigoaa
open Go.RowKit

theorem meetAt_ge (ss tt : List T3) : decide (0 ≤ meetAt ss tt) = ss.any fun s => tt.any (meet s) := firstI_ge _ _ _
theorem fits_runs (ts way : List Int) (x : List TN) (f : Int) : fits ts (takenOf ts x) way f = x.all fun e => !decide (0 ≤ meetAt (spGo ts f way) (spansR ts e)) := by
  rw [Bool.eq_iff_iff, fits_iff, List.all_eq_true]
  constructor
  · intro h e he
    rw [meetAt_ge]
    simp only [Bool.not_eq_true']
    refine Bool.eq_false_iff.2 fun hc => ?_
    obtain ⟨s, hs, hs2⟩ := List.any_eq_true.1 hc
    obtain ⟨o, ho, ho2⟩ := List.any_eq_true.1 hs2
    have := h s hs o (List.mem_flatMap.2 ⟨e, he, ho⟩)
    rw [this] at ho2; cases ho2
  · intro h s hs o ho
    obtain ⟨e, he, hoe⟩ := List.mem_flatMap.1 ho
    have h2 := h e he
    rw [meetAt_ge] at h2
    cases hm : meet s o
    · rfl
    · rw [show (spGo ts f way).any (fun s => (spansR ts e).any (meet s)) = true from List.any_eq_true.2 ⟨s, hs, List.any_eq_true.2 ⟨o, hoe, hm⟩⟩] at h2
      cases h2
theorem candJ_drop {ts way : List Int} {o : T3} {j : Nat} {t bf : Int} (h : way[j]? = some t) : candJ ts o bf (way.drop j) = if t = o.a then (o.c - bf) :: candJ ts o (bf + tmOf ts t) (way.drop (j + 1)) else candJ ts o (bf + tmOf ts t) (way.drop (j + 1)) := by rw [drop_cons h, candJ]
def cands (ts way : List Int) (tk : List T3) : List Int := tk.flatMap fun o => candJ ts o 0 way
theorem cands_run (ts way : List Int) (z : TN) (l : List TN) : cands ts way (takenOf ts (z :: l)) = cands ts way (spGo ts z.p z.way) ++ cands ts way (takenOf ts l) := by
  unfold cands takenOf
  rw [List.flatMap_cons, List.flatMap_append]; rfl
theorem cands_cons (ts way : List Int) (s : T3) (ss : List T3) : cands ts way (s :: ss) = candJ ts s 0 way ++ cands ts way ss := by
  unfold cands
  rw [List.flatMap_cons]
end Go.Proofs.Ytklfjekpeoigoaa
