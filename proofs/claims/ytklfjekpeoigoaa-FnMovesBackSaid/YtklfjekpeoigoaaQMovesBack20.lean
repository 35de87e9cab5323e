/-
  BestMoves of the program: the first of the cheapest moves.
  The reference's search while its rows are made. Plain lemmas.
-/
import Derived.Test.YtklfjekpeoigoaaQMovesBack17
namespace Go.Proofs.Ytklfjekpeoigoaa
open Go.RowKit
set_option maxRecDepth 100000 in
set_option maxHeartbeats 8000000 in
theorem P_BestMoves (st : List Int) (v : Value) (wa : List Int) (u : Value) (cs : List TN) (x : Value) (w : World) (h0 : st.length ≤ 1048576) (_ : ∀ z ∈ st, -9223372036854775808 ≤ z ∧ z ≤ 9223372036854775807) (h : R_Int64S w w.heap.size v st) (hs : wa.length ≤ 1048576) (_ : ∀ z ∈ wa, -9223372036854775808 ≤ z ∧ z ≤ 9223372036854775807) (k : R_Int64S w w.heap.size u wa) (hsn : SmallN cs) (_ : ∀ e ∈ cs, e.Fits) (q : R_Int64SS w w.heap.size x cs) :
    Calls Try.prog 15 #[v, u, x] w fun e w' => ∃ r, e = .returned (.tuple #[r, .int .i64 (bestMoves st wa cs).1.2, .int .i64 (bestMoves st wa cs).2]) ∧ O_MoveS w' w.heap.size w'.heap.size r (bestMoves st wa cs).1.1 ∧ Below w.heap.size w w' := by
  obtain ⟨A, c, rfl, h1⟩ := h
  obtain ⟨A2, c2, rfl, h2⟩ := k
  obtain ⟨A5, c5, rfl, h5⟩ := q
  have HC := hide (wantsCode_any st wa A c A2 c2 w h0 hs h1 h2)
  have HK := hide fun W (hW : Below w.heap.size w W) => areCosts_any (st.length : Int) cs A5 c5 W hsn ((h5.below hW).more hW.size)
  by_cases hcd : codeWa st wa = 0
  case neg =>
    have HR := hide (show bestMoves st wa cs = (([], 0), codeWa st wa) by unfold bestMoves; exact if_pos hcd)
    have hne : (codeWa st wa != 0) = true := by simp [hcd]
    have hnq : (codeWa st wa == 0) = false := by simp [hcd]
    clear h1 h2 h5
    generalize codeWa st wa = cd at *
    go_enter Try.func15, Try.ntmps15
    go_wp2_with (go_at_call 124; refine (HC.out).mono ?_; rintro e w1 ⟨rfl, hb1⟩)
    go_ret3
    exact ⟨_, by rw [HR.out]; rfl, by rw [HR.out]; exact O_MoveS.nil _ _ _ _ _, hb1⟩
  obtain ⟨hv, hwl, hwb⟩ := codeWa_ok hcd
  have HBL := hide fun W (hW : Below w.heap.size w W) => balance_any st wa A c A2 c2 W hcd ((h1.below hW).more hW.size) ((h2.below hW).more hW.size)
  have HS1 := hide fun W (hW : Below w.heap.size w W) => sumOf_any st A c W h0 (sum_bd (stock_bd hv)) ((h1.below hW).more hW.size)
  have HS2 := hide fun W (hW : Below w.heap.size w W) => sumOf_any wa A2 c2 W hs (sum_bd hwb) ((h2.below hW).more hW.size)
  have HR0 := hide (show bestMoves st wa cs = if vCosts st.length cs = false then (([], 0), 2) else if st.sum < wa.sum then (([], 0), 5) else if 6 < (shGo st wa).sum then (([], 0), 6) else ((mvGo [] (srch (goalsGo 0 (shGo st wa)) cs st.length (goalsGo 0 (shGo st wa)).length [] (moGo st wa) 0 ([], -1)).1 (goalsGo 0 (shGo st wa)), (srch (goalsGo 0 (shGo st wa)) cs st.length (goalsGo 0 (shGo st wa)).length [] (moGo st wa) 0 ([], -1)).2), 0) by unfold bestMoves; rw [if_neg (by simp [hcd])])
  rw [hcd] at HC
  cases hvc : vCosts st.length cs
  · have HR := hide (HR0.out.trans (if_pos hvc))
    rw [hvc] at HK
    clear hcd hv hwl hwb HBL h1 h2 h5 hvc HS1 HS2 HR0
    go_enter Try.func15, Try.ntmps15
    go_wp2_with (first | (go_at_call 124; refine (HC.out).mono ?_; rintro e w1 ⟨rfl, hb1⟩) | (go_at_call 125; (with_reducible refine (HK.out _ hb1).mono ?_); rintro e w2 ⟨rfl, hb2⟩))
    go_ret3
    exact ⟨_, by rw [HR.out]; rfl, by rw [HR.out]; exact O_MoveS.nil _ _ _ _ _, hb1.trans (hb2.mono hb1.size)⟩
  have HR1 := hide (HR0.out.trans (if_neg (by rw [hvc]; simp)))
  rw [hvc] at HK
  have HSB := hide (sh_bd (stock_bd hv) hwb)
  have HMB := hide (mo_bd (stock_bd hv) hwb)
  have hl2 := (stOk_of hv).2.1
  have hl10 := (stOk_of hv).2.2
  have HSL := hide (shGo_len hwl)
  have HML := hide (moGo_len hwl)
  have HNS : Hid (∀ z ∈ shGo st wa, 0 ≤ z) := sh_nn
  have HVC := hide (vCosts_iff.1 hvc)
  have HX := hide h5
  clear hcd hv hwl hwb h1 h2 h5 hvc HR0
  by_cases hsum : st.sum < wa.sum
  · have HR := hide (HR1.out.trans (if_pos hsum))
    generalize st.sum = ss at *
    generalize wa.sum = sw at *
    have hB : decide (ss < sw) = true := decide_eq_true hsum
    clear HSL HML HNS HSB HMB HVC HX
    generalize shGo st wa = sh at *
    generalize moGo st wa = mo at *
    go_enter Try.func15, Try.ntmps15
    go_wp2_with (first | (go_at_call 124; refine (HC.out).mono ?_; rintro e w1 ⟨rfl, hb1⟩) | (go_at_call 125; (with_reducible refine (HK.out _ hb1).mono ?_); rintro e w2 ⟨rfl, hb2⟩; have hb3 := hb1.trans (hb2.mono hb1.size)) | (go_at_call 126; refine (HBL.out _ hb3).mono ?_; rintro e w4 ⟨A3, c3, A4, c4, rfl, ho3, ho4, hap, hb4⟩; have hb5 := hb3.trans (hb4.mono hb3.size)) | (go_at_call 127; first | ((with_reducible refine (HS2.out _ hb5).mono ?_); rintro e w' ⟨rfl, rfl⟩) | ((with_reducible refine (HS1.out _ hb5).mono ?_); rintro e w' ⟨rfl, rfl⟩)))
    go_ret3
    exact ⟨_, by rw [HR.out]; rfl, by rw [HR.out]; exact O_MoveS.nil _ _ _ _ _, hb5⟩
  have HR2 := hide (HR1.out.trans (if_neg hsum))
  clear HR1
  generalize st.sum = ss at *
  generalize wa.sum = sw at *
  have hB : decide (ss < sw) = false := decide_eq_false hsum
  generalize shGo st wa = sh at *
  generalize moGo st wa = mo at *
  have hshl : sh.length ≤ 10 := by have := HSL.out; omega
  have HS3 := hide fun A3 c3 W (h : RdI W W.heap.size A3 sh) => sumOf_any sh A3 c3 W (by omega) (fun z hz => by have := HSB.out z hz; omega) h
  rw [HSL.out] at HS3
  by_cases hs6 : 6 < sh.sum
  · have HR := hide (HR2.out.trans (if_pos hs6))
    generalize sh.sum = s6 at *
    have hB6 : decide (6 < s6) = true := decide_eq_true hs6
    go_enter Try.func15, Try.ntmps15
    go_wp2_with (first | (go_at_call 124; refine (HC.out).mono ?_; rintro e w1 ⟨rfl, hb1⟩) | (go_at_call 125; (with_reducible refine (HK.out _ hb1).mono ?_); rintro e w2 ⟨rfl, hb2⟩; have hb3 := hb1.trans (hb2.mono hb1.size)) | (go_at_call 126; refine (HBL.out _ hb3).mono ?_; rintro e w4 ⟨A3, c3, A4, c4, rfl, ho3, ho4, hap, hb4⟩; have hb5 := hb3.trans (hb4.mono hb3.size); have hr3 : RdI w4 w4.heap.size A3 sh := Rd.of_own ho3) | (go_at_call 127; first | ((with_reducible refine (HS2.out _ hb5).mono ?_); rintro e w' ⟨rfl, rfl⟩) | ((with_reducible refine (HS1.out _ hb5).mono ?_); rintro e w' ⟨rfl, rfl⟩) | ((with_reducible refine (HS3.out _ _ _ hr3).mono ?_); rintro e w' ⟨rfl, rfl⟩)))
    go_ret3
    exact ⟨_, by rw [HR.out]; rfl, by rw [HR.out]; exact O_MoveS.nil _ _ _ _ _, hb5⟩
  have HR := hide (HR2.out.trans (if_neg hs6))
  have hgl6 := hide (show (goalsGo 0 sh).length ≤ 6 by have := goalsGo_len (k := 0) HNS.out; omega)
  generalize sh.sum = s6 at *
  have hB6 : decide (6 < s6) = false := decide_eq_false hs6
  clear HR2
  obtain ⟨i0, hi0, hz0, hs0, hb0⟩ := info_parts int64_info
  obtain ⟨j0, hj0, hy0, ht0, hc0⟩ := info_parts Move_info2
  go_enter Try.func15, Try.ntmps15
  go_wp2_with (first | (go_at_call 124; refine (HC.out).mono ?_; rintro e w1 ⟨rfl, hb1⟩) | (go_at_call 125; (with_reducible refine (HK.out _ hb1).mono ?_); rintro e w2 ⟨rfl, hb2⟩; have hb3 := hb1.trans (hb2.mono hb1.size)) | (go_at_call 126; refine (HBL.out _ hb3).mono ?_; rintro e w4 ⟨A3, c3, A4, c4, rfl, ho3, ho4, hap, hb4⟩; have hb5 := hb3.trans (hb4.mono hb3.size); have hr3 : RdI w4 w4.heap.size A3 sh := Rd.of_own ho3) | (go_at_call 127; first | ((with_reducible refine (HS2.out _ hb5).mono ?_); rintro e w' ⟨rfl, rfl⟩) | ((with_reducible refine (HS1.out _ hb5).mono ?_); rintro e w' ⟨rfl, rfl⟩) | ((with_reducible refine (HS3.out _ _ _ hr3).mono ?_); rintro e w' ⟨rfl, rfl⟩)))
  obtain ⟨wB, hwB⟩ : ∃ W, W = w4.alloc (.cells #[.slice A5 cs.length c5, .slice none 0 0, .slice A4 st.length c4, .slice none 0 0, .slice none 0 0, .int .i64 (-1)] 146) := ⟨_, rfl⟩
  rw [← hwB]
  have hbx : BoxN wB w4.heap.size #[.slice A5 cs.length c5, .slice none 0 0, .slice A4 st.length c4, .slice none 0 0, .slice none 0 0, .int .i64 (-1)] 146 := by rw [hwB]; exact BoxN.new _ _ _
  have hbB : Below w4.heap.size w4 wB := by rw [hwB]; exact (Below.refl _ _).alloc (Nat.le_refl _) _
  have hgs : wB.heap.size = w4.heap.size + 1 := by rw [hwB]; simp
  have hog : wB.ownsRow (w4.heap.size + 1) 2 1 (.slice none 0 0) ([] : List Int).length (([] : List Int).map (Value.int .i64)) := ⟨rfl, .inl ⟨rfl, rfl⟩⟩
  have hw2s : w.heap.size ≤ w2.heap.size := hb3.size
  clear hwB hr3 hb1 hb2 hb3 hb4 HC HK HBL HS1 HS2 HS3
  have hgp := hb5.size
  go_loopg [55] st.length (fun g iv wr => ∃ (k : Nat) (acc : List Int) (Ag : Option Addr) (cg : Nat), k ≤ st.length ∧ Hid (g = st.length - k) ∧ iv = .int .i64 k ∧ Hid (BoxN wr w4.heap.size #[.slice A5 cs.length c5, .slice Ag acc.length cg, .slice A4 st.length c4, .slice none 0 0, .slice none 0 0, .int .i64 (-1)] 146) ∧ Hid (wr.ownsRow (w4.heap.size + 1) 2 1 (.slice Ag acc.length cg) acc.length (acc.map (Value.int .i64))) ∧ Hid (goalsGo 0 sh = acc ++ goalsGo k (sh.drop k)) ∧ Hid (Below w4.heap.size w4 wr) ∧ Hid (w4.heap.size + 1 ≤ wr.heap.size))
  case atStart => exact ⟨0, [], none, 0, by omega, by simp [Hid], rfl, hbx, hog, rfl, hbB, Nat.le_of_eq hgs.symm⟩
  case round =>
    obtain ⟨k, acc, Ag, cg, hk, hg, rfl, HBX, HOG, HG, HBW, HSZ⟩ := hrel
    clear hbx hbB hog hgs
    by_cases hlt : k < st.length
    · obtain ⟨n, hn⟩ : ∃ z, sh[k]? = some z := ⟨_, List.getElem?_eq_getElem (by rw [HSL.out]; exact hlt)⟩
      have hnb := HSB.out n (List.mem_of_getElem? hn)
      obtain ⟨nn, rfl⟩ := Int.eq_ofNat_of_zero_le hnb.1
      obtain ⟨gs3, rfl, _, _⟩ := own_posN' ho3 (by omega)
      have ho3r := own_below ho3 HBW.out (Nat.le_refl _)
      have c3k : wr.cell? ⟨gs3, k, none⟩ = some (.int .i64 (nn : Int)) := by rw [ho3r.cellAt k (by omega), List.getElem?_map, hn]; rfl
      have hkn : (k : Int) < (st.length : Int) := by omega
      have hk0 : (0 : Int) ≤ (k : Int) := by omega
      have HG1 := hide (show goalsGo 0 sh = acc ++ (List.replicate (nn - 0) (k : Int) ++ goalsGo (k + 1) (sh.drop (k + 1))) by rw [HG.out, goalsGo_at hn]; simp)
      have hnn := hnb.2
      clear hn hnb ho3r HG
      go_wp2_with fail
      go_loopg [61] nn (fun g iv wr => ∃ (j : Nat) (acc : List Int) (Ag : Option Addr) (cg : Nat), j ≤ nn ∧ Hid (g = nn - j) ∧ iv = .int .i64 j ∧ Hid (BoxN wr w4.heap.size #[.slice A5 cs.length c5, .slice Ag acc.length cg, .slice A4 st.length c4, .slice none 0 0, .slice none 0 0, .int .i64 (-1)] 146) ∧ Hid (wr.ownsRow (w4.heap.size + 1) 2 1 (.slice Ag acc.length cg) acc.length (acc.map (Value.int .i64))) ∧ Hid (goalsGo 0 sh = acc ++ (List.replicate (nn - j) (k : Int) ++ goalsGo (k + 1) (sh.drop (k + 1)))) ∧ Hid (Below w4.heap.size w4 wr) ∧ Hid (w4.heap.size + 1 ≤ wr.heap.size))
      case atStart => exact ⟨0, acc, Ag, cg, by omega, by simp [Hid], rfl, HBX, HOG, HG1, HBW, HSZ⟩
      case round =>
        obtain ⟨j, accj, Aj, cj, hj, hgj, rfl, HBXj, HOGj, HGj, HBWj, HSZj⟩ := hrel
        clear HBX HOG HG1 HBW HSZ c3k
        by_cases hjn : j < nn
        · have hal : accj.length < 6 := by
            have h1 := congrArg List.length HGj.out
            have h2 := hgl6.out
            simp only [List.length_append, List.length_replicate] at h1
            omega
          have HGn := hide (HGj.out.trans (rep_step hjn))
          have cg1 : wr.cell? ⟨w4.heap.size, 1, none⟩ = some (.slice Aj accj.length cj) := HBXj.out.cell 1
          have rt1 := HOGj.out
          have hnegp : (Value.slice Aj accj.length cj).ownBlock ≠ some w4.heap.size := fun e => by have := (rt1.lt _ e).1; omega
          have hszw : w4.heap.size + 1 ≤ wr.heap.size := HSZj.out
          have hjj : (j : Int) < (nn : Int) := by omega
          have HBA := hide (HBXj.out.alloc (.cells #[.int .i64 (k : Int)] 2))
          go_wp2_with ((at_builtin; go_must (refine wp_app _ rfl _ _ 22 rfl ((w4.heap.size + 1)) 2 i0 (.int .i64 0) 1 8 Try.underlying22 hi0 hz0 hs0 hb0 rfl (by decide) _ _ _ rfl (rt1.alloc _) _ _ 1 1 [.int .i64 (k : Int)] rfl rfl (rd_new _ _ _ _ (by simp)) (int_one _) (by omega) (by decide) (by simp <;> omega) ?_); intro v3 w3 hown3 hgrow hat); obtain ⟨A9, c9, rfl, hc9, hcm9⟩ := own_shape hown3; have X3 : BoxN w3 w4.heap.size _ _ := (hgrow.block w4.heap.size HBA.out.lt (fun e => hnegp e.symm)).trans HBA.out; have f3 := X3.fro 1; have d3 := X3.cell 1)
          have HX9 := hide (X3.set 1 (.slice A9 (accj.length + 1) c9))
          have hw3s : (wr.alloc (.cells #[.int .i64 (k : Int)] 2)).heap.size ≤ w3.heap.size := hgrow.size
          have hb9 := (app_below (HBWj.out.alloc HBWj.out.size (.cells #[.int .i64 (k : Int)] 2)) (rt1.alloc (.cells #[.int .i64 (k : Int)] 2)) hgrow (by omega) (by simp; omega)).setCell (p := ⟨w4.heap.size, 1, none⟩) (Nat.le_refl _) (.slice A9 (accj.length + 1) c9)
          have ho9 := hown3.kept (grown_setCell w3 ⟨w4.heap.size, 1, none⟩ (.slice A9 (accj.length + 1) c9)) (.inr (fun e => by have h9 : w4.heap.size + 1 ≤ w4.heap.size := (hown3.lt _ e).1; omega))
          have hsz9 : w4.heap.size + 1 ≤ (w3.setCell ⟨w4.heap.size, 1, none⟩ (.slice A9 (accj.length + 1) c9)).heap.size := by simp at hw3s ⊢; omega
          have hl9 : (accj ++ [(k : Int)]).length = accj.length + 1 := by simp
          go_roundg (nn - (j + 1))
          case measure => have := hgj.out; omega
          case rel => exact ⟨j + 1, accj ++ [(k : Int)], A9, c9, by omega, rfl, by go_num, by rw [hl9]; exact HX9.out, by rw [hl9, List.map_append]; exact ho9, HGn, hb9, hsz9⟩
        · obtain rfl : j = nn := by omega
          have HGn := hide (show goalsGo 0 sh = accj ++ goalsGo (k + 1) (sh.drop (k + 1)) by rw [HGj.out, Nat.sub_self]; rfl)
          clear HGj
          go_wp2_with fail
          go_roundg (st.length - (k + 1))
          case measure => have := hg.out; omega
          case rel => exact ⟨k + 1, accj, Aj, cj, by omega, rfl, by go_num, HBXj, HOGj, HGn, HBWj, HSZj⟩
    · obtain rfl : k = st.length := by omega
      have HGE := hide (show goalsGo 0 sh = acc by rw [HG.out, goalsGo_end (by rw [HSL.out]; exact Nat.le_refl _), List.append_nil])
      clear HG
      have hG6 := hgl6.out
      rw [HGE.out] at HR hG6
      have hok : OkS st.length acc cs := by
        refine ⟨hl10, hG6, fun z hz => ?_, by have := HVC.out.1; omega, fun e he => ⟨by have := (HVC.out.2 e he).1; omega, (HVC.out.2 e he).2⟩⟩
        rw [← HGE.out] at hz
        have h1 := goalsGo_bd z hz
        have h2 := HSL.out
        omega
      have hom : OkM st.length mo := ⟨HML.out, HMB.out⟩
      have cg1 : wr.cell? ⟨w4.heap.size, 1, none⟩ = some (.slice Ag acc.length cg) := HBX.out.cell 1
      have hszw : w.heap.size ≤ wr.heap.size := by have := HSZ.out; omega
      clear HGE hgl6 HVC HMB HSB HNS HSL ho3 hg
      have hwz2 : acc.length ≤ 6 := hG6
      go_upto_region 21 with (refine wpList_make_full _ rfl _ _ _ rfl w.heap.size 2 i0 _ 1 Try.underlying22 hi0 hz0 hs0 .i64 .i64 (acc.length : Int) (acc.length : Int) acc.length rfl rfl rfl rfl (by rw [hb0]; omega) (by unfold maxLen; omega) hszw ?_; intro w6 hown6 hgr6; have X6 : BoxN w6 w4.heap.size _ _ := (hgr6.block w4.heap.size HBX.out.lt (by simp)).trans HBX.out; have f3 := X6.fro 3; have d3 := X6.cell 3)
      obtain ⟨gm, rfl, hgm1, hgm2⟩ := own_posN' ho4 (by omega)
      have hw6s : wr.heap.size ≤ w6.heap.size := hgr6.size
      have hb6 : Below w.heap.size w w6 := (hb5.trans (HBW.out.mono hb5.size)).grown hgr6 hszw (by intro k hk; cases hk)
      have hgm : gm ≠ w4.heap.size := by omega
      have hgfm : wr.heap.size ≠ gm := by have := HSZ.out; omega
      have hgfp : wr.heap.size ≠ w4.heap.size := by have := HSZ.out; omega
      have ho4r : w6.ownsRow w.heap.size 2 1 (.slice (some ⟨gm, 0, none⟩) st.length c4) st.length (mo.map (Value.int .i64)) := (own_base (own_below ho4 HBW.out (Nat.le_refl _)) hw2s).kept hgr6 (.inr (fun e => by cases e))
      have hogr : w6.ownsRow (w4.heap.size + 1) 2 1 (.slice Ag acc.length cg) acc.length (acc.map (Value.int .i64)) := HOG.out.kept hgr6 (by cases h9 : (Value.slice Ag acc.length cg).ownBlock <;> simp)
      have hrep : (madeCells (Value.int .i64 0).cells (acc.length * 1)).toList = (List.replicate acc.length (0 : Int)).map (Value.int .i64) := (made_ints _).symm ▸ rfl
      have hF : w6.ownsRow w.heap.size 2 1 (.slice (some ⟨wr.heap.size, 0, none⟩) (List.replicate acc.length (0 : Int)).length acc.length) (List.replicate acc.length (0 : Int)).length ((List.replicate acc.length (0 : Int)).map (Value.int .i64)) := by rw [List.length_replicate, ← hrep]; exact hown6
      have hM : w6.ownsRow w.heap.size 2 1 (.slice (some ⟨gm, 0, none⟩) mo.length c4) mo.length (mo.map (Value.int .i64)) := by rw [HML.out]; exact ho4r
      have hS : SrI w w4.heap.size gm wr.heap.size c4 acc.length A5 Ag c5 cg cs acc (w6.setCell ⟨w4.heap.size, 3, none⟩ (.slice (some ⟨wr.heap.size, 0, none⟩) acc.length acc.length)) mo (List.replicate acc.length 0) [] (.slice none 0 0) (-1) := by
        have hg3 := grown_setCell w6 ⟨w4.heap.size, 3, none⟩ (.slice (some ⟨wr.heap.size, 0, none⟩) acc.length acc.length)
        have hX := X6.set 3 (.slice (some ⟨wr.heap.size, 0, none⟩) acc.length acc.length)
        have hgb : ∀ g, (Value.slice Ag acc.length cg).ownBlock = some g → w4.heap.size + 1 ≤ g ∧ g < wr.heap.size := fun g e => HOG.out.lt g e
        refine ⟨?_, hM.kept hg3 (.inr (fun e => hgm (Option.some.inj e))), hF.kept hg3 (.inr (fun e => hgfp (Option.some.inj e))), ⟨rfl, .inl ⟨rfl, rfl⟩⟩, (own_base hogr (by omega)).kept hg3 (.inr (fun e => by have h9 : w4.heap.size + 1 ≤ w4.heap.size := (hgb _ e).1; omega)), HX.out, hb6.setCell (p := ⟨w4.heap.size, 3, none⟩) hgp _, ⟨hgp, fun e => hgm e.symm, fun e => hgfp e.symm, fun e => hgfm e.symm⟩, ⟨by simp [Value.ownBlock], by simp [Value.ownBlock], by simp [Value.ownBlock]⟩, ⟨fun e => by have h9 := (hgb _ e).1; omega, fun e => by have h9 := (hgb _ e).1; omega, fun e => by have h9 := (hgb _ e).2; omega⟩⟩
        rw [HML.out, List.length_replicate]; exact hX
      have HSR := hide hS
      clear hrep hF hM hS X6 f3 d3 hogr ho4r hown6 hgr6 hb6 HBX HOG HBW hw6s
      generalize (w6.setCell ⟨w4.heap.size, 3, none⟩ (.slice (some ⟨wr.heap.size, 0, none⟩) acc.length acc.length)) = w7 at *
      obtain ⟨wr0, hwr0⟩ : ∃ q, q = wr := ⟨_, rfl⟩
      subst hwr0
      have hnx : Calls Try.prog 128 #[.pointer (some ⟨w4.heap.size, 0, none⟩), .int .i64 0, .int .i64 0] w7 _ := msNext_any w w4.heap.size gm wr0.heap.size c4 acc.length A5 Ag c5 cg cs acc st.length hok acc.length 0 0 w7 mo (List.replicate acc.length 0) [] (.slice none 0 0) (-1) (by omega) (by simp) hom (fun z hz => by rw [(List.mem_replicate.1 hz).2]; omega) (by omega) (by omega) (by simp) HSR.out
      have HNX := hide hnx
      clear hnx
      go_upto_region 23 with (go_at_call 128; (with_reducible refine (HNX.out).mono ?_); rintro e w8 ⟨rfl, F8, best, vb, least, _, _, _, hsr, hle8, hbl8, I8⟩)
      obtain ⟨Ab, cb, rfl, _, _⟩ := own_shape I8.rb
      rw [List.take_zero] at hsr
      have hbg : best.length ≤ acc.length := by
        have h1 := srch_len (gs := acc) (cs := cs) (nm := st.length) (L := acc.length) (r := acc.length) (tk := []) (more := mo) (cost := 0) (st := ([], -1)) (by simp) (by simp)
        rw [← hsr] at h1
        exact h1
      rw [← hsr] at HR
      have I9 := hide (I8.below ((Below.refl _ _).alloc (Nat.le_refl _) (.cells #[] 143)))
      have ho1 := own_new0 w8 w8.heap.size 143 3 (Nat.le_refl _)
      have hoc : (w8.alloc (.cells #[] 143)).ownsRow w8.heap.size 143 3 (.slice (some ⟨w8.heap.size, 0, none⟩) 0 0) ([] : List T3).length (([] : List T3).flatMap T3.cells) := ho1
      have hb9 : Below w8.heap.size w8 (w8.alloc (.cells #[] 143)) := (Below.refl _ _).alloc (Nat.le_refl _) _
      have b4 : (w8.alloc (.cells #[] 143)).cell? ⟨w4.heap.size, 4, none⟩ = some (.slice Ab best.length cb) := I9.out.box.cell 4
      have I8' := hide I8
      clear I8 HNX HSR hsr hok hom I9 ho1
      go_wp2_with fail
      go_loopg [15, 81] best.length (fun g s iv wr => ∃ (k : Nat) (out : List T3), k ≤ best.length ∧ Hid (g = best.length - k) ∧ iv = .int .i64 k ∧ Hid (wr.ownsRow w8.heap.size 143 3 s out.length (out.flatMap T3.cells)) ∧ Hid (mvGo [] best acc = mvGo out (best.drop k) (acc.drop k)) ∧ Hid (BmOk k out) ∧ Hid (Below w8.heap.size w8 wr))
      case atStart => exact ⟨0, [], by omega, by simp [Hid], rfl, hoc, rfl, ⟨by simp, by omega, fun m hm => by simp at hm⟩, hb9⟩
      case round =>
        obtain ⟨k, out, hk, hg, rfl, HOW, HGO, HBO, HBW⟩ := hrel
        clear hoc hb9 b4
        have HIR := hide (I8'.out.below HBW.out)
        by_cases hlt : k < best.length
        · obtain ⟨bk, hbk⟩ : ∃ z, best[k]? = some z := ⟨_, List.getElem?_eq_getElem hlt⟩
          obtain ⟨gk, hgk⟩ : ∃ z, acc[k]? = some z := ⟨_, List.getElem?_eq_getElem (by omega)⟩
          have HG1 := hide (HGO.out.trans (mvGo_at hbk hgk))
          obtain ⟨gb, rfl, _, _⟩ := own_posN' HIR.out.rb (by omega)
          obtain ⟨gg, rfl, _, _⟩ := own_posN' HIR.out.rg (by omega)
          have cbk : wr.cell? ⟨gb, k, none⟩ = some (.int .i64 bk) := by rw [HIR.out.rb.cellAt k (by omega), List.getElem?_map, hbk]; rfl
          have cgk : wr.cell? ⟨gg, k, none⟩ = some (.int .i64 gk) := by rw [HIR.out.rg.cellAt k (by omega), List.getElem?_map, hgk]; rfl
          have b1 : wr.cell? ⟨w4.heap.size, 1, none⟩ = some (.slice (some ⟨gg, 0, none⟩) acc.length cg) := HIR.out.box.cell 1
          have hkb : (k : Int) < (best.length : Int) := by omega
          have hka : (k : Int) < (acc.length : Int) := by omega
          have hk0 : (0 : Int) ≤ (k : Int) := by omega
          have hol := HBO.out.1
          obtain ⟨Ao, co, rfl, _, _⟩ := own_shape HOW.out
          have hwl : IntKind.i64.wrap ((out.length : Int) - 1) = (out.length : Int) - 1 := by rw [IntKind.wrap_i64] <;> omega
          have HGK := hide hgk
          clear hbk hgk HGO
          go_upto_region 27 with fail
          go_cut [18, 112] (fun l c wx => l = .int .i64 ((out.length : Int) - 1) ∧ ∃ bb : Bool, c = .bool bb ∧ Hid (sameB out bk gk = bb) ∧ Hid (SrI w w4.heap.size gm wr0.heap.size c4 acc.length A5 (some ⟨gg, 0, none⟩) c5 cg cs acc wx mo F8 best (.slice (some ⟨gb, 0, none⟩) best.length cb) least) ∧ Hid (wx.ownsRow w8.heap.size 143 3 (.slice Ao out.length co) out.length (out.flatMap T3.cells)) ∧ Hid (Below w8.heap.size w8 wx))
          case first =>
            by_cases hz : out.length = 0
            · have hjI : (out.length : Int) - 1 = -1 := by omega
              have HSN := hide (sameB_nil (f := bk) (t := gk) (List.eq_nil_of_length_eq_zero hz))
              clear hz
              rw [hjI]
              go_quiet (fail)
              go_wp2_with fail
              go_meet
              exact ⟨by rw [hjI], false, by first | rfl | go_num, HSN.out, HIR.out.below (bdn (Below.refl _ _) nq), HOW.out, bdn HBW.out nq⟩
            · obtain ⟨j, hj⟩ : ∃ j, out.length = j + 1 := ⟨out.length - 1, by omega⟩
              obtain ⟨m, hm⟩ : ∃ m, out[j]? = some m := ⟨_, List.getElem?_eq_getElem (by omega)⟩
              have hm' : out[out.length - 1]? = some m := by rw [show out.length - 1 = j by omega]; exact hm
              obtain ⟨go, rfl, _, _⟩ := own_posN' HOW.out (by omega)
              have hjI : (out.length : Int) - 1 = (j : Int) := by omega
              have hcm := fun q (hq : q < 3) => (HOW.out.cellAt (j * 3 + q) (by omega)).trans ((flatMap_at3 hm hq))
              have cm0 : wr.cell? ⟨go, j * 3, none⟩ = some (.int .i64 m.a) := hcm 0 (by omega)
              have cm1 : wr.cell? ⟨go, j * 3 + 1, none⟩ = some (.int .i64 m.b) := hcm 1 (by omega)
              have hj0 : (0 : Int) ≤ (j : Int) := by omega
              have hjo : (j : Int) < (out.length : Int) := by omega
              have hgj0 : (0 : Int) ≤ (j : Int) := by omega
              have HSA := hide (sameB_at (f := bk) (t := gk) hm')
              have hdj : decide ((0 : Int) ≤ (j : Int)) = true := decide_eq_true hj0
              rw [hjI] at hwl
              clear hcm hm hm' hz
              by_cases ha : m.a = bk
              · have hB1 : (m.a == bk) = true := by simp [ha]
                by_cases hb : m.b = gk
                · have hB2 : (m.b == gk) = true := by simp [hb]
                  have HSY := hide (HSA.out.trans (decide_eq_true ⟨ha, hb⟩))
                  have HA := hide ha
                  have HB := hide hb
                  clear ha hb HSA
                  rw [hjI]
                  go_quiet (fail)
                  go_wp2_with fail
                  go_meet
                  exact ⟨by rw [hjI], true, by first | rfl | go_num, HSY.out, HIR.out.below (bdn (Below.refl _ _) nq), HOW.out, bdn HBW.out nq⟩
                · have hB2 : (m.b == gk) = false := by simp [hb]
                  have HSY := hide (HSA.out.trans (decide_eq_false (fun h => hb h.2)))
                  have HA := hide ha
                  have HB := hide hb
                  clear ha hb HSA
                  rw [hjI]
                  go_quiet (fail)
                  go_wp2_with fail
                  go_meet
                  exact ⟨by rw [hjI], false, by first | rfl | go_num, HSY.out, HIR.out.below (bdn (Below.refl _ _) nq), HOW.out, bdn HBW.out nq⟩
              · have hB1 : (m.a == bk) = false := by simp [ha]
                have HSY := hide (HSA.out.trans (decide_eq_false (fun h => ha h.1)))
                have HA := hide ha
                clear ha HSA
                rw [hjI]
                go_quiet (fail)
                go_wp2_with fail
                go_meet
                exact ⟨by rw [hjI], false, by first | rfl | go_num, HSY.out, HIR.out.below (bdn (Below.refl _ _) nq), HOW.out, bdn HBW.out nq⟩
          case rest =>
            obtain ⟨rfl, bb, rfl, HSB, HI2, HO2, HB2⟩ := hcut
            clear HOW HIR HBW cbk b1 cgk hwl
            cases bb
            · have HP := hide (sameB_no HSB.out)
              have b1 : wc.cell? ⟨w4.heap.size, 1, none⟩ = some (.slice (some ⟨gg, 0, none⟩) acc.length cg) := HI2.out.box.cell 1
              have hod := HO2.out
              have cgk : wc.cell? ⟨gg, k, none⟩ = some (.int .i64 gk) := by rw [HI2.out.rg.cellAt k (by omega), List.getElem?_map, HGK.out]; rfl
              have hszc : w8.heap.size ≤ wc.heap.size := HB2.out.size
              clear HSB
              go_wp2_with (at_builtin; go_must (refine wp_app _ rfl _ _ 25 rfl w8.heap.size 143 j0 (.agg #[.int .i64 0, .int .i64 0, .int .i64 0]) 3 24 Try.underlying25 hj0 hy0 ht0 hc0 rfl (by decide) _ _ _ rfl (hod.alloc _) _ _ 1 1 [.int .i64 bk, .int .i64 gk, .int .i64 1] rfl rfl (rd_new _ _ _ _ (by simp)) (T3.one1 ⟨bk, gk, 1⟩) (by omega) (by decide) (by simp <;> omega) ?_); intro v2 w5 hown2 hgrow hat)
              have hb5 := app_below (HB2.out.alloc hszc (.cells #[.int .i64 bk, .int .i64 gk, .int .i64 1] 143)) (hod.alloc (.cells #[.int .i64 bk, .int .i64 gk, .int .i64 1] 143)) hgrow (Nat.le_refl _) (by simp; omega)
              go_roundg (best.length - (k + 1))
              case measure => have := hg.out; omega
              case rel => exact ⟨k + 1, out ++ [(⟨bk, gk, 1⟩ : T3)], by omega, rfl, by go_num, by rw [flat_snoc3, List.length_append]; exact hown2, by unfold Hid; rw [HG1.out, HP.out], HBO.out.push bk gk, hb5⟩
            · obtain ⟨m, hm, hpu⟩ := sameB_yes HSB.out
              have hlo := lt_of_get hm
              obtain ⟨j, hj⟩ : ∃ j, out.length = j + 1 := ⟨out.length - 1, by omega⟩
              have hjI : (out.length : Int) - 1 = (j : Int) := by omega
              have hjn : out.length - 1 = j := by omega
              have hBU := HBO.out.up hm
              rw [hjn] at hm hpu hBU
              obtain ⟨go, rfl, _, _⟩ := own_posN' HO2.out (by omega)
              have hcm : wc.cell? ⟨go, j * 3 + 2, none⟩ = some (.int .i64 m.c) := (HO2.out.cellAt (j * 3 + 2) (by omega)).trans (flatMap_at3 hm (by omega))
              have fcm := HO2.out.frozenAt (j * 3 + 2)
              have hj00 : (0 : Int) ≤ (j : Int) := by omega
              have hjo : (j : Int) < (out.length : Int) := by omega
              have hmb := HBO.out.2.2 m (List.mem_of_getElem? hm)
              have hwm : IntKind.i64.wrap (m.c + 1) = m.c + 1 := by rw [IntKind.wrap_i64] <;> omega
              have hst := (HO2.out.stored (j * 3 + 2) (.int .i64 (m.c + 1))).1
              rw [T3.storec hm] at hst
              have HST := hide hst
              have HPU := hide hpu
              have HBU := hide hBU
              have hgo8 : w8.heap.size ≤ go := (HO2.out.lt go rfl).1
              have hb5 := HB2.out.setCell (p := ⟨go, j * 3 + 2, none⟩) hgo8 (.int .i64 (m.c + 1))
              clear hm hpu hBU hst HSB hmb
              rw [hjI]
              go_wp2_with fail
              go_roundg (best.length - (k + 1))
              case measure => have := hg.out; omega
              case rel => exact ⟨k + 1, out.set j ⟨m.a, m.b, m.c + 1⟩, by omega, rfl, by go_num, by rw [List.length_set]; exact HST.out, by unfold Hid; rw [HG1.out, HPU.out], HBU.out, hb5⟩
        · obtain rfl : k = best.length := by omega
          have HE := hide (HGO.out.trans (mvGo_end (Nat.le_refl _)))
          have b5 : wr.cell? ⟨w4.heap.size, 5, none⟩ = some (.int .i64 least) := HIR.out.box.cell 5
          clear HGO
          go_wp2_with fail
          go_quiet (fail)
          go_wp2_with fail
          go_ret3
          refine ⟨_, by rw [HR.out]; rfl, ?_, ?_⟩
          · rw [HR.out, HE.out]
            have hO : O_MoveS _ w.heap.size _ u15 out := OwnV.of_row (own_base (own_below HOW.out (bdn (Below.refl _ _) nq) (Nat.le_refl _)) I8'.out.bel.size) (by have := HBO.out.1; omega)
            exact hO
          · exact bdn (I8'.out.bel.trans (HBW.out.mono I8'.out.bel.size)) nq
end Go.Proofs.Ytklfjekpeoigoaa
namespace Go.Proofs.Ytklfjekpeoigoaa
open Go.RowKit
theorem alloc_sz (w : World) (o : Obj) : (w.alloc o).heap.size = w.heap.size + 1 := by simp
theorem sum_cap {B : Int} : ∀ {l : List Int}, (∀ z ∈ l, z ≤ B) → l.sum ≤ B * l.length := by
  intro l
  induction l with
  | nil => intro _; simp
  | cons z l ih =>
    intro h
    have h1 := h z (List.mem_cons_self ..)
    have h2 := ih fun z hz => h z (List.mem_cons_of_mem _ hz)
    rw [List.sum_cons, List.length_cons]
    rw [show ((l.length + 1 : Nat) : Int) = (l.length : Int) + 1 by omega, Int.mul_add]
    omega
theorem take_snoc {l : List Int} {k : Nat} {z : Int} (h : l[k]? = some z) : l.take k ++ [z] = l.take (k + 1) := by
  obtain ⟨h1, h2⟩ := List.getElem?_eq_some_iff.1 h
  rw [← h2, List.take_append_getElem]
structure SwB (w0 : World) (gp b2 b3 : Nat) (Ac : Option Addr) (cc : Nat) (cs : List TN) (Am : Option Addr) (cm : Nat) (more : List Int) (Ag : Option Addr) (cg : Nat) (gs : List Int) (w : World) : Prop where
  box : BoxN w gp #[.slice Ac cs.length cc, .slice Am more.length cm, .slice Ag gs.length cg, .slice (some ⟨b2, 0, none⟩) 0 0, .slice (some ⟨b3, 0, none⟩) 0 0, .int .i64 (-1)] 139
  trk : Trk w0.heap.size w gp [(.slice Am more.length cm, more), (.slice Ag gs.length cg, gs), (.slice (some ⟨b2, 0, none⟩) 0 0, []), (.slice (some ⟨b3, 0, none⟩) 0 0, [])]
  bel : Below w0.heap.size w0 w
  np : w0.heap.size ≤ gp
section
variable {w0 : World} {gp b2 b3 : Nat} {Ac : Option Addr} {cc : Nat} {cs : List TN} {Am : Option Addr} {cm : Nat} {more : List Int} {Ag : Option Addr} {cg : Nat} {gs : List Int} {w w' : World}
theorem SwB.below (h : SwB w0 gp b2 b3 Ac cc cs Am cm more Ag cg gs w) (k : Below w.heap.size w w') : SwB w0 gp b2 b3 Ac cc cs Am cm more Ag cg gs w' := ⟨h.box.below k h.box.lt, h.trk.below k, h.bel.trans (k.mono h.bel.size), h.np⟩
theorem SwB.rm (h : SwB w0 gp b2 b3 Ac cc cs Am cm more Ag cg gs w) : w.ownsRow w0.heap.size 2 1 (.slice Am more.length cm) more.length (more.map (Value.int .i64)) := h.trk.own 0 _ _ rfl
theorem SwB.rg (h : SwB w0 gp b2 b3 Ac cc cs Am cm more Ag cg gs w) : w.ownsRow w0.heap.size 2 1 (.slice Ag gs.length cg) gs.length (gs.map (Value.int .i64)) := h.trk.own 1 _ _ rfl
theorem SwB.pushM (h : SwB w0 gp b2 b3 Ac cc cs Am cm more Ag cg gs w) {w5 : World} {A' : Option Addr} {c' : Nat} {z : Int} (hg : w.grownBy w5 (Value.slice Am more.length cm).ownBlock) (hown : w5.ownsRow w0.heap.size 2 1 (.slice A' (more.length + 1) c') (more.length + 1) (more.map (Value.int .i64) ++ [.int .i64 z])) (hat : (Value.slice A' (more.length + 1) c').ownBlock = (Value.slice Am more.length cm).ownBlock ∨ (Value.slice A' (more.length + 1) c').ownBlock = some w.heap.size) :
    SwB w0 gp b2 b3 Ac cc cs A' c' (more ++ [z]) Ag cg gs (w5.setCell ⟨gp, 1, none⟩ (.slice A' (more.length + 1) c')) := by
  have hl : (more ++ [z]).length = more.length + 1 := by simp
  have hbx : BoxN w5 gp _ _ := (hg.block gp h.box.lt (fun e => h.trk.ne 0 _ _ rfl e.symm)).trans h.box
  have ht := (h.trk.app (i := 0) rfl hg hown hat h.box.lt).box 1 (.slice A' (more.length + 1) c')
  refine ⟨?_, ?_, (app_below h.bel h.rm hg (Nat.le_refl _) h.bel.size).setCell h.np _, h.np⟩
  · rw [hl]; exact hbx.set 1 (.slice A' (more.length + 1) c')
  · rw [hl]; exact ht
theorem SwB.pushG (h : SwB w0 gp b2 b3 Ac cc cs Am cm more Ag cg gs w) {w5 : World} {A' : Option Addr} {c' : Nat} {z : Int} (hg : w.grownBy w5 (Value.slice Ag gs.length cg).ownBlock) (hown : w5.ownsRow w0.heap.size 2 1 (.slice A' (gs.length + 1) c') (gs.length + 1) (gs.map (Value.int .i64) ++ [.int .i64 z])) (hat : (Value.slice A' (gs.length + 1) c').ownBlock = (Value.slice Ag gs.length cg).ownBlock ∨ (Value.slice A' (gs.length + 1) c').ownBlock = some w.heap.size) :
    SwB w0 gp b2 b3 Ac cc cs Am cm more A' c' (gs ++ [z]) (w5.setCell ⟨gp, 2, none⟩ (.slice A' (gs.length + 1) c')) := by
  have hl : (gs ++ [z]).length = gs.length + 1 := by simp
  have hbx : BoxN w5 gp _ _ := (hg.block gp h.box.lt (fun e => h.trk.ne 1 _ _ rfl e.symm)).trans h.box
  have ht := (h.trk.app (i := 1) rfl hg hown hat h.box.lt).box 2 (.slice A' (gs.length + 1) c')
  refine ⟨?_, ?_, (app_below h.bel h.rg hg (Nat.le_refl _) h.bel.size).setCell h.np _, h.np⟩
  · rw [hl]; exact hbx.set 2 (.slice A' (gs.length + 1) c')
  · rw [hl]; exact ht
theorem SwB.boxM (h : SwB w0 gp b2 b3 Ac cc cs Am cm more Ag cg gs w) {w5 : World} (hg : w.grownBy w5 (Value.slice Am more.length cm).ownBlock) : BoxN w5 gp #[.slice Ac cs.length cc, .slice Am more.length cm, .slice Ag gs.length cg, .slice (some ⟨b2, 0, none⟩) 0 0, .slice (some ⟨b3, 0, none⟩) 0 0, .int .i64 (-1)] 139 := (hg.block gp h.box.lt (fun e => h.trk.ne 0 _ _ rfl e.symm)).trans h.box
theorem SwB.boxG (h : SwB w0 gp b2 b3 Ac cc cs Am cm more Ag cg gs w) {w5 : World} (hg : w.grownBy w5 (Value.slice Ag gs.length cg).ownBlock) : BoxN w5 gp #[.slice Ac cs.length cc, .slice Am more.length cm, .slice Ag gs.length cg, .slice (some ⟨b2, 0, none⟩) 0 0, .slice (some ⟨b3, 0, none⟩) 0 0, .int .i64 (-1)] 139 := (hg.block gp h.box.lt (fun e => h.trk.ne 1 _ _ rfl e.symm)).trans h.box
theorem SwB.start (w : World) (Ac : Option Addr) (cc : Nat) (cs : List TN) : SwB w (w.heap.size + 4) (w.heap.size + 2) (w.heap.size + 3) Ac cc cs (some ⟨w.heap.size, 0, none⟩) 0 [] (some ⟨w.heap.size + 1, 0, none⟩) 0 []
    (((((w.alloc (.cells #[] 2)).alloc (.cells #[] 2)).alloc (.cells #[] 2)).alloc (.cells #[] 2)).alloc (.cells #[.slice Ac cs.length cc, .slice (some ⟨w.heap.size, 0, none⟩) 0 0, .slice (some ⟨w.heap.size + 1, 0, none⟩) 0 0, .slice (some ⟨w.heap.size + 2, 0, none⟩) 0 0, .slice (some ⟨w.heap.size + 3, 0, none⟩) 0 0, .int .i64 (-1)] 139)) := by
  have r0 := own_new0 w w.heap.size 2 1 (Nat.le_refl _)
  have r1 := own_new0 (w.alloc (.cells #[] 2)) w.heap.size 2 1 (by simp)
  have r2 := own_new0 ((w.alloc (.cells #[] 2)).alloc (.cells #[] 2)) w.heap.size 2 1 (by simp <;> omega)
  have r3 := own_new0 (((w.alloc (.cells #[] 2)).alloc (.cells #[] 2)).alloc (.cells #[] 2)) w.heap.size 2 1 (by simp <;> omega)
  have hb := BoxN.new ((((w.alloc (.cells #[] 2)).alloc (.cells #[] 2)).alloc (.cells #[] 2)).alloc (.cells #[] 2)) #[.slice Ac cs.length cc, .slice (some ⟨w.heap.size, 0, none⟩) 0 0, .slice (some ⟨w.heap.size + 1, 0, none⟩) 0 0, .slice (some ⟨w.heap.size + 2, 0, none⟩) 0 0, .slice (some ⟨w.heap.size + 3, 0, none⟩) 0 0, .int .i64 (-1)] 139
  simp only [alloc_sz] at r1 r2 r3 hb
  refine ⟨hb, ?_, ?_, by omega⟩
  · refine Trk.cons (Trk.cons (Trk.cons (Trk.cons Trk.nil ?_ ?_ ?_) ?_ ?_ ?_) ?_ ?_ ?_) ?_ ?_ ?_
    · exact r3.alloc _
    · simp [Value.ownBlock]
    · intro j v xs g e; simp at e
    · exact (r2.alloc _).alloc _
    · simp [Value.ownBlock]
    · intro j v xs g e
      rcases j with _ | j
      · simp at e; obtain ⟨rfl, _⟩ := e; simp [Value.ownBlock]; omega
      · simp at e
    · exact ((r1.alloc _).alloc _).alloc _
    · simp [Value.ownBlock]
    · intro j v xs g e
      rcases j with _ | _ | j
      · simp at e; obtain ⟨rfl, _⟩ := e; simp [Value.ownBlock]; omega
      · simp at e; obtain ⟨rfl, _⟩ := e; simp [Value.ownBlock]; omega
      · simp at e
    · exact (((r0.alloc _).alloc _).alloc _).alloc _
    · simp [Value.ownBlock]
    · intro j v xs g e
      rcases j with _ | _ | _ | j
      · simp at e; obtain ⟨rfl, _⟩ := e; simp [Value.ownBlock]; omega
      · simp at e; obtain ⟨rfl, _⟩ := e; simp [Value.ownBlock]; omega
      · simp at e; obtain ⟨rfl, _⟩ := e; simp [Value.ownBlock]; omega
      · simp at e
  · repeat (first | exact Below.refl _ _ | refine Below.alloc ?_ (by simp <;> omega) _)
theorem SwB.done {gm : Nat} (h : SwB w0 gp b2 b3 Ac cc cs (some ⟨gm, 0, none⟩) cm more Ag cg gs w) (hc : RN 0 w0 w0.heap.size Ac cs) : SwI w0 gp gm cm Ac Ag cc cg cs gs w more [] [] (.slice (some ⟨b2, 0, none⟩) 0 0) (.slice (some ⟨b3, 0, none⟩) 0 0) (-1) := by
  have a := fun i j v xs u ys g => h.trk.ap i j v xs u ys g
  exact ⟨h.box, h.rm, h.trk.own 2 _ _ rfl, h.trk.own 3 _ _ rfl, h.rg, hc, h.bel, ⟨h.np, fun e => h.trk.ne 0 _ _ rfl (by rw [← e]; rfl)⟩,
    ⟨h.trk.ne 2 _ _ rfl, a 0 2 _ _ _ _ gm (by omega) rfl rfl rfl⟩, ⟨h.trk.ne 3 _ _ rfl, a 0 3 _ _ _ _ gm (by omega) rfl rfl rfl, fun g e => a 2 3 _ _ _ _ g (by omega) rfl rfl e⟩,
    ⟨h.trk.ne 1 _ _ rfl, a 0 1 _ _ _ _ gm (by omega) rfl rfl rfl, fun g e => a 2 1 _ _ _ _ g (by omega) rfl rfl e⟩⟩
end
end Go.Proofs.Ytklfjekpeoigoaa
