/-
  BestMoves of the reference: the first of the cheapest moves.
-/
import Derived.Test.YtklfjekpeoigoaaQMovesBack20
namespace Go.Proofs.Ytklfjekpeoigoaa
open Go.RowKit
set_option maxRecDepth 100000 in
set_option maxHeartbeats 16000000 in
theorem S_BestMoves (st : List Int) (v : Value) (wa : List Int) (u : Value) (cs : List TN) (x : Value) (w : World) (h0 : st.length ≤ 1048576) (_ : ∀ z ∈ st, -9223372036854775808 ≤ z ∧ z ≤ 9223372036854775807) (h : R_Int64S w w.heap.size v st) (hs : wa.length ≤ 1048576) (_ : ∀ z ∈ wa, -9223372036854775808 ≤ z ∧ z ≤ 9223372036854775807) (k : R_Int64S w w.heap.size u wa) (hsn : SmallN cs) (_ : ∀ e ∈ cs, e.Fits) (q : R_Int64SS w w.heap.size x cs) :
    Calls Try.prog 12 #[v, u, x] w fun e w' => ∃ r, e = .returned (.tuple #[r, .int .i64 (bestMoves st wa cs).1.2, .int .i64 (bestMoves st wa cs).2]) ∧ O_MoveS w' w.heap.size w'.heap.size r (bestMoves st wa cs).1.1 ∧ Below w.heap.size w w' := by
  obtain ⟨A, c, rfl, h1⟩ := h
  obtain ⟨A2, c2, rfl, h2⟩ := k
  obtain ⟨A5, c5, rfl, h5⟩ := q
  have HC := hide (l07Code_any st wa A c A2 c2 w h0 hs h1 h2)
  have HK := hide (l07Costs_any (st.length : Int) cs A5 c5 w hsn h5)
  by_cases hcd : codeWa st wa = 0
  case neg =>
    have HR := hide (show bestMoves st wa cs = (([], 0), codeWa st wa) by unfold bestMoves; exact if_pos hcd)
    have hne : (codeWa st wa != 0) = true := by simp [hcd]
    have hnq : (codeWa st wa == 0) = false := by simp [hcd]
    clear h1 h2 h5
    generalize codeWa st wa = cd at *
    go_enter Try.func12, Try.ntmps12
    go_wp2_with (go_at_call 119; refine (HC.out).mono ?_; rintro e w' ⟨rfl, rfl⟩)
    go_ret3
    exact ⟨_, by rw [HR.out]; rfl, by rw [HR.out]; exact O_MoveS.nil _ _ _ _ _, Below.refl _ _⟩
  obtain ⟨hv, hwl, hwb⟩ := codeWa_ok hcd
  have HS1 := hide (l00Sum_any st A c w h0 (sum_bd (stock_bd hv)) h1)
  have HS2 := hide (l00Sum_any wa A2 c2 w hs (sum_bd hwb) h2)
  have HR0 := hide (show bestMoves st wa cs = if vCosts st.length cs = false then (([], 0), 2) else if st.sum < wa.sum then (([], 0), 5) else if 6 < (shGo st wa).sum then (([], 0), 6) else ((mvGo [] (srch (goalsGo 0 (shGo st wa)) cs st.length (goalsGo 0 (shGo st wa)).length [] (moGo st wa) 0 ([], -1)).1 (goalsGo 0 (shGo st wa)), (srch (goalsGo 0 (shGo st wa)) cs st.length (goalsGo 0 (shGo st wa)).length [] (moGo st wa) 0 ([], -1)).2), 0) by unfold bestMoves; exact if_neg (fun h => h hcd))
  rw [hcd] at HC
  cases hvc : vCosts st.length cs
  · have HR := hide (HR0.out.trans (if_pos hvc))
    rw [hvc] at HK
    clear hcd hv hwl hwb h1 h2 h5 hvc HS1 HS2 HR0
    go_enter Try.func12, Try.ntmps12
    go_wp2_with (first | (go_at_call 119; refine (HC.out).mono ?_; rintro e w' ⟨rfl, rfl⟩) | (go_at_call 120; refine (HK.out).mono ?_; rintro e w' ⟨rfl, rfl⟩))
    go_ret3
    exact ⟨_, by rw [HR.out]; rfl, by rw [HR.out]; exact O_MoveS.nil _ _ _ _ _, Below.refl _ _⟩
  have HR1 := hide (HR0.out.trans (if_neg (by rw [hvc]; simp)))
  rw [hvc] at HK
  have HSB := hide (sh_bd (stock_bd hv) hwb)
  have HMB := hide (mo_bd (stock_bd hv) hwb)
  have hl2 := (stOk_of hv).2.1
  have hl10 := (stOk_of hv).2.2
  have HSL := hide (shGo_len hwl)
  have HML := hide (moGo_len hwl)
  have HNS : Hid (∀ z ∈ shGo st wa, 0 ≤ z) := sh_nn
  have HVC := hide (vCosts_iff.1 hvc)
  have HX := hide h1
  have HY := hide h2
  have HZ := hide h5
  have HSTB := hide (stock_bd hv)
  have HWB := hide hwb
  have HSG := hide fun i s z (a1 : st[i]? = some s) (a2 : wa[i]? = some z) => shGo_get a1 a2
  have HMG := hide fun i s z (a1 : st[i]? = some s) (a2 : wa[i]? = some z) => moGo_get a1 a2
  have hwl1 : wa.length ≤ st.length := by omega
  have hwl2 : st.length ≤ wa.length := by omega
  clear hcd hv hwl hwb h1 h2 h5 hvc HR0
  by_cases hsum : st.sum < wa.sum
  · have HR := hide (HR1.out.trans (if_pos hsum))
    generalize st.sum = ss at *
    generalize wa.sum = sw at *
    have hB : decide (ss < sw) = true := decide_eq_true hsum
    clear HSL HML HNS HSB HMB HVC HSG HMG
    generalize shGo st wa = sh at *
    generalize moGo st wa = mo at *
    go_enter Try.func12, Try.ntmps12
    go_wp2_with (first | (go_at_call 119; refine (HC.out).mono ?_; rintro e w' ⟨rfl, rfl⟩) | (go_at_call 120; refine (HK.out).mono ?_; rintro e w' ⟨rfl, rfl⟩) | (go_at_call 121; first | ((with_reducible refine HS2.out.mono ?_); rintro e w' ⟨rfl, rfl⟩) | ((with_reducible refine HS1.out.mono ?_); rintro e w' ⟨rfl, rfl⟩)))
    go_ret3
    exact ⟨_, by rw [HR.out]; rfl, by rw [HR.out]; exact O_MoveS.nil _ _ _ _ _, Below.refl _ _⟩
  have HR2 := hide (HR1.out.trans (if_neg hsum))
  clear HR1
  generalize st.sum = ss at *
  generalize wa.sum = sw at *
  have hB : decide (ss < sw) = false := decide_eq_false hsum
  generalize shGo st wa = sh at *
  generalize moGo st wa = mo at *
  have hshl : sh.length ≤ 10 := by have := HSL.out; omega
  have HR : Hid (¬ 6 < sh.sum → bestMoves st wa cs = ((mvGo [] (srch (goalsGo 0 sh) cs st.length (goalsGo 0 sh).length [] mo 0 ([], -1)).1 (goalsGo 0 sh), (srch (goalsGo 0 sh) cs st.length (goalsGo 0 sh).length [] mo 0 ([], -1)).2), 0)) := fun h6 => HR2.out.trans (if_neg h6)
  have HGL := hide (show ((goalsGo 0 sh).length : Int) = sh.sum from goalsGo_len HNS.out)
  have hglB : (goalsGo 0 sh).length ≤ 10000 := by have h1 := sum_cap (B := 1000) (l := sh) (fun z hz => (HSB.out z hz).2); have h2 := HGL.out; omega
  obtain ⟨i0, hi0, hz0, hs0, hb0⟩ := info_parts int64_info
  obtain ⟨j0, hj0, hy0, ht0, hc0⟩ := info_parts Move_info2
  go_enter Try.func12, Try.ntmps12
  go_wp2_with (first | (go_at_call 119; refine (HC.out).mono ?_; rintro e w' ⟨rfl, rfl⟩) | (go_at_call 120; refine (HK.out).mono ?_; rintro e w' ⟨rfl, rfl⟩) | (go_at_call 121; first | ((with_reducible refine HS2.out.mono ?_); rintro e w' ⟨rfl, rfl⟩) | ((with_reducible refine HS1.out.mono ?_); rintro e w' ⟨rfl, rfl⟩)))
  obtain ⟨wB, hwB⟩ : ∃ W, W = (((((w.alloc (.cells #[] 2)).alloc (.cells #[] 2)).alloc (.cells #[] 2)).alloc (.cells #[] 2)).alloc (.cells #[.slice A5 cs.length c5, .slice (some ⟨w.heap.size, 0, none⟩) 0 0, .slice (some ⟨w.heap.size + 1, 0, none⟩) 0 0, .slice (some ⟨w.heap.size + 1 + 1, 0, none⟩) 0 0, .slice (some ⟨w.heap.size + 1 + 1 + 1, 0, none⟩) 0 0, .int .i64 (-1)] 139)) := ⟨_, rfl⟩
  rw [← hwB]
  have HB := hide (show SwB w (w.heap.size + 1 + 1 + 1 + 1) (w.heap.size + 1 + 1) (w.heap.size + 1 + 1 + 1) A5 c5 cs (some ⟨w.heap.size, 0, none⟩) 0 [] (some ⟨w.heap.size + 1, 0, none⟩) 0 [] wB from by rw [hwB]; exact SwB.start w A5 c5 cs)
  clear hwB
  have hgp0 : w.heap.size ≤ w.heap.size + 1 + 1 + 1 + 1 := by omega
  generalize w.heap.size + 1 + 1 + 1 + 1 = gp at *
  generalize w.heap.size + 1 + 1 + 1 = gb3 at *
  generalize w.heap.size + 1 + 1 = gb2 at *
  go_loopg [11] st.length (fun g iv wr => ∃ (k : Nat) (Am : Option Addr) (cm : Nat) (accM : List Int) (Ag : Option Addr) (cg : Nat) (accG : List Int), k ≤ st.length ∧ Hid (g = st.length - k) ∧ iv = .int .i64 k ∧ Hid (accM = mo.take k) ∧ Hid (goalsGo 0 sh = accG ++ goalsGo k (sh.drop k)) ∧ Hid (SwB w gp gb2 gb3 A5 c5 cs Am cm accM Ag cg accG wr))
  case atStart => exact ⟨0, _, 0, [], _, 0, [], by omega, by simp [Hid], rfl, by simp [Hid], by simp [Hid], HB⟩
  case round =>
    obtain ⟨k, Am, cm, accM, Ag, cg, accG, hk, hg, rfl, HAM, HAG, HBW⟩ := hrel
    clear HB
    by_cases hlt : k < st.length
    · obtain ⟨b1, o1, s1, rfl, hbb1, hs1, hc1⟩ := HX.out.at_ hlt
      obtain ⟨b2', o2, w1, rfl, hbb2, hw1, hc2⟩ := HY.out.at_ (show k < wa.length by omega)
      have HC1 := hide fun W (hW : Below w.heap.size w W) => (hW.cell (p := ⟨b1, o1 + k, none⟩) hbb1).trans hc1
      have HC2 := hide fun W (hW : Below w.heap.size w W) => (hW.cell (p := ⟨b2', o2 + k, none⟩) hbb2).trans hc2
      obtain ⟨hs1a, hs1b⟩ := HSTB.out s1 (List.mem_of_getElem? hs1)
      obtain ⟨hw1a, hw1b⟩ := HWB.out w1 (List.mem_of_getElem? hw1)
      have hsk := HSG.out k s1 w1 hs1 hw1
      have hmk := HMG.out k s1 w1 hs1 hw1
      have HTK := hide (show accM ++ [max 0 (s1 - w1)] = mo.take (k + 1) by rw [HAM.out]; exact take_snoc hmk)
      obtain ⟨nn, hnn⟩ := Int.eq_ofNat_of_zero_le (show 0 ≤ max 0 (w1 - s1) by omega)
      have HNN := hide (show (0 < nn → s1 + (nn : Int) = w1) ∧ (nn = 0 → w1 ≤ s1) by omega)
      have HG1 := hide (show goalsGo 0 sh = accG ++ (List.replicate (nn - 0) (k : Int) ++ goalsGo (k + 1) (sh.drop (k + 1))) by rw [HAG.out, goalsGo_at hsk, hnn]; simp)
      have HMX := hide fun W => l00Max_any' 0 (s1 - w1) W
      have hml : accM.length ≤ 10 := by rw [HAM.out, List.length_take]; omega
      generalize max 0 (s1 - w1) = mx at *
      have hsub : IntKind.i64.wrap (s1 - w1) = s1 - w1 := by rw [IntKind.wrap_i64] <;> omega
      have hkn : (k : Int) < (st.length : Int) := by omega
      have hknw : (k : Int) < (wa.length : Int) := by omega
      have hk0 : (0 : Int) ≤ (k : Int) := by omega
      have hszw := HBW.out.bel.size
      clear hs1 hw1 hsk hmk hnn hc1 hc2 HAG HAM
      go_upto_region 12 with fail
      go_cut [] (fun wx => ∃ (A7 : Option Addr) (c7 : Nat), Hid (SwB w gp gb2 gb3 A5 c5 cs A7 c7 (accM ++ [mx]) Ag cg accG wx))
      case first =>
        go_wp2_with fail
        have BD := hide (HBW.out.below (Below.refl _ wr).drew)
        have e0 : wr.drew.cell? ⟨b1, o1 + k, none⟩ = some (.int .i64 s1) := HC1.out _ BD.out.bel
        have e1 : wr.drew.cell? ⟨b2', o2 + k, none⟩ = some (.int .i64 w1) := HC2.out _ BD.out.bel
        have d1 : wr.drew.cell? ⟨gp, 1, none⟩ = some (.slice Am accM.length cm) := BD.out.box.cell 1
        clear HBW hszw
        refine wp_region_held_drew (S := fun W => W.cell? ⟨b1, o1 + k, none⟩ = some (.int .i64 s1) ∧ W.cell? ⟨b2', o2 + k, none⟩ = some (.int .i64 w1)) (by kernel_rfl) (⟨e0, e1⟩) (fun hHeld => ?_)
        generalize wr.drew = wd at *
        have hszw := BD.out.bel.size
        refine wpAnyH_take (i := 0) (v := ?_) rfl (by kernel_rfl) (by kernel_rfl) (by kernel_rfl) (fun _ _ _ h => h) (Or.inl ⟨by rfl, ?_⟩) (by assumption) ?_
        rotate_left 1
        · (intro w hSw; (try dsimp only at hSw); go_simp; try with_reducible rfl)
        try simp only [Act.put, List.getElem_toArray, List.getElem_cons_succ, List.getElem_cons_zero, List.setIfInBounds_toArray, List.set_cons_zero, List.set_cons_succ]
        refine wpAnyH_take (i := 1) (v := ?_) rfl (by kernel_rfl) (by kernel_rfl) (by kernel_rfl) (fun _ _ _ h => h) (Or.inl ⟨by rfl, ?_⟩) (by assumption) ?_
        rotate_left 1
        · (intro w hSw; (try dsimp only at hSw); go_simp; try with_reducible rfl)
        try simp only [Act.put, List.getElem_toArray, List.getElem_cons_succ, List.getElem_cons_zero, List.setIfInBounds_toArray, List.set_cons_zero, List.set_cons_succ]
        refine wpAnyH_take (i := 2) (v := ?_) rfl (by kernel_rfl) (by kernel_rfl) (by kernel_rfl) (fun _ _ _ h => h) (Or.inl ⟨by rfl, ?_⟩) (by assumption) ?_
        rotate_left 1
        · (intro w hSw; (try dsimp only at hSw); go_simp; try with_reducible rfl)
        try simp only [Act.put, List.getElem_toArray, List.getElem_cons_succ, List.getElem_cons_zero, List.setIfInBounds_toArray, List.set_cons_zero, List.set_cons_succ]
        refine wpAnyH_take (i := 3) (v := ?_) rfl (by kernel_rfl) (by kernel_rfl) (by kernel_rfl) (fun _ _ _ h => h) (Or.inl ⟨by rfl, ?_⟩) (by assumption) ?_
        rotate_left 1
        · (intro w hSw; (try dsimp only at hSw); go_simp; try with_reducible rfl)
        try simp only [Act.put, List.getElem_toArray, List.getElem_cons_succ, List.getElem_cons_zero, List.setIfInBounds_toArray, List.set_cons_zero, List.set_cons_succ]
        refine wpAnyH_take (i := 5) (v := ?_) rfl (by kernel_rfl) (by kernel_rfl) (by kernel_rfl) (fun _ _ _ h => h) (Or.inl ⟨by rfl, ?_⟩) (by assumption) ?_
        rotate_left 1
        · (intro w hSw; (try dsimp only at hSw); go_simp; try with_reducible rfl)
        try simp only [Act.put, List.getElem_toArray, List.getElem_cons_succ, List.getElem_cons_zero, List.setIfInBounds_toArray, List.set_cons_zero, List.set_cons_succ]
        refine wpAnyH_take (i := 6) (v := ?_) rfl (by kernel_rfl) (by kernel_rfl) (by kernel_rfl) (fun _ _ _ h => h) (Or.inl ⟨by rfl, ?_⟩) (by assumption) ?_
        rotate_left 1
        · (intro w hSw; (try dsimp only at hSw); go_simp; try with_reducible rfl)
        try simp only [Act.put, List.getElem_toArray, List.getElem_cons_succ, List.getElem_cons_zero, List.setIfInBounds_toArray, List.set_cons_zero, List.set_cons_succ]
        refine wpAnyH_take (i := 7) (v := ?_) rfl (by kernel_rfl) (by kernel_rfl) (by kernel_rfl) (fun _ _ _ h => h) (Or.inl ⟨by rfl, ?_⟩) (by assumption) ?_
        rotate_left 1
        · (intro w hSw; (try dsimp only at hSw); go_simp; try with_reducible rfl)
        try simp only [Act.put, List.getElem_toArray, List.getElem_cons_succ, List.getElem_cons_zero, List.setIfInBounds_toArray, List.set_cons_zero, List.set_cons_succ]
        refine wpAnyH_take (i := 8) (v := ?_) rfl (by kernel_rfl) (by kernel_rfl) (by kernel_rfl) (fun _ _ _ h => h) (Or.inl ⟨by rfl, ?_⟩) (by assumption) ?_
        rotate_left 1
        · (intro w hSw; (try dsimp only at hSw); go_simp; try with_reducible rfl)
        try simp only [Act.put, List.getElem_toArray, List.getElem_cons_succ, List.getElem_cons_zero, List.setIfInBounds_toArray, List.set_cons_zero, List.set_cons_succ]
        refine wpAnyH_take (i := 9) (v := ?_) rfl (by kernel_rfl) (by kernel_rfl) (by kernel_rfl) (fun _ _ _ h => h) (Or.inl ⟨by rfl, ?_⟩) (by assumption) ?_
        rotate_left 1
        · (intro w hSw; (try dsimp only at hSw); go_simp; try with_reducible rfl)
        try simp only [Act.put, List.getElem_toArray, List.getElem_cons_succ, List.getElem_cons_zero, List.setIfInBounds_toArray, List.set_cons_zero, List.set_cons_succ]
        refine wpAnyH_take (i := 10) (v := ?_) rfl (by kernel_rfl) (by kernel_rfl) (by kernel_rfl) (fun _ _ _ h => h) (Or.inl ⟨by rfl, ?_⟩) (by assumption) ?_
        rotate_left 1
        · (intro w hSw; (try dsimp only at hSw); go_simp; try with_reducible rfl)
        try simp only [Act.put, List.getElem_toArray, List.getElem_cons_succ, List.getElem_cons_zero, List.setIfInBounds_toArray, List.set_cons_zero, List.set_cons_succ]
        refine wpAnyH_take (i := 11) (v := ?_) rfl (by kernel_rfl) (by kernel_rfl) (by kernel_rfl) (fun _ _ _ h => h) (Or.inl ⟨by rfl, ?_⟩) (by assumption) ?_
        rotate_left 1
        · (intro w hSw; (try dsimp only at hSw); go_simp; try with_reducible rfl)
        try simp only [Act.put, List.getElem_toArray, List.getElem_cons_succ, List.getElem_cons_zero, List.setIfInBounds_toArray, List.set_cons_zero, List.set_cons_succ]
        refine wpAnyH_take (i := 12) (v := ?_) rfl (by kernel_rfl) (by kernel_rfl) (by kernel_rfl) (fun _ _ _ h => h) (Or.inl ⟨by rfl, ?_⟩) (by assumption) ?_
        rotate_left 1
        · (intro w hSw; (try dsimp only at hSw); go_simp; try with_reducible rfl)
        try simp only [Act.put, List.getElem_toArray, List.getElem_cons_succ, List.getElem_cons_zero, List.setIfInBounds_toArray, List.set_cons_zero, List.set_cons_succ]
        refine wpAnyH_take (i := 13) (v := ?_) rfl (by kernel_rfl) (by kernel_rfl) (by kernel_rfl) (fun _ _ _ h => h) (Or.inl ⟨by rfl, ?_⟩) (by assumption) ?_
        rotate_left 1
        · (intro w hSw; (try dsimp only at hSw); go_simp; try with_reducible rfl)
        try simp only [Act.put, List.getElem_toArray, List.getElem_cons_succ, List.getElem_cons_zero, List.setIfInBounds_toArray, List.set_cons_zero, List.set_cons_succ]
        refine wpAnyH_ready (rs := [4, 14]) (by kernel_rfl) (by simp) ?_
        refine AllReadyH.cons rfl (fun K hK => ?_) (AllReadyH.cons rfl (fun K hK => ?_) AllReadyH.nil)
        · try simp only [Act.put, List.getElem_toArray, List.getElem_cons_succ, List.getElem_cons_zero, List.setIfInBounds_toArray, List.set_cons_zero, List.set_cons_succ]
          go_simp
          refine hK.out _ _ (⟨e0, e1⟩) (fun hHeld => ?_)
          clear hK K
          try simp only [Act.put, List.getElem_toArray, List.getElem_cons_succ, List.getElem_cons_zero, List.setIfInBounds_toArray, List.set_cons_zero, List.set_cons_succ]
          refine wpAnyH_ready (rs := [14]) (by kernel_rfl) (by simp) ?_
          refine AllReadyH.cons rfl (fun K hK => ?_) AllReadyH.nil
          try simp only [Act.put, List.getElem_toArray, List.getElem_cons_succ, List.getElem_cons_zero, List.setIfInBounds_toArray, List.set_cons_zero, List.set_cons_succ]
          go_simp
          go_at_call 122
          refine (HMX.out _).mono ?_
          rintro e w' ⟨rfl, rfl⟩
          dsimp only
          refine hK.out _ _ (⟨e0, e1⟩) (fun hHeld => ?_)
          clear hK K
          try simp only [Act.put, List.getElem_toArray, List.getElem_cons_succ, List.getElem_cons_zero, List.setIfInBounds_toArray, List.set_cons_zero, List.set_cons_succ]
          refine wpAnyH_ready (rs := [15]) (by kernel_rfl) (by simp) ?_
          refine AllReadyH.cons rfl (fun K hK => ?_) AllReadyH.nil
          try simp only [Act.put, List.getElem_toArray, List.getElem_cons_succ, List.getElem_cons_zero, List.setIfInBounds_toArray, List.set_cons_zero, List.set_cons_succ]
          go_simp
          have B9 := hide (BD.out.below ((Below.refl _ _).alloc (Nat.le_refl _) (.cells #[.int .i64 mx] 2)))
          have f0 : (wd.alloc (.cells #[.int .i64 mx] 2)).cell? ⟨b1, o1 + k, none⟩ = some (.int .i64 s1) := (World.cell?_alloc_old _ _ _ (by dsimp only; omega)).trans e0
          have f1 : (wd.alloc (.cells #[.int .i64 mx] 2)).cell? ⟨b2', o2 + k, none⟩ = some (.int .i64 w1) := (World.cell?_alloc_old _ _ _ (by dsimp only; omega)).trans e1
          have g1 : (wd.alloc (.cells #[.int .i64 mx] 2)).cell? ⟨gp, 1, none⟩ = some (.slice Am accM.length cm) := B9.out.box.cell 1
          refine hK.out _ _ (⟨f0, f1⟩) (fun hHeld => ?_)
          clear hK K
          try simp only [Act.put, List.getElem_toArray, List.getElem_cons_succ, List.getElem_cons_zero, List.setIfInBounds_toArray, List.set_cons_zero, List.set_cons_succ]
          have hrd := rd_new wd [.int .i64 mx] 2 _ rfl
          have hoa := B9.out.rm
          have hsz9 := B9.out.bel.size
          refine wpAnyH_ready (rs := [16]) (by kernel_rfl) (by simp) ?_
          refine AllReadyH.cons rfl (fun K hK => ?_) AllReadyH.nil
          try simp only [Act.put, List.getElem_toArray, List.getElem_cons_succ, List.getElem_cons_zero, List.setIfInBounds_toArray, List.set_cons_zero, List.set_cons_succ]
          rw [if_pos (by rfl)]
          refine op_app _ _ _ 22 rfl w.heap.size 2 i0 (.int .i64 0) 1 8 Try.underlying22 hi0 hz0 hs0 hb0 rfl (by decide) _ _ _ rfl hoa _ _ 1 1 [.int .i64 mx] rfl rfl hrd (int_one _) (by omega) (by decide) hsz9 ?_
          intro v' w6 hown6 hgrow6 hat6
          obtain ⟨A7, c7, rfl, _⟩ := own_shape hown6
          have hbx6 : BoxN w6 gp _ _ := B9.out.boxM hgrow6
          have l0 : w6.cell? ⟨b1, o1 + k, none⟩ = some (.int .i64 s1) := by
            rw [World.cell?_of_block (a := ⟨b1, o1 + k, none⟩) (hgrow6.block b1 (by omega) fun e => by have := (hoa.lt b1 e.symm).1; omega)]; exact f0
          have l1 : w6.cell? ⟨b2', o2 + k, none⟩ = some (.int .i64 w1) := by
            rw [World.cell?_of_block (a := ⟨b2', o2 + k, none⟩) (hgrow6.block b2' (by omega) fun e => by have := (hoa.lt b2' e.symm).1; omega)]; exact f1
          have lf := hbx6.fro 1
          have lc := hbx6.cell 1
          have B7 := hide (B9.out.pushM hgrow6 hown6 hat6)
          dsimp only
          refine hK.out _ _ (⟨l0, l1⟩) (fun hHeld => ?_)
          clear hK K
          try simp only [Act.put, List.getElem_toArray, List.getElem_cons_succ, List.getElem_cons_zero, List.setIfInBounds_toArray, List.set_cons_zero, List.set_cons_succ]
          refine wpAnyH_take (i := 17) (v := ?_) rfl (by kernel_rfl) (by kernel_rfl) (by kernel_rfl) (fun _ _ _ h => h) (Or.inl ⟨by rfl, ?_⟩) (by assumption) ?_
          rotate_left 1
          · (intro w hSw; (try dsimp only at hSw); go_simp; try with_reducible rfl)
          try simp only [Act.put, List.getElem_toArray, List.getElem_cons_succ, List.getElem_cons_zero, List.setIfInBounds_toArray, List.set_cons_zero, List.set_cons_succ]
          refine wpAnyH_take (i := 18) (v := ?_) rfl (by kernel_rfl) (by kernel_rfl) (by kernel_rfl) (fun _ _ _ h => h) (Or.inl ⟨by rfl, ?_⟩) (by assumption) ?_
          rotate_left 1
          · (intro w hSw; (try dsimp only at hSw); go_simp; try with_reducible rfl)
          try simp only [Act.put, List.getElem_toArray, List.getElem_cons_succ, List.getElem_cons_zero, List.setIfInBounds_toArray, List.set_cons_zero, List.set_cons_succ]
          refine wpAnyH_ready (rs := [19]) (by kernel_rfl) (by simp) ?_
          refine AllReadyH.cons rfl (fun K hK => ?_) AllReadyH.nil
          try simp only [Act.put, List.getElem_toArray, List.getElem_cons_succ, List.getElem_cons_zero, List.setIfInBounds_toArray, List.set_cons_zero, List.set_cons_succ]
          go_simp
          have m0 : (w6.setCell ⟨gp, 1, none⟩ (.slice A7 (accM.length + 1) c7)).cell? ⟨b1, o1 + k, none⟩ = some (.int .i64 s1) := (World.cell?_setCell_other w6 ⟨gp, 1, none⟩ ⟨b1, o1 + k, none⟩ _ (fun e => by have := (Addr.mk.inj e).1; omega)).trans l0
          have m1 : (w6.setCell ⟨gp, 1, none⟩ (.slice A7 (accM.length + 1) c7)).cell? ⟨b2', o2 + k, none⟩ = some (.int .i64 w1) := (World.cell?_setCell_other w6 ⟨gp, 1, none⟩ ⟨b2', o2 + k, none⟩ _ (fun e => by have := (Addr.mk.inj e).1; omega)).trans l1
          refine hK.out _ _ (⟨m0, m1⟩) (fun hHeld => ?_)
          clear hK K
          try simp only [Act.put, List.getElem_toArray, List.getElem_cons_succ, List.getElem_cons_zero, List.setIfInBounds_toArray, List.set_cons_zero, List.set_cons_succ]
          refine wpAnyH_done (by kernel_rfl) ?_ _
          go_wp2_with fail
          go_meet
          exact ⟨A7, c7, B7⟩
        · try simp only [Act.put, List.getElem_toArray, List.getElem_cons_succ, List.getElem_cons_zero, List.setIfInBounds_toArray, List.set_cons_zero, List.set_cons_succ]
          go_simp
          go_at_call 122
          refine (HMX.out _).mono ?_
          rintro e w' ⟨rfl, rfl⟩
          dsimp only
          refine hK.out _ _ (⟨e0, e1⟩) (fun hHeld => ?_)
          clear hK K
          try simp only [Act.put, List.getElem_toArray, List.getElem_cons_succ, List.getElem_cons_zero, List.setIfInBounds_toArray, List.set_cons_zero, List.set_cons_succ]
          refine wpAnyH_ready (rs := [4, 15]) (by kernel_rfl) (by simp) ?_
          refine AllReadyH.cons rfl (fun K hK => ?_) (AllReadyH.cons rfl (fun K hK => ?_) AllReadyH.nil)
          · try simp only [Act.put, List.getElem_toArray, List.getElem_cons_succ, List.getElem_cons_zero, List.setIfInBounds_toArray, List.set_cons_zero, List.set_cons_succ]
            go_simp
            refine hK.out _ _ (⟨e0, e1⟩) (fun hHeld => ?_)
            clear hK K
            try simp only [Act.put, List.getElem_toArray, List.getElem_cons_succ, List.getElem_cons_zero, List.setIfInBounds_toArray, List.set_cons_zero, List.set_cons_succ]
            refine wpAnyH_ready (rs := [15]) (by kernel_rfl) (by simp) ?_
            refine AllReadyH.cons rfl (fun K hK => ?_) AllReadyH.nil
            try simp only [Act.put, List.getElem_toArray, List.getElem_cons_succ, List.getElem_cons_zero, List.setIfInBounds_toArray, List.set_cons_zero, List.set_cons_succ]
            go_simp
            have B9 := hide (BD.out.below ((Below.refl _ _).alloc (Nat.le_refl _) (.cells #[.int .i64 mx] 2)))
            have f0 : (wd.alloc (.cells #[.int .i64 mx] 2)).cell? ⟨b1, o1 + k, none⟩ = some (.int .i64 s1) := (World.cell?_alloc_old _ _ _ (by dsimp only; omega)).trans e0
            have f1 : (wd.alloc (.cells #[.int .i64 mx] 2)).cell? ⟨b2', o2 + k, none⟩ = some (.int .i64 w1) := (World.cell?_alloc_old _ _ _ (by dsimp only; omega)).trans e1
            have g1 : (wd.alloc (.cells #[.int .i64 mx] 2)).cell? ⟨gp, 1, none⟩ = some (.slice Am accM.length cm) := B9.out.box.cell 1
            refine hK.out _ _ (⟨f0, f1⟩) (fun hHeld => ?_)
            clear hK K
            try simp only [Act.put, List.getElem_toArray, List.getElem_cons_succ, List.getElem_cons_zero, List.setIfInBounds_toArray, List.set_cons_zero, List.set_cons_succ]
            have hrd := rd_new wd [.int .i64 mx] 2 _ rfl
            have hoa := B9.out.rm
            have hsz9 := B9.out.bel.size
            refine wpAnyH_ready (rs := [16]) (by kernel_rfl) (by simp) ?_
            refine AllReadyH.cons rfl (fun K hK => ?_) AllReadyH.nil
            try simp only [Act.put, List.getElem_toArray, List.getElem_cons_succ, List.getElem_cons_zero, List.setIfInBounds_toArray, List.set_cons_zero, List.set_cons_succ]
            rw [if_pos (by rfl)]
            refine op_app _ _ _ 22 rfl w.heap.size 2 i0 (.int .i64 0) 1 8 Try.underlying22 hi0 hz0 hs0 hb0 rfl (by decide) _ _ _ rfl hoa _ _ 1 1 [.int .i64 mx] rfl rfl hrd (int_one _) (by omega) (by decide) hsz9 ?_
            intro v' w6 hown6 hgrow6 hat6
            obtain ⟨A7, c7, rfl, _⟩ := own_shape hown6
            have hbx6 : BoxN w6 gp _ _ := B9.out.boxM hgrow6
            have l0 : w6.cell? ⟨b1, o1 + k, none⟩ = some (.int .i64 s1) := by
              rw [World.cell?_of_block (a := ⟨b1, o1 + k, none⟩) (hgrow6.block b1 (by omega) fun e => by have := (hoa.lt b1 e.symm).1; omega)]; exact f0
            have l1 : w6.cell? ⟨b2', o2 + k, none⟩ = some (.int .i64 w1) := by
              rw [World.cell?_of_block (a := ⟨b2', o2 + k, none⟩) (hgrow6.block b2' (by omega) fun e => by have := (hoa.lt b2' e.symm).1; omega)]; exact f1
            have lf := hbx6.fro 1
            have lc := hbx6.cell 1
            have B7 := hide (B9.out.pushM hgrow6 hown6 hat6)
            dsimp only
            refine hK.out _ _ (⟨l0, l1⟩) (fun hHeld => ?_)
            clear hK K
            try simp only [Act.put, List.getElem_toArray, List.getElem_cons_succ, List.getElem_cons_zero, List.setIfInBounds_toArray, List.set_cons_zero, List.set_cons_succ]
            refine wpAnyH_take (i := 17) (v := ?_) rfl (by kernel_rfl) (by kernel_rfl) (by kernel_rfl) (fun _ _ _ h => h) (Or.inl ⟨by rfl, ?_⟩) (by assumption) ?_
            rotate_left 1
            · (intro w hSw; (try dsimp only at hSw); go_simp; try with_reducible rfl)
            try simp only [Act.put, List.getElem_toArray, List.getElem_cons_succ, List.getElem_cons_zero, List.setIfInBounds_toArray, List.set_cons_zero, List.set_cons_succ]
            refine wpAnyH_take (i := 18) (v := ?_) rfl (by kernel_rfl) (by kernel_rfl) (by kernel_rfl) (fun _ _ _ h => h) (Or.inl ⟨by rfl, ?_⟩) (by assumption) ?_
            rotate_left 1
            · (intro w hSw; (try dsimp only at hSw); go_simp; try with_reducible rfl)
            try simp only [Act.put, List.getElem_toArray, List.getElem_cons_succ, List.getElem_cons_zero, List.setIfInBounds_toArray, List.set_cons_zero, List.set_cons_succ]
            refine wpAnyH_ready (rs := [19]) (by kernel_rfl) (by simp) ?_
            refine AllReadyH.cons rfl (fun K hK => ?_) AllReadyH.nil
            try simp only [Act.put, List.getElem_toArray, List.getElem_cons_succ, List.getElem_cons_zero, List.setIfInBounds_toArray, List.set_cons_zero, List.set_cons_succ]
            go_simp
            have m0 : (w6.setCell ⟨gp, 1, none⟩ (.slice A7 (accM.length + 1) c7)).cell? ⟨b1, o1 + k, none⟩ = some (.int .i64 s1) := (World.cell?_setCell_other w6 ⟨gp, 1, none⟩ ⟨b1, o1 + k, none⟩ _ (fun e => by have := (Addr.mk.inj e).1; omega)).trans l0
            have m1 : (w6.setCell ⟨gp, 1, none⟩ (.slice A7 (accM.length + 1) c7)).cell? ⟨b2', o2 + k, none⟩ = some (.int .i64 w1) := (World.cell?_setCell_other w6 ⟨gp, 1, none⟩ ⟨b2', o2 + k, none⟩ _ (fun e => by have := (Addr.mk.inj e).1; omega)).trans l1
            refine hK.out _ _ (⟨m0, m1⟩) (fun hHeld => ?_)
            clear hK K
            try simp only [Act.put, List.getElem_toArray, List.getElem_cons_succ, List.getElem_cons_zero, List.setIfInBounds_toArray, List.set_cons_zero, List.set_cons_succ]
            refine wpAnyH_done (by kernel_rfl) ?_ _
            go_wp2_with fail
            go_meet
            exact ⟨A7, c7, B7⟩
          · try simp only [Act.put, List.getElem_toArray, List.getElem_cons_succ, List.getElem_cons_zero, List.setIfInBounds_toArray, List.set_cons_zero, List.set_cons_succ]
            go_simp
            have B9 := hide (BD.out.below ((Below.refl _ _).alloc (Nat.le_refl _) (.cells #[.int .i64 mx] 2)))
            have f0 : (wd.alloc (.cells #[.int .i64 mx] 2)).cell? ⟨b1, o1 + k, none⟩ = some (.int .i64 s1) := (World.cell?_alloc_old _ _ _ (by dsimp only; omega)).trans e0
            have f1 : (wd.alloc (.cells #[.int .i64 mx] 2)).cell? ⟨b2', o2 + k, none⟩ = some (.int .i64 w1) := (World.cell?_alloc_old _ _ _ (by dsimp only; omega)).trans e1
            have g1 : (wd.alloc (.cells #[.int .i64 mx] 2)).cell? ⟨gp, 1, none⟩ = some (.slice Am accM.length cm) := B9.out.box.cell 1
            refine hK.out _ _ (⟨f0, f1⟩) (fun hHeld => ?_)
            clear hK K
            try simp only [Act.put, List.getElem_toArray, List.getElem_cons_succ, List.getElem_cons_zero, List.setIfInBounds_toArray, List.set_cons_zero, List.set_cons_succ]
            refine wpAnyH_ready (rs := [4]) (by kernel_rfl) (by simp) ?_
            refine AllReadyH.cons rfl (fun K hK => ?_) AllReadyH.nil
            try simp only [Act.put, List.getElem_toArray, List.getElem_cons_succ, List.getElem_cons_zero, List.setIfInBounds_toArray, List.set_cons_zero, List.set_cons_succ]
            go_simp
            refine hK.out _ _ (⟨f0, f1⟩) (fun hHeld => ?_)
            clear hK K
            try simp only [Act.put, List.getElem_toArray, List.getElem_cons_succ, List.getElem_cons_zero, List.setIfInBounds_toArray, List.set_cons_zero, List.set_cons_succ]
            have hrd := rd_new wd [.int .i64 mx] 2 _ rfl
            have hoa := B9.out.rm
            have hsz9 := B9.out.bel.size
            refine wpAnyH_ready (rs := [16]) (by kernel_rfl) (by simp) ?_
            refine AllReadyH.cons rfl (fun K hK => ?_) AllReadyH.nil
            try simp only [Act.put, List.getElem_toArray, List.getElem_cons_succ, List.getElem_cons_zero, List.setIfInBounds_toArray, List.set_cons_zero, List.set_cons_succ]
            rw [if_pos (by rfl)]
            refine op_app _ _ _ 22 rfl w.heap.size 2 i0 (.int .i64 0) 1 8 Try.underlying22 hi0 hz0 hs0 hb0 rfl (by decide) _ _ _ rfl hoa _ _ 1 1 [.int .i64 mx] rfl rfl hrd (int_one _) (by omega) (by decide) hsz9 ?_
            intro v' w6 hown6 hgrow6 hat6
            obtain ⟨A7, c7, rfl, _⟩ := own_shape hown6
            have hbx6 : BoxN w6 gp _ _ := B9.out.boxM hgrow6
            have l0 : w6.cell? ⟨b1, o1 + k, none⟩ = some (.int .i64 s1) := by
              rw [World.cell?_of_block (a := ⟨b1, o1 + k, none⟩) (hgrow6.block b1 (by omega) fun e => by have := (hoa.lt b1 e.symm).1; omega)]; exact f0
            have l1 : w6.cell? ⟨b2', o2 + k, none⟩ = some (.int .i64 w1) := by
              rw [World.cell?_of_block (a := ⟨b2', o2 + k, none⟩) (hgrow6.block b2' (by omega) fun e => by have := (hoa.lt b2' e.symm).1; omega)]; exact f1
            have lf := hbx6.fro 1
            have lc := hbx6.cell 1
            have B7 := hide (B9.out.pushM hgrow6 hown6 hat6)
            dsimp only
            refine hK.out _ _ (⟨l0, l1⟩) (fun hHeld => ?_)
            clear hK K
            try simp only [Act.put, List.getElem_toArray, List.getElem_cons_succ, List.getElem_cons_zero, List.setIfInBounds_toArray, List.set_cons_zero, List.set_cons_succ]
            refine wpAnyH_take (i := 17) (v := ?_) rfl (by kernel_rfl) (by kernel_rfl) (by kernel_rfl) (fun _ _ _ h => h) (Or.inl ⟨by rfl, ?_⟩) (by assumption) ?_
            rotate_left 1
            · (intro w hSw; (try dsimp only at hSw); go_simp; try with_reducible rfl)
            try simp only [Act.put, List.getElem_toArray, List.getElem_cons_succ, List.getElem_cons_zero, List.setIfInBounds_toArray, List.set_cons_zero, List.set_cons_succ]
            refine wpAnyH_take (i := 18) (v := ?_) rfl (by kernel_rfl) (by kernel_rfl) (by kernel_rfl) (fun _ _ _ h => h) (Or.inl ⟨by rfl, ?_⟩) (by assumption) ?_
            rotate_left 1
            · (intro w hSw; (try dsimp only at hSw); go_simp; try with_reducible rfl)
            try simp only [Act.put, List.getElem_toArray, List.getElem_cons_succ, List.getElem_cons_zero, List.setIfInBounds_toArray, List.set_cons_zero, List.set_cons_succ]
            refine wpAnyH_ready (rs := [19]) (by kernel_rfl) (by simp) ?_
            refine AllReadyH.cons rfl (fun K hK => ?_) AllReadyH.nil
            try simp only [Act.put, List.getElem_toArray, List.getElem_cons_succ, List.getElem_cons_zero, List.setIfInBounds_toArray, List.set_cons_zero, List.set_cons_succ]
            go_simp
            have m0 : (w6.setCell ⟨gp, 1, none⟩ (.slice A7 (accM.length + 1) c7)).cell? ⟨b1, o1 + k, none⟩ = some (.int .i64 s1) := (World.cell?_setCell_other w6 ⟨gp, 1, none⟩ ⟨b1, o1 + k, none⟩ _ (fun e => by have := (Addr.mk.inj e).1; omega)).trans l0
            have m1 : (w6.setCell ⟨gp, 1, none⟩ (.slice A7 (accM.length + 1) c7)).cell? ⟨b2', o2 + k, none⟩ = some (.int .i64 w1) := (World.cell?_setCell_other w6 ⟨gp, 1, none⟩ ⟨b2', o2 + k, none⟩ _ (fun e => by have := (Addr.mk.inj e).1; omega)).trans l1
            refine hK.out _ _ (⟨m0, m1⟩) (fun hHeld => ?_)
            clear hK K
            try simp only [Act.put, List.getElem_toArray, List.getElem_cons_succ, List.getElem_cons_zero, List.setIfInBounds_toArray, List.set_cons_zero, List.set_cons_succ]
            refine wpAnyH_done (by kernel_rfl) ?_ _
            go_wp2_with fail
            go_meet
            exact ⟨A7, c7, B7⟩
      case rest =>
        obtain ⟨A7, c7, HB7⟩ := hcut
        clear HBW hszw
        have hszw := HB7.out.bel.size
        have c13 := HC1.out _ HB7.out.bel
        go_wp2_with fail
        go_loopg [12] nn (fun g iv wr => ∃ (j : Nat) (Aj : Option Addr) (cj : Nat) (accj : List Int), j ≤ nn ∧ Hid (g = nn - j) ∧ iv = .int .i64 (s1 + (j : Int)) ∧ Hid (goalsGo 0 sh = accj ++ (List.replicate (nn - j) (k : Int) ++ goalsGo (k + 1) (sh.drop (k + 1)))) ∧ Hid (SwB w gp gb2 gb3 A5 c5 cs A7 c7 (accM ++ [mx]) Aj cj accj wr))
        case atStart => exact ⟨0, _, _, _, by omega, by simp [Hid], by simp, HG1, HB7⟩
        case round =>
          obtain ⟨j, Aj, cj, accj, hj, hgj, rfl, HGj, HBj⟩ := hrel
          clear HB7 HG1 c13 hszw
          have c14 := HC2.out _ HBj.out.bel
          by_cases hjn : j < nn
          · have hal : accj.length < 10000 := by
              have h1 := congrArg List.length HGj.out
              simp only [List.length_append, List.length_replicate] at h1
              omega
            have HGn := hide (HGj.out.trans (rep_step hjn))
            have cg1 : wr.cell? ⟨gp, 2, none⟩ = some (.slice Aj accj.length cj) := HBj.out.box.cell 2
            have rt1 := HBj.out.rg
            have hszw := HBj.out.bel.size
            have hjj : s1 + (j : Int) < w1 := by have := HNN.out.1 (by omega); omega
            have HBA := hide (HBj.out.below ((Below.refl _ wr).alloc (Nat.le_refl _) (.cells #[.int .i64 (k : Int)] 2)))
            go_wp2_with ((at_builtin; go_must (refine wp_app _ rfl _ _ 22 rfl (w.heap.size) 2 i0 (.int .i64 0) 1 8 Try.underlying22 hi0 hz0 hs0 hb0 rfl (by decide) _ _ _ rfl (rt1.alloc _) _ _ 1 1 [.int .i64 (k : Int)] rfl rfl (rd_new _ _ _ _ (by simp)) (int_one _) (by omega) (by decide) (by simp <;> omega) ?_); intro v3 w3 hown3 hgrow hat); obtain ⟨A9, c9, rfl, hc9, hcm9⟩ := own_shape hown3; have X3 : BoxN w3 gp _ _ := HBA.out.boxG hgrow; have f3 := X3.fro 2; have d3 := X3.cell 2)
            have HB9 := hide (HBA.out.pushG hgrow hown3 hat)
            go_roundg (nn - (j + 1))
            case measure => have := hgj.out; omega
            case rel => exact ⟨j + 1, A9, c9, accj ++ [(k : Int)], by omega, rfl, by congr 1; omega, HGn, HB9⟩
          · obtain rfl : j = nn := by omega
            have HGn := hide (show goalsGo 0 sh = accj ++ goalsGo (k + 1) (sh.drop (k + 1)) by rw [HGj.out, Nat.sub_self]; rfl)
            have hjj : w1 ≤ s1 + (j : Int) := by
              rcases Nat.eq_zero_or_pos j with h | h
              · have := HNN.out.2 h; omega
              · have := HNN.out.1 h; omega
            clear HGj
            go_wp2_with fail
            go_roundg (st.length - (k + 1))
            case measure => have := hg.out; omega
            case rel => exact ⟨k + 1, A7, c7, accM ++ [mx], Aj, cj, accj, by omega, rfl, by go_num, HTK, HGn, HBj⟩
    · obtain rfl : k = st.length := by omega
      have HGE := hide (show goalsGo 0 sh = accG by rw [HAG.out, goalsGo_end (by rw [HSL.out]; exact Nat.le_refl _), List.append_nil])
      have HME := hide (show accM = mo by rw [HAM.out, List.take_of_length_le (by rw [HML.out]; exact Nat.le_refl _)])
      obtain rfl := HME.out
      clear HAG HAM HSTB HWB HSG HMG
      have cg2 : wr.cell? ⟨gp, 2, none⟩ = some (.slice Ag accG.length cg) := HBW.out.box.cell 2
      rw [HGE.out] at HR HGL
      by_cases hs6 : 6 < sh.sum
      · have HR' := hide (HR2.out.trans (if_pos hs6))
        have hl6 : (6 : Int) < (accG.length : Int) := by have := HGL.out; omega
        have HB1 := hide HBW.out.bel
        clear hs6 HGL HBW
        go_wp2_with fail
        go_ret3
        exact ⟨_, by rw [HR'.out]; rfl, by rw [HR'.out]; exact O_MoveS.nil _ _ _ _ _, HB1.out⟩
      have hs6' : ¬ 6 < sh.sum := hs6
      have HRR := hide (HR.out (by omega))
      have hG6 : accG.length ≤ 6 := by have := HGL.out; omega
      have hl6 : ¬ (6 : Int) < (accG.length : Int) := by omega
      have hok : OkS st.length accG cs := by
        refine ⟨hl10, hG6, fun z hz => ?_, by have := HVC.out.1; omega, fun e he => ⟨by have := (HVC.out.2 e he).1; omega, (HVC.out.2 e he).2⟩⟩
        rw [← HGE.out] at hz
        have h1 := goalsGo_bd z hz
        have h2 := HSL.out
        omega
      have hom : OkM st.length accM := ⟨HML.out, HMB.out⟩
      have hmp : 0 < accM.length := by rw [HML.out]; omega
      obtain ⟨gm, rfl, hgm1, hgm2⟩ := own_posN' HBW.out.rm hmp
      have HSI := HBW.out.done HZ.out
      have hnx : Calls Try.prog 123 #[.pointer (some ⟨gp, 0, none⟩), .int .i64 0, .int .i64 0, .int .i64 0] wr _ := (msWalk_any w gp gm cm A5 Ag c5 cg cs accG st.length hok accG.length 0 0 0 wr accM [] [] (some ⟨gb2, 0, none⟩) 0 (.slice (some ⟨gb3, 0, none⟩) 0 0) (-1) (by omega) rfl hom (fun z hz => by cases hz) (fun _ => by simp [firstOf]) (by omega) (by omega) (by omega) (by simp) HSI)
      have HNX := hide hnx
      clear hnx
      clear hs6 hs6' HR HR2 HGE HME HSL HML HMB HSB HNS HVC HGL HBW hom hok HSI hmp hsum
      go_upto_region 20 with (go_at_call 123; (with_reducible refine (HNX.out).mono ?_); rintro e w8 ⟨rfl, At8, ct8, best, vb, least, hsr, hle8, hbl8, I8⟩)
      obtain ⟨Ab, cb, rfl, _, _⟩ := own_shape I8.rb
      have hbg : best.length ≤ accG.length := by
        have h1 := srch_len (gs := accG) (cs := cs) (nm := st.length) (L := accG.length) (r := accG.length) (tk := []) (more := accM) (cost := 0) (st := ([], -1)) (by simp) (by simp)
        rw [← hsr] at h1
        exact h1
      rw [← hsr] at HRR
      have ho1 := own_new0 w8 w8.heap.size 143 3 (Nat.le_refl _)
      have hoc : (w8.alloc (.cells #[] 143)).ownsRow w8.heap.size 143 3 (.slice (some ⟨w8.heap.size, 0, none⟩) 0 0) ([] : List T3).length (([] : List T3).flatMap T3.cells) := ho1
      have hb9 : Below w8.heap.size w8 (w8.alloc (.cells #[] 143)) := (Below.refl _ _).alloc (Nat.le_refl _) _
      have I8' := hide I8
      clear I8 HNX hsr ho1
      go_wp2_with fail
      go_loopg [13, 14] best.length (fun g s iv wr => ∃ (k : Nat) (out : List T3), k ≤ best.length ∧ Hid (g = best.length - k) ∧ iv = .int .i64 k ∧ Hid (wr.ownsRow w8.heap.size 143 3 s out.length (out.flatMap T3.cells)) ∧ Hid (mvGo [] best accG = mvGo out (best.drop k) (accG.drop k)) ∧ Hid (BmOk k out) ∧ Hid (Below w8.heap.size w8 wr))
      case atStart => exact ⟨0, [], by omega, by simp [Hid], rfl, hoc, rfl, ⟨by simp, by omega, fun m hm => by simp at hm⟩, hb9⟩
      case round =>
        obtain ⟨k, out, hk, hg, rfl, HOW, HGO, HBO, HBW⟩ := hrel
        clear hoc hb9
        have HIR := hide (I8'.out.below HBW.out)
        have b4 : wr.cell? ⟨gp, 4, none⟩ = some (.slice Ab best.length cb) := HIR.out.box.cell 4
        by_cases hlt : k < best.length
        · obtain ⟨bk, hbk⟩ : ∃ z, best[k]? = some z := ⟨_, List.getElem?_eq_getElem hlt⟩
          obtain ⟨gk, hgk⟩ : ∃ z, accG[k]? = some z := ⟨_, List.getElem?_eq_getElem (by omega)⟩
          have HG1 := hide (HGO.out.trans (mvGo_at hbk hgk))
          obtain ⟨gb, rfl, _, _⟩ := own_posN' HIR.out.rb (by omega)
          obtain ⟨gg, rfl, _, _⟩ := own_posN' HIR.out.rg (by omega)
          have cbk : wr.cell? ⟨gb, k, none⟩ = some (.int .i64 bk) := by rw [HIR.out.rb.cellAt k (by omega), List.getElem?_map, hbk]; rfl
          have cgk : wr.cell? ⟨gg, k, none⟩ = some (.int .i64 gk) := by rw [HIR.out.rg.cellAt k (by omega), List.getElem?_map, hgk]; rfl
          have b2c : wr.cell? ⟨gp, 2, none⟩ = some (.slice (some ⟨gg, 0, none⟩) accG.length cg) := HIR.out.box.cell 2
          have hkb : (k : Int) < (best.length : Int) := by omega
          have hka : (k : Int) < (accG.length : Int) := by omega
          have hk0 : (0 : Int) ≤ (k : Int) := by omega
          have hol := HBO.out.1
          obtain ⟨Ao, co, rfl, _, _⟩ := own_shape HOW.out
          have hwl : IntKind.i64.wrap ((out.length : Int) - 1) = (out.length : Int) - 1 := by rw [IntKind.wrap_i64] <;> omega
          have HGK := hide hgk
          have HBK := hide hbk
          clear hbk hgk HGO
          go_upto_region 25 with fail
          go_cut [15, 146] (fun l c wx => l = .int .i64 ((out.length : Int) - 1) ∧ ∃ bb : Bool, c = .bool bb ∧ Hid (sameB out bk gk = bb) ∧ Hid (Below w8.heap.size w8 wx) ∧ Hid (wx.ownsRow w8.heap.size 143 3 (.slice Ao out.length co) out.length (out.flatMap T3.cells)))
          case first =>
            by_cases hz : out.length = 0
            · have hk9 : k = 0 := by
                rcases Nat.eq_zero_or_pos k with h | h
                · exact h
                · have := HBO.out.2.1 h; omega
              have hkz : decide (0 < k) = false := decide_eq_false (by omega)
              have hkz2 : decide ((0 : Int) < (k : Int)) = false := decide_eq_false (by omega)
              have HSN := hide (sameB_nil (f := bk) (t := gk) (List.eq_nil_of_length_eq_zero hz))
              clear hz hk9
              go_quiet (fail)
              go_wp2_with fail
              go_meet
              exact ⟨rfl, false, by first | rfl | go_num, HSN.out, bdn HBW.out nq, HOW.out⟩
            · obtain ⟨j, hj⟩ : ∃ j, out.length = j + 1 := ⟨out.length - 1, by omega⟩
              obtain ⟨m, hm⟩ : ∃ m, out[j]? = some m := ⟨_, List.getElem?_eq_getElem (by omega)⟩
              have hm' : out[out.length - 1]? = some m := by rw [show out.length - 1 = j by omega]; exact hm
              obtain ⟨go, rfl, _, _⟩ := own_posN' HOW.out (by omega)
              have hjI : (out.length : Int) - 1 = (j : Int) := by omega
              have hcm := fun q (hq : q < 3) => (HOW.out.cellAt (j * 3 + q) (by omega)).trans ((flatMap_at3 hm hq))
              have cm0 : wr.cell? ⟨go, j * 3, none⟩ = some (.int .i64 m.a) := hcm 0 (by omega)
              have cm1 : wr.cell? ⟨go, j * 3 + 1, none⟩ = some (.int .i64 m.b) := hcm 1 (by omega)
              have hj0 : (0 : Int) ≤ (j : Int) := by omega
              have hjo : (j : Int) < (out.length : Int) := by omega
              have hkz : decide (0 < k) = true := decide_eq_true (by omega)
              have hkz2 : decide ((0 : Int) < (k : Int)) = true := decide_eq_true (by omega)
              have HSA := hide (sameB_at (f := bk) (t := gk) hm')
              rw [hjI] at hwl ⊢
              clear hcm hm hm' hz
              by_cases ha : m.a = bk
              · have hB1 : (m.a == bk) = true := by simp [ha]
                by_cases hb : m.b = gk
                · have hB2 : (m.b == gk) = true := by simp [hb]
                  have HSY := hide (HSA.out.trans (decide_eq_true ⟨ha, hb⟩))
                  have HA := hide ha
                  have HB := hide hb
                  clear ha hb HSA
                  go_quiet (fail)
                  go_wp2_with fail
                  go_meet
                  exact ⟨by rw [hjI], true, by first | rfl | go_num, HSY.out, bdn HBW.out nq, HOW.out⟩
                · have hB2 : (m.b == gk) = false := by simp [hb]
                  have HSY := hide (HSA.out.trans (decide_eq_false (fun h => hb h.2)))
                  have HA := hide ha
                  have HB := hide hb
                  clear ha hb HSA
                  go_quiet (fail)
                  go_wp2_with fail
                  go_meet
                  exact ⟨by rw [hjI], false, by first | rfl | go_num, HSY.out, bdn HBW.out nq, HOW.out⟩
              · have hB1 : (m.a == bk) = false := by simp [ha]
                have HSY := hide (HSA.out.trans (decide_eq_false (fun h => ha h.1)))
                have HA := hide ha
                clear ha HSA
                go_quiet (fail)
                go_wp2_with fail
                go_meet
                exact ⟨by rw [hjI], false, by first | rfl | go_num, HSY.out, bdn HBW.out nq, HOW.out⟩
          case rest =>
            obtain ⟨rfl, bb, rfl, HSB, HB2, HO2⟩ := hcut
            have HI2 := hide (I8'.out.below HB2.out)
            clear HOW HIR HBW cbk b4 b2c cgk hwl
            cases bb
            · have HP := hide (sameB_no HSB.out)
              clear HSB
              go_wp2_with fail
              have HBD := hide HB2.out.drew
              have HID := hide (I8'.out.below HBD.out)
              have HOD : Hid (wc.drew.ownsRow w8.heap.size 143 3 (.slice Ao out.length co) out.length (out.flatMap T3.cells)) := HO2.out
              have e4 : wc.drew.cell? ⟨gp, 4, none⟩ = some (.slice (some ⟨gb, 0, none⟩) best.length cb) := HID.out.box.cell 4
              have e2 : wc.drew.cell? ⟨gp, 2, none⟩ = some (.slice (some ⟨gg, 0, none⟩) accG.length cg) := HID.out.box.cell 2
              have ebk : wc.drew.cell? ⟨gb, k, none⟩ = some (.int .i64 bk) := by rw [HID.out.rb.cellAt k (by omega), List.getElem?_map, HBK.out]; rfl
              have egk : wc.drew.cell? ⟨gg, k, none⟩ = some (.int .i64 gk) := by rw [HID.out.rg.cellAt k (by omega), List.getElem?_map, HGK.out]; rfl
              refine wp_region_held_drew (S := fun W => W.cell? ⟨gp, 4, none⟩ = some (.slice (some ⟨gb, 0, none⟩) best.length cb) ∧ W.cell? ⟨gp, 2, none⟩ = some (.slice (some ⟨gg, 0, none⟩) accG.length cg) ∧ W.cell? ⟨gb, k, none⟩ = some (.int .i64 bk) ∧ W.cell? ⟨gg, k, none⟩ = some (.int .i64 gk)) (by kernel_rfl) (⟨e4, e2, ebk, egk⟩) (fun hHeld => ?_)
              clear HI2 HO2 HB2 e4 e2 ebk egk
              generalize wc.drew = wd at *
              refine wpAnyH_take (i := 0) (v := ?_) rfl (by kernel_rfl) (by kernel_rfl) (by kernel_rfl) (fun _ _ _ h => h) (Or.inl ⟨by rfl, ?_⟩) (by assumption) ?_
              rotate_left 1
              · (intro w hSw; (try dsimp only at hSw); go_simp; try with_reducible rfl)
              try simp only [Act.put, List.getElem_toArray, List.getElem_cons_succ, List.getElem_cons_zero, List.setIfInBounds_toArray, List.set_cons_zero, List.set_cons_succ]
              refine wpAnyH_take (i := 1) (v := ?_) rfl (by kernel_rfl) (by kernel_rfl) (by kernel_rfl) (fun _ _ _ h => h) (Or.inl ⟨by rfl, ?_⟩) (by assumption) ?_
              rotate_left 1
              · (intro w hSw; (try dsimp only at hSw); go_simp; try with_reducible rfl)
              try simp only [Act.put, List.getElem_toArray, List.getElem_cons_succ, List.getElem_cons_zero, List.setIfInBounds_toArray, List.set_cons_zero, List.set_cons_succ]
              refine wpAnyH_take (i := 2) (v := ?_) rfl (by kernel_rfl) (by kernel_rfl) (by kernel_rfl) (fun _ _ _ h => h) (Or.inl ⟨by rfl, ?_⟩) (by assumption) ?_
              rotate_left 1
              · (intro w hSw; (try dsimp only at hSw); go_simp; try with_reducible rfl)
              try simp only [Act.put, List.getElem_toArray, List.getElem_cons_succ, List.getElem_cons_zero, List.setIfInBounds_toArray, List.set_cons_zero, List.set_cons_succ]
              refine wpAnyH_take (i := 3) (v := ?_) rfl (by kernel_rfl) (by kernel_rfl) (by kernel_rfl) (fun _ _ _ h => h) (Or.inl ⟨by rfl, ?_⟩) (by assumption) ?_
              rotate_left 1
              · (intro w hSw; (try dsimp only at hSw); go_simp; try with_reducible rfl)
              try simp only [Act.put, List.getElem_toArray, List.getElem_cons_succ, List.getElem_cons_zero, List.setIfInBounds_toArray, List.set_cons_zero, List.set_cons_succ]
              refine wpAnyH_take (i := 4) (v := ?_) rfl (by kernel_rfl) (by kernel_rfl) (by kernel_rfl) (fun _ _ _ h => h) (Or.inl ⟨by rfl, ?_⟩) (by assumption) ?_
              rotate_left 1
              · (intro w hSw; (try dsimp only at hSw); go_simp; try with_reducible rfl)
              try simp only [Act.put, List.getElem_toArray, List.getElem_cons_succ, List.getElem_cons_zero, List.setIfInBounds_toArray, List.set_cons_zero, List.set_cons_succ]
              refine wpAnyH_take (i := 5) (v := ?_) rfl (by kernel_rfl) (by kernel_rfl) (by kernel_rfl) (fun _ _ _ h => h) (Or.inl ⟨by rfl, ?_⟩) (by assumption) ?_
              rotate_left 1
              · (intro w hSw; (try dsimp only at hSw); go_simp; try with_reducible rfl)
              try simp only [Act.put, List.getElem_toArray, List.getElem_cons_succ, List.getElem_cons_zero, List.setIfInBounds_toArray, List.set_cons_zero, List.set_cons_succ]
              refine wpAnyH_take (i := 6) (v := ?_) rfl (by kernel_rfl) (by kernel_rfl) (by kernel_rfl) (fun _ _ _ h => h) (Or.inl ⟨by rfl, ?_⟩) (by assumption) ?_
              rotate_left 1
              · (intro w hSw; (try dsimp only at hSw); go_simp; try with_reducible rfl)
              try simp only [Act.put, List.getElem_toArray, List.getElem_cons_succ, List.getElem_cons_zero, List.setIfInBounds_toArray, List.set_cons_zero, List.set_cons_succ]
              refine wpAnyH_take (i := 7) (v := ?_) rfl (by kernel_rfl) (by kernel_rfl) (by kernel_rfl) (fun _ _ _ h => h) (Or.inl ⟨by rfl, ?_⟩) (by assumption) ?_
              rotate_left 1
              · (intro w hSw; (try dsimp only at hSw); go_simp; try with_reducible rfl)
              try simp only [Act.put, List.getElem_toArray, List.getElem_cons_succ, List.getElem_cons_zero, List.setIfInBounds_toArray, List.set_cons_zero, List.set_cons_succ]
              refine wpAnyH_take (i := 8) (v := ?_) rfl (by kernel_rfl) (by kernel_rfl) (by kernel_rfl) (fun _ _ _ h => h) (Or.inl ⟨by rfl, ?_⟩) (by assumption) ?_
              rotate_left 1
              · (intro w hSw; (try dsimp only at hSw); go_simp; try with_reducible rfl)
              try simp only [Act.put, List.getElem_toArray, List.getElem_cons_succ, List.getElem_cons_zero, List.setIfInBounds_toArray, List.set_cons_zero, List.set_cons_succ]
              refine wpAnyH_take (i := 9) (v := ?_) rfl (by kernel_rfl) (by kernel_rfl) (by kernel_rfl) (fun _ _ _ h => h) (Or.inl ⟨by rfl, ?_⟩) (by assumption) ?_
              rotate_left 1
              · (intro w hSw; (try dsimp only at hSw); go_simp; try with_reducible rfl)
              try simp only [Act.put, List.getElem_toArray, List.getElem_cons_succ, List.getElem_cons_zero, List.setIfInBounds_toArray, List.set_cons_zero, List.set_cons_succ]
              refine wpAnyH_take (i := 10) (v := ?_) rfl (by kernel_rfl) (by kernel_rfl) (by kernel_rfl) (fun _ _ _ h => h) (Or.inl ⟨by rfl, ?_⟩) (by assumption) ?_
              rotate_left 1
              · (intro w hSw; (try dsimp only at hSw); go_simp; try with_reducible rfl)
              try simp only [Act.put, List.getElem_toArray, List.getElem_cons_succ, List.getElem_cons_zero, List.setIfInBounds_toArray, List.set_cons_zero, List.set_cons_succ]
              refine wpAnyH_take (i := 11) (v := ?_) rfl (by kernel_rfl) (by kernel_rfl) (by kernel_rfl) (fun _ _ _ h => h) (Or.inl ⟨by rfl, ?_⟩) (by assumption) ?_
              rotate_left 1
              · (intro w hSw; (try dsimp only at hSw); go_simp; try with_reducible rfl)
              try simp only [Act.put, List.getElem_toArray, List.getElem_cons_succ, List.getElem_cons_zero, List.setIfInBounds_toArray, List.set_cons_zero, List.set_cons_succ]
              refine wpAnyH_take (i := 12) (v := ?_) rfl (by kernel_rfl) (by kernel_rfl) (by kernel_rfl) (fun _ _ _ h => h) (Or.inl ⟨by rfl, ?_⟩) (by assumption) ?_
              rotate_left 1
              · (intro w hSw; (try dsimp only at hSw); go_simp; try with_reducible rfl)
              try simp only [Act.put, List.getElem_toArray, List.getElem_cons_succ, List.getElem_cons_zero, List.setIfInBounds_toArray, List.set_cons_zero, List.set_cons_succ]
              refine wpAnyH_take (i := 13) (v := ?_) rfl (by kernel_rfl) (by kernel_rfl) (by kernel_rfl) (fun _ _ _ h => h) (Or.inl ⟨by rfl, ?_⟩) (by assumption) ?_
              rotate_left 1
              · (intro w hSw; (try dsimp only at hSw); go_simp; try with_reducible rfl)
              try simp only [Act.put, List.getElem_toArray, List.getElem_cons_succ, List.getElem_cons_zero, List.setIfInBounds_toArray, List.set_cons_zero, List.set_cons_succ]
              refine wpAnyH_take (i := 14) (v := ?_) rfl (by kernel_rfl) (by kernel_rfl) (by kernel_rfl) (fun _ _ _ h => h) (Or.inl ⟨by rfl, ?_⟩) (by assumption) ?_
              rotate_left 1
              · (intro w hSw; (try dsimp only at hSw); go_simp; try with_reducible rfl)
              try simp only [Act.put, List.getElem_toArray, List.getElem_cons_succ, List.getElem_cons_zero, List.setIfInBounds_toArray, List.set_cons_zero, List.set_cons_succ]
              refine wpAnyH_take (i := 15) (v := ?_) rfl (by kernel_rfl) (by kernel_rfl) (by kernel_rfl) (fun _ _ _ h => h) (Or.inl ⟨by rfl, ?_⟩) (by assumption) ?_
              rotate_left 1
              · (intro w hSw; (try dsimp only at hSw); go_simp; try with_reducible rfl)
              try simp only [Act.put, List.getElem_toArray, List.getElem_cons_succ, List.getElem_cons_zero, List.setIfInBounds_toArray, List.set_cons_zero, List.set_cons_succ]
              refine wpAnyH_ready (rs := [16]) (by kernel_rfl) (by simp) ?_
              refine AllReadyH.cons rfl (fun K hK => ?_) AllReadyH.nil
              try simp only [Act.put, List.getElem_toArray, List.getElem_cons_succ, List.getElem_cons_zero, List.setIfInBounds_toArray, List.set_cons_zero, List.set_cons_succ]
              go_simp
              have HBE := hide (HBD.out.alloc HBD.out.size (.cells #[.int .i64 bk, .int .i64 gk, .int .i64 1] 143))
              have HIE := hide (I8'.out.below HBE.out)
              have hoe := HOD.out.alloc (.cells #[.int .i64 bk, .int .i64 gk, .int .i64 1] 143)
              have hrd := rd_new wd [.int .i64 bk, .int .i64 gk, .int .i64 1] 143 _ rfl
              have hsze := HBE.out.size
              refine hK.out _ _ (⟨HIE.out.box.cell 4, HIE.out.box.cell 2, by rw [HIE.out.rb.cellAt k (by omega), List.getElem?_map, HBK.out]; rfl, by rw [HIE.out.rg.cellAt k (by omega), List.getElem?_map, HGK.out]; rfl⟩) (fun hHeld => ?_)
              clear hK K
              try simp only [Act.put, List.getElem_toArray, List.getElem_cons_succ, List.getElem_cons_zero, List.setIfInBounds_toArray, List.set_cons_zero, List.set_cons_succ]
              refine wpAnyH_ready (rs := [17]) (by kernel_rfl) (by simp) ?_
              refine AllReadyH.cons rfl (fun K hK => ?_) AllReadyH.nil
              try simp only [Act.put, List.getElem_toArray, List.getElem_cons_succ, List.getElem_cons_zero, List.setIfInBounds_toArray, List.set_cons_zero, List.set_cons_succ]
              rw [if_pos (by rfl)]
              refine op_app _ _ _ 25 rfl w8.heap.size 143 j0 (.agg #[.int .i64 0, .int .i64 0, .int .i64 0]) 3 24 Try.underlying25 hj0 hy0 ht0 hc0 rfl (by decide) _ _ _ rfl hoe _ _ 1 1 [.int .i64 bk, .int .i64 gk, .int .i64 1] rfl rfl hrd (T3.one1 ⟨bk, gk, 1⟩) (by omega) (by decide) hsze ?_
              intro v2 w5 hown2 hgrow hat
              have HBF := hide (app_below HBE.out hoe hgrow (Nat.le_refl _) hsze)
              have HIF := hide (I8'.out.below HBF.out)
              dsimp only
              refine hK.out _ _ (⟨HIF.out.box.cell 4, HIF.out.box.cell 2, by rw [HIF.out.rb.cellAt k (by omega), List.getElem?_map, HBK.out]; rfl, by rw [HIF.out.rg.cellAt k (by omega), List.getElem?_map, HGK.out]; rfl⟩) (fun hHeld => ?_)
              clear hK K
              try simp only [Act.put, List.getElem_toArray, List.getElem_cons_succ, List.getElem_cons_zero, List.setIfInBounds_toArray, List.set_cons_zero, List.set_cons_succ]
              refine wpAnyH_take (i := 18) (v := ?_) rfl (by kernel_rfl) (by kernel_rfl) (by kernel_rfl) (fun _ _ _ h => h) (Or.inl ⟨by rfl, ?_⟩) (by assumption) ?_
              rotate_left 1
              · (intro w hSw; (try dsimp only at hSw); go_simp; try with_reducible rfl)
              try simp only [Act.put, List.getElem_toArray, List.getElem_cons_succ, List.getElem_cons_zero, List.setIfInBounds_toArray, List.set_cons_zero, List.set_cons_succ]
              refine wpAnyH_done (by kernel_rfl) ?_ _
              go_wp2_with fail
              go_roundg (best.length - (k + 1))
              case measure => have := hg.out; omega
              case rel => exact ⟨k + 1, out ++ [(⟨bk, gk, 1⟩ : T3)], by omega, rfl, by go_num, by rw [flat_snoc3, List.length_append]; exact hown2, by unfold Hid; rw [HG1.out, HP.out], HBO.out.push bk gk, HBF.out⟩
            · obtain ⟨m, hm, hpu⟩ := sameB_yes HSB.out
              have hlo := lt_of_get hm
              obtain ⟨j, hj⟩ : ∃ j, out.length = j + 1 := ⟨out.length - 1, by omega⟩
              have hjI : (out.length : Int) - 1 = (j : Int) := by omega
              have hjn : out.length - 1 = j := by omega
              have hBU := HBO.out.up hm
              rw [hjn] at hm hpu hBU
              obtain ⟨go, rfl, _, _⟩ := own_posN' HO2.out (by omega)
              have hcm : wc.cell? ⟨go, j * 3 + 2, none⟩ = some (.int .i64 m.c) := (HO2.out.cellAt (j * 3 + 2) (by omega)).trans (flatMap_at3 hm (by omega))
              have fcm := HO2.out.frozenAt (j * 3 + 2)
              have hj00 : (0 : Int) ≤ (j : Int) := by omega
              have hjo : (j : Int) < (out.length : Int) := by omega
              have hmb := HBO.out.2.2 m (List.mem_of_getElem? hm)
              have hwm : IntKind.i64.wrap (m.c + 1) = m.c + 1 := by rw [IntKind.wrap_i64] <;> omega
              have hst := (HO2.out.stored (j * 3 + 2) (.int .i64 (m.c + 1))).1
              rw [T3.storec hm] at hst
              have HST := hide hst
              have HPU := hide hpu
              have HBU := hide hBU
              have hgo8 : w8.heap.size ≤ go := (HO2.out.lt go rfl).1
              have hb5 := HB2.out.setCell (p := ⟨go, j * 3 + 2, none⟩) hgo8 (.int .i64 (m.c + 1))
              clear hm hpu hBU hst HSB hmb HI2
              rw [hjI]
              go_wp2_with fail
              go_roundg (best.length - (k + 1))
              case measure => have := hg.out; omega
              case rel => exact ⟨k + 1, out.set j ⟨m.a, m.b, m.c + 1⟩, by omega, rfl, by go_num, by rw [List.length_set]; exact HST.out, by unfold Hid; rw [HG1.out, HPU.out], HBU.out, hb5⟩
        · obtain rfl : k = best.length := by omega
          have HE := hide (HGO.out.trans (mvGo_end (Nat.le_refl _)))
          have b5 : wr.cell? ⟨gp, 5, none⟩ = some (.int .i64 least) := HIR.out.box.cell 5
          clear HGO
          go_wp2_with fail
          go_quiet (fail)
          go_wp2_with fail
          go_ret3
          refine ⟨_, by rw [HRR.out]; rfl, ?_, ?_⟩
          · rw [HRR.out, HE.out]
            have hO : O_MoveS _ w.heap.size _ u13 out := OwnV.of_row (own_base (own_below HOW.out (bdn (Below.refl _ _) nq) (Nat.le_refl _)) I8'.out.bel.size) (by have := HBO.out.1; omega)
            exact hO
          · exact bdn (I8'.out.bel.trans (HBW.out.mono I8'.out.bel.size)) nq
end Go.Proofs.Ytklfjekpeoigoaa
