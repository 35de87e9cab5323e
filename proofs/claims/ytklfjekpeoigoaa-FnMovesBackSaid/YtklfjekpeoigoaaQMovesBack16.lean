/-
  Moves that bring what is wanted; in the program and in the reference.
-/
import Derived.Test.YtklfjekpeoigoaaQMovesBack14
import Derived.Test.YtklfjekpeoigoaaQMovesBack15
namespace Go.Proofs.Ytklfjekpeoigoaa
open Go.RowKit

theorem Move_info2 : (Try.prog.info? 143).map (fun i => (i.zero, i.size, i.bytes)) = some (some (.agg #[.int .i64 0, .int .i64 0, .int .i64 0]), 3, 24) := by kernel_rfl
theorem T3.one1 (x : T3) : ∀ u ∈ [Value.int .i64 x.a, .int .i64 x.b, .int .i64 x.c], u.oneCell' = true := by
  intro u hu
  simp only [List.mem_cons, List.not_mem_nil, or_false] at hu
  rcases hu with rfl | rfl | rfl <;> rfl
theorem flat_snoc3 (out : List T3) (x : T3) : (out ++ [x]).flatMap T3.cells = out.flatMap T3.cells ++ [.int .i64 x.a, .int .i64 x.b, .int .i64 x.c] := by
  rw [List.flatMap_append]; rfl
theorem ds_at {n : Nat} {D : List Int} (h : DOk n D) {i : Nat} (hi : i < n) : ∃ d, D[i]? = some d ∧ -200 ≤ d ∧ d ≤ 200 := by
  have hl := h.1
  have hg : D[i]? = some D[i] := List.getElem?_eq_getElem (by omega)
  exact ⟨_, hg, h.2 _ (List.mem_of_getElem? hg)⟩
theorem sum_bd {zs : List Int} (h : ∀ z ∈ zs, 0 ≤ z ∧ z ≤ 200) : ∀ z ∈ zs, -1099511627776 ≤ z ∧ z ≤ 1099511627776 := fun z hz => by have := h z hz; omega
set_option maxRecDepth 100000 in
set_option maxHeartbeats 8000000 in
theorem P_MovesBack (st : List Int) (v : Value) (wa : List Int) (u : Value) (w : World) (h0 : st.length ≤ 1048576) (_ : ∀ z ∈ st, -9223372036854775808 ≤ z ∧ z ≤ 9223372036854775807) (h : R_Int64S w w.heap.size v st) (hs : wa.length ≤ 1048576) (_ : ∀ z ∈ wa, -9223372036854775808 ≤ z ∧ z ≤ 9223372036854775807) (k : R_Int64S w w.heap.size u wa) :
    Calls Try.prog 26 #[v, u] w fun e w' => ∃ r, e = .returned (.tuple #[r, .int .i64 (movesBack st wa).2]) ∧ O_MoveS w' w.heap.size w'.heap.size r (movesBack st wa).1 ∧ Below w.heap.size w w' := by
  obtain ⟨A, c, rfl, h1⟩ := h
  obtain ⟨A2, c2, rfl, h2⟩ := k
  have HC := hide (wantsCode_any st wa A c A2 c2 w h0 hs h1 h2)
  have HBL := hide fun (hcd : codeWa st wa = 0) W (hW : Below w.heap.size w W) => balance_any st wa A c A2 c2 W hcd ((h1.below hW).more hW.size) ((h2.below hW).more hW.size)
  by_cases hcd : codeWa st wa = 0
  case neg =>
    have HR := hide (show movesBack st wa = ([], codeWa st wa) by unfold movesBack; exact if_neg hcd)
    have hne : (codeWa st wa != 0) = true := by simp [hcd]
    clear h1 h2
    generalize codeWa st wa = cd at *
    go_enter Try.func26, Try.ntmps26
    go_wp2_with (go_at_call 124; refine (HC.out).mono ?_; rintro e w1 ⟨rfl, hb1⟩)
    go_ret2
    exact ⟨_, by rw [HR.out]; rfl, by rw [HR.out]; exact O_MoveS.nil _ _ _ _ _, hb1⟩
  obtain ⟨hv, hwl, hwb⟩ := codeWa_ok hcd
  have HS1 := hide fun W (hW : Below w.heap.size w W) => sumOf_any st A c W h0 (sum_bd (stock_bd hv)) ((h1.below hW).more hW.size)
  have HS2 := hide fun W (hW : Below w.heap.size w W) => sumOf_any wa A2 c2 W hs (sum_bd hwb) ((h2.below hW).more hW.size)
  have HR0 := hide (show movesBack st wa = if st.sum < wa.sum then ([], 5) else ((mbOut st.length 0 (deltas st wa, [])).2, 0) by unfold movesBack; exact if_pos hcd)
  have HDO := hide (DOk.start hcd)
  have HVS := hide (via_sh hwl)
  have HVM := hide (via_mo hwl)
  have hl2 := (stOk_of hv).2.1
  have hl10 := (stOk_of hv).2.2
  have HB := hide (HBL.out hcd)
  have HSL := hide (shGo_len hwl)
  have HML := hide (moGo_len hwl)
  rw [hcd] at HC
  clear hcd hv hwl hwb HBL h1 h2
  by_cases hsum : st.sum < wa.sum
  · have HR := hide (HR0.out.trans (if_pos hsum))
    generalize st.sum = ss at *
    generalize wa.sum = sw at *
    have hB : decide (ss < sw) = true := decide_eq_true hsum
    go_enter Try.func26, Try.ntmps26
    go_wp2_with (first | (go_at_call 124; refine (HC.out).mono ?_; rintro e w1 ⟨rfl, hb1⟩) | (go_at_call 127; first | ((with_reducible refine (HS2.out _ hb1).mono ?_); rintro e w' ⟨rfl, rfl⟩) | ((with_reducible refine (HS1.out _ hb1).mono ?_); rintro e w' ⟨rfl, rfl⟩)))
    go_ret2
    exact ⟨_, by rw [HR.out]; rfl, by rw [HR.out]; exact O_MoveS.nil _ _ _ _ _, hb1⟩
  have HR := hide (HR0.out.trans (if_neg hsum))
  clear HR0
  generalize st.sum = ss at *
  generalize wa.sum = sw at *
  have hB : decide (ss < sw) = false := decide_eq_false hsum
  obtain ⟨i0, hi0, hz0, hs0, hb0⟩ := info_parts Move_info2
  generalize hs00 : (deltas st wa, ([] : List T3)) = s00 at *
  have HS0 := hide hs00.symm
  clear hs00
  go_enter Try.func26, Try.ntmps26
  go_wp2_with (first | (go_at_call 124; refine (HC.out).mono ?_; rintro e w1 ⟨rfl, hb1⟩) | (go_at_call 127; first | ((with_reducible refine (HS2.out _ hb1).mono ?_); rintro e w' ⟨rfl, rfl⟩) | ((with_reducible refine (HS1.out _ hb1).mono ?_); rintro e w' ⟨rfl, rfl⟩)) | (go_at_call 126; refine (HB.out _ (hb1.alloc hb1.size _)).mono ?_; rintro e w2 ⟨A3, c3, A4, c4, rfl, ho3, ho4, hap, hb2⟩))
  have ho1 := own_new0 w1 w.heap.size 143 3 hb1.size
  have hba := hb1.alloc hb1.size (.cells #[] 143)
  have hob := own_below ho1 hb2 (Nat.le_refl _)
  have hbb := hba.trans (hb2.mono hba.size)
  obtain ⟨g1, rfl, hg1a, hg1b⟩ := own_pos' ho3 (by omega)
  obtain ⟨g2, rfl, hg2a, hg2b⟩ := own_pos' ho4 (by omega)
  have hg12 : g1 ≠ g2 := by
    rcases hap with h | h
    · simp [Value.ownBlock] at h
    · simp [Value.ownBlock] at h; exact h
  have hza : w1.heap.size < (w1.alloc (.cells #[] 143)).heap.size := by simp
  have hg1w : w1.heap.size < g1 := by omega
  have hg2w : w1.heap.size < g2 := by omega
  have hz1 := hb1.size
  have HRS : Hid (∃ S, ViaD shF (deltas st wa) S ∧ w2.ownsRow w.heap.size 2 1 (.slice (some ⟨g1, 0, none⟩) st.length c3) st.length (S.map (Value.int .i64))) := ⟨_, HVS.out, own_base ho3 (by omega)⟩
  have HRM : Hid (∃ S, ViaD moF (deltas st wa) S ∧ w2.ownsRow w.heap.size 2 1 (.slice (some ⟨g2, 0, none⟩) st.length c4) st.length (S.map (Value.int .i64))) := ⟨_, HVM.out, own_base ho4 (by omega)⟩
  have HG12 := hide hg12
  clear ho1 ho3 ho4 hap hba hb1 hb2 hg12 HVS HVM HSL HML hg1a hg2a hza
  have hoc : w2.ownsRow w.heap.size 143 3 (.slice (some ⟨w1.heap.size, 0, none⟩) 0 0) 0 (([] : List T3).flatMap T3.cells) := hob
  have hnb : (Value.slice (some ⟨w1.heap.size, 0, none⟩) 0 0).ownBlock ≠ some g1 ∧ (Value.slice (some ⟨w1.heap.size, 0, none⟩) 0 0).ownBlock ≠ some g2 := by simp [Value.ownBlock]; omega
  have HNB := hide hnb
  clear hob hnb
  go_loopg [7, 35] st.length (fun g s i wr => ∃ (k : Nat) (D : List Int) (out : List T3), k ≤ st.length ∧ Hid (g = st.length - k) ∧ i = .int .i64 k ∧ out.length ≤ k * 10 ∧ wr.ownsRow w.heap.size 143 3 s out.length (out.flatMap T3.cells) ∧
    Hid (∃ S, ViaD shF D S ∧ wr.ownsRow w.heap.size 2 1 (.slice (some ⟨g1, 0, none⟩) st.length c3) st.length (S.map (Value.int .i64))) ∧ Hid (∃ S, ViaD moF D S ∧ wr.ownsRow w.heap.size 2 1 (.slice (some ⟨g2, 0, none⟩) st.length c4) st.length (S.map (Value.int .i64))) ∧
    Hid (DOk st.length D) ∧ Hid (mbOut st.length 0 s00 = mbOut st.length k (D, out)) ∧ Hid (s.ownBlock ≠ some g1 ∧ s.ownBlock ≠ some g2) ∧ Below w.heap.size w wr)
  case atStart => exact ⟨0, _, [], by omega, by simp [Hid], rfl, by simp, hoc, HRS, HRM, HDO, by unfold Hid; rw [HS0.out], HNB, hbb⟩
  case round =>
    obtain ⟨k, Dk, outk, hk, hgk, rfl, hok, hown, HRS', HRM', HDO', HE, HNB', hb⟩ := hrel
    clear hoc hbb HRS HRM HDO HNB
    by_cases hlt : k < st.length
    · have HOW := hide hown
      have HBW := hide hb
      have hkn : (k : Int) < st.length := by omega
      clear hown hb
      go_wp2_with fail
      go_loopg [7, 40] st.length (fun g s i wr => ∃ (j : Nat) (D : List Int) (out : List T3), j ≤ st.length ∧ Hid (g = st.length - j) ∧ i = .int .i64 j ∧ out.length ≤ k * 10 + j ∧ wr.ownsRow w.heap.size 143 3 s out.length (out.flatMap T3.cells) ∧
        Hid (∃ S, ViaD shF D S ∧ wr.ownsRow w.heap.size 2 1 (.slice (some ⟨g1, 0, none⟩) st.length c3) st.length (S.map (Value.int .i64))) ∧ Hid (∃ S, ViaD moF D S ∧ wr.ownsRow w.heap.size 2 1 (.slice (some ⟨g2, 0, none⟩) st.length c4) st.length (S.map (Value.int .i64))) ∧
        Hid (DOk st.length D) ∧ Hid (mbIn st.length k 0 (Dk, outk) = mbIn st.length k j (D, out)) ∧ Hid (s.ownBlock ≠ some g1 ∧ s.ownBlock ≠ some g2) ∧ Below w.heap.size w wr)
      case atStart => exact ⟨0, _, _, by omega, by simp [Hid], rfl, by omega, HOW.out, HRS', HRM', HDO', rfl, HNB', HBW.out⟩
      case round =>
        obtain ⟨j, D, out, hj, hgj, rfl, hoj, hown, HRSj, HRMj, HDOj, HEj, HNBj, hb⟩ := hrel
        clear HOW HBW HRS' HRM' HDO' HNB'
        by_cases hltj : j < st.length
        · obtain ⟨a, hDa, ha1, ha2⟩ := ds_at HDOj.out hltj
          obtain ⟨b, hDb, hb1, hb2⟩ := ds_at HDOj.out hlt
          obtain ⟨S, hVS, hrS⟩ := HRSj.out
          obtain ⟨M, hVM, hrM⟩ := HRMj.out
          have hSk := hVS.2 k b hDb
          have hMj := hVM.2 j a hDa
          have hc1 := own_int_at hrS hSk
          have hc2 := own_int_at hrM hMj
          have hjn : (j : Int) < st.length := by omega
          have hj0 : (0 : Int) ≤ (j : Int) := by omega
          have hk0 : (0 : Int) ≤ (k : Int) := by omega
          have HDA := hide hDa; have HDB := hide hDb; have HVS := hide hVS; have HVM := hide hVM; have HRS := hide hrS; have HRM := hide hrM
          clear hSk hMj hDa hDb hVS hVM hrS hrM HRSj HRMj
          have HX1 := hide (show shF k b = max 0 (-b) from rfl)
          have HX2 := hide (show moF j a = max 0 a from rfl)
          generalize shF k b = xs at *
          generalize moF j a = xm at *
          have hxs : 0 ≤ xs ∧ xs ≤ 200 := by have := HX1.out; omega
          have hxm : 0 ≤ xm ∧ xm ≤ 200 := by have := HX2.out; omega
          obtain ⟨hxs0, hxs1⟩ := hxs
          obtain ⟨hxm0, hxm1⟩ := hxm
          go_wp2_with fail
          have e0 : wr.drew.cell? ⟨g1, k, none⟩ = some (.int .i64 xs) := hc1
          have e1 : wr.drew.cell? ⟨g2, j, none⟩ = some (.int .i64 xm) := hc2
          have hbd : Below w.heap.size w wr.drew := hb.drew
          have HRS2 : Hid (wr.drew.ownsRow w.heap.size 2 1 (.slice (some ⟨g1, 0, none⟩) st.length c3) st.length (S.map (Value.int .i64))) := HRS.out
          have HRM2 : Hid (wr.drew.ownsRow w.heap.size 2 1 (.slice (some ⟨g2, 0, none⟩) st.length c4) st.length (M.map (Value.int .i64))) := HRM.out
          have hod : wr.drew.ownsRow w.heap.size 143 3 u7 out.length (out.flatMap T3.cells) := hown
          refine wp_region_held_drew (S := fun W => W.cell? ⟨g1, k, none⟩ = some (.int .i64 xs) ∧ W.cell? ⟨g2, j, none⟩ = some (.int .i64 xm)) (by kernel_rfl) (⟨e0, e1⟩) (fun hHeld => ?_)
          clear hc1 hc2 hb HRS HRM hown
          generalize wr.drew = wd at *
          refine wpAnyH_take (i := 0) (v := ?_) rfl (by kernel_rfl) (by kernel_rfl) (by kernel_rfl) (fun _ _ _ h => h) (Or.inl ⟨by rfl, ?_⟩) (by assumption) ?_
          rotate_left 1
          · (intro w hSw; (try dsimp only at hSw); go_simp; try with_reducible rfl)
          try simp only [Act.put, List.getElem_toArray, List.getElem_cons_succ, List.getElem_cons_zero, List.setIfInBounds_toArray, List.set_cons_zero, List.set_cons_succ]
          refine wpAnyH_take (i := 1) (v := ?_) rfl (by kernel_rfl) (by kernel_rfl) (by kernel_rfl) (fun _ _ _ h => h) (Or.inl ⟨by rfl, ?_⟩) (by assumption) ?_
          rotate_left 1
          · (intro w hSw; (try dsimp only at hSw); go_simp; try with_reducible rfl)
          try simp only [Act.put, List.getElem_toArray, List.getElem_cons_succ, List.getElem_cons_zero, List.setIfInBounds_toArray, List.set_cons_zero, List.set_cons_succ]
          refine wpAnyH_take (i := 2) (v := ?_) rfl (by kernel_rfl) (by kernel_rfl) (by kernel_rfl) (fun _ _ _ h => h) (Or.inl ⟨by rfl, ?_⟩) (by assumption) ?_
          rotate_left 1
          · (intro w hSw; (try dsimp only at hSw); go_simp; try with_reducible rfl)
          try simp only [Act.put, List.getElem_toArray, List.getElem_cons_succ, List.getElem_cons_zero, List.setIfInBounds_toArray, List.set_cons_zero, List.set_cons_succ]
          refine wpAnyH_take (i := 3) (v := ?_) rfl (by kernel_rfl) (by kernel_rfl) (by kernel_rfl) (fun _ _ _ h => h) (Or.inl ⟨by rfl, ?_⟩) (by assumption) ?_
          rotate_left 1
          · (intro w hSw; (try dsimp only at hSw); go_simp; try with_reducible rfl)
          try simp only [Act.put, List.getElem_toArray, List.getElem_cons_succ, List.getElem_cons_zero, List.setIfInBounds_toArray, List.set_cons_zero, List.set_cons_succ]
          refine wpAnyH_take (i := 4) (v := ?_) rfl (by kernel_rfl) (by kernel_rfl) (by kernel_rfl) (fun _ _ _ h => h) (Or.inl ⟨by rfl, ?_⟩) (by assumption) ?_
          rotate_left 1
          · (intro w hSw; (try dsimp only at hSw); go_simp; try with_reducible rfl)
          try simp only [Act.put, List.getElem_toArray, List.getElem_cons_succ, List.getElem_cons_zero, List.setIfInBounds_toArray, List.set_cons_zero, List.set_cons_succ]
          refine wpAnyH_take (i := 5) (v := ?_) rfl (by kernel_rfl) (by kernel_rfl) (by kernel_rfl) (fun _ _ _ h => h) (Or.inl ⟨by rfl, ?_⟩) (by assumption) ?_
          rotate_left 1
          · (intro w hSw; (try dsimp only at hSw); go_simp; try with_reducible rfl)
          try simp only [Act.put, List.getElem_toArray, List.getElem_cons_succ, List.getElem_cons_zero, List.setIfInBounds_toArray, List.set_cons_zero, List.set_cons_succ]
          refine wpAnyH_take (i := 6) (v := ?_) rfl (by kernel_rfl) (by kernel_rfl) (by kernel_rfl) (fun _ _ _ h => h) (Or.inl ⟨by rfl, ?_⟩) (by assumption) ?_
          rotate_left 1
          · (intro w hSw; (try dsimp only at hSw); go_simp; try with_reducible rfl)
          try simp only [Act.put, List.getElem_toArray, List.getElem_cons_succ, List.getElem_cons_zero, List.setIfInBounds_toArray, List.set_cons_zero, List.set_cons_succ]
          refine wpAnyH_take (i := 7) (v := ?_) rfl (by kernel_rfl) (by kernel_rfl) (by kernel_rfl) (fun _ _ _ h => h) (Or.inl ⟨by rfl, ?_⟩) (by assumption) ?_
          rotate_left 1
          · (intro w hSw; (try dsimp only at hSw); go_simp; try with_reducible rfl)
          try simp only [Act.put, List.getElem_toArray, List.getElem_cons_succ, List.getElem_cons_zero, List.setIfInBounds_toArray, List.set_cons_zero, List.set_cons_succ]
          refine wpAnyH_take (i := 8) (v := ?_) rfl (by kernel_rfl) (by kernel_rfl) (by kernel_rfl) (fun _ _ _ h => h) (Or.inl ⟨by rfl, ?_⟩) (by assumption) ?_
          rotate_left 1
          · (intro w hSw; (try dsimp only at hSw); go_simp; try with_reducible rfl)
          try simp only [Act.put, List.getElem_toArray, List.getElem_cons_succ, List.getElem_cons_zero, List.setIfInBounds_toArray, List.set_cons_zero, List.set_cons_succ]
          refine wpAnyH_take (i := 9) (v := ?_) rfl (by kernel_rfl) (by kernel_rfl) (by kernel_rfl) (fun _ _ _ h => h) (Or.inl ⟨by rfl, ?_⟩) (by assumption) ?_
          rotate_left 1
          · (intro w hSw; (try dsimp only at hSw); go_simp; try with_reducible rfl)
          try simp only [Act.put, List.getElem_toArray, List.getElem_cons_succ, List.getElem_cons_zero, List.setIfInBounds_toArray, List.set_cons_zero, List.set_cons_succ]
          refine wpAnyH_done (by kernel_rfl) ?_ _
          have HMM := hide (show (if xm < xs then xm else xs) = min xs xm by split <;> omega)
          generalize (if xm < xs then xm else xs) = m at *
          clear e0 e1
          by_cases hpos : 0 < m
          · have hB1 : decide (0 < m) = true := decide_eq_true hpos
            have hmab : m = min a (-b) := by have := HMM.out; have := HX1.out; have := HX2.out; omega
            have hne := mb_ne HDA.out HDB.out (by omega)
            have HST := hide (HEj.out.trans ((mbIn_step hltj _).trans (by rw [mbStep_yes out HDA.out HDB.out hmab hpos])))
            have HDN := hide (HDOj.out.next HDA.out HDB.out hmab hpos)
            have hm200 : m ≤ 200 := by omega
            have HVS2 := hide (HVS.out.next1 (y := xs - m) HDA.out HDB.out hne (show shF j a = shF j (a - m) by unfold shF; omega) (show xs - m = shF k (b + m) by have := HX1.out; unfold shF; omega))
            have HVM2 := hide (HVM.out.next2 (x := xm - m) HDA.out HDB.out hne (show xm - m = moF j (a - m) by have := HX2.out; unfold moF; omega) (show moF k b = moF k (b + m) by unfold moF; omega))
            have hxsm : 0 ≤ xs - m := by have := HMM.out; omega
            have hxmm : 0 ≤ xm - m := by have := HMM.out; omega
            have HSk := hide (HVS.out.2 k b HDB.out)
            have HMj := hide (HVM.out.2 j a HDA.out)
            rw [show shF k b = xs from HX1.out.symm ▸ rfl] at HSk
            rw [show moF j a = xm from HX2.out.symm ▸ rfl] at HMj
            clear hmab hne HEj HVS HVM
            have hszd := hbd.size
            go_wp2_with (at_builtin; go_must (refine wp_app _ rfl _ _ 25 rfl w.heap.size 143 i0 (.agg #[.int .i64 0, .int .i64 0, .int .i64 0]) 3 24 Try.underlying25 hi0 hz0 hs0 hb0 rfl (by decide) _ _ _ rfl (hod.alloc _) _ _ 1 1 [.int .i64 j, .int .i64 k, .int .i64 m] rfl rfl (rd_new _ _ _ _ (by simp)) (T3.one1 ⟨j, k, m⟩) (by omega) (by decide) (by simp <;> omega) ?_); intro v2 w5 hown2 hgrow hat; have hS5 := (HRS2.out.alloc (.cells #[.int .i64 j, .int .i64 k, .int .i64 m] 143)).kept hgrow (.inr (fun e => HNBj.out.1 e.symm)); have hM5 := (HRM2.out.alloc (.cells #[.int .i64 j, .int .i64 k, .int .i64 m] 143)).kept hgrow (.inr (fun e => HNBj.out.2 e.symm)); have c1 := own_int_at hS5 HSk.out; have f1 := hS5.frozenAt k; have P1 := hide (own_int_set hS5 k (xs - m)); have hM6 := hide (hM5.kept P1.out.2 (.inr (fun e => HG12.out (Option.some.inj e).symm))); have c2' := own_int_at hM6.out HMj.out; have f2 := hM6.out.frozenAt j)
            have P2 := hide (own_int_set hM6.out j (xm - m))
            have hS7 := P1.out.1.kept P2.out.2 (.inr (fun e => HG12.out (Option.some.inj e)))
            have hnb2 : v2.ownBlock ≠ some g1 ∧ v2.ownBlock ≠ some g2 := by
              rcases hat with h | h
              · rw [h]; exact HNBj.out
              · rw [h]
                have := (HRS2.out.lt g1 rfl).2
                have := (HRM2.out.lt g2 rfl).2
                simp
                omega
            have hown7 := (hown2.kept P1.out.2 (.inr hnb2.1)).kept P2.out.2 (.inr hnb2.2)
            have hba5 := hbd.alloc hszd (.cells #[.int .i64 j, .int .i64 k, .int .i64 m] 143)
            have hb5 := app_below hba5 (hod.alloc (.cells #[.int .i64 j, .int .i64 k, .int .i64 m] 143)) hgrow (Nat.le_refl _) hba5.size
            have hb7 := (hb5.setCell (p := ⟨g1, k, none⟩) (by dsimp only; omega) (.int .i64 (xs - m))).setCell (p := ⟨g2, j, none⟩) (by dsimp only; omega) (.int .i64 (xm - m))
            clear c1 c2' f1 f2 hS5 hM5
            go_roundg (st.length - (j + 1))
            case measure => have := hgj.out; omega
            case rel => exact ⟨j + 1, _, out ++ [⟨j, k, m⟩], by omega, rfl, by go_num, by simp; omega, by rw [flat_snoc3, List.length_append]; exact hown7, ⟨_, HVS2.out, hS7⟩, ⟨_, HVM2.out, P2.out.1⟩, HDN, HST, hnb2, hb7⟩
          · have hB1 : decide (0 < m) = false := decide_eq_false hpos
            have hmab : ¬ 0 < min a (-b) := by have := HMM.out; have := HX1.out; have := HX2.out; omega
            have HST := hide (HEj.out.trans ((mbIn_step hltj _).trans (by rw [mbStep_no out HDA.out HDB.out hmab])))
            clear hmab HEj
            go_wp2_with fail
            go_roundg (st.length - (j + 1))
            case measure => have := hgj.out; omega
            case rel => exact ⟨j + 1, _, out, by omega, rfl, by go_num, by omega, hod, ⟨_, HVS.out, HRS2.out⟩, ⟨_, HVM.out, HRM2.out⟩, HDOj, HST, HNBj, hbd⟩
        · obtain rfl : j = st.length := by omega
          have HST := hide (HEj.out.trans (mbIn_end _ _ _))
          have HOT := hide (HE.out.trans ((mbOut_step hlt _).trans (by rw [HST.out])))
          clear HEj HE
          go_wp2_with fail
          go_roundg (st.length - (k + 1))
          case measure => have := hgk.out; omega
          case rel => exact ⟨k + 1, _, out, by omega, rfl, by go_num, by omega, hown, HRSj, HRMj, HDOj, HOT, HNBj, hb⟩
    · obtain rfl : k = st.length := by omega
      have HOT := hide (HE.out.trans (mbOut_end _ _))
      clear HE
      go_wp2_with fail
      go_ret2
      refine ⟨_, by rw [HR.out]; rfl, ?_, hb⟩
      rw [HR.out, HOT.out]
      have hO : O_MoveS wr w.heap.size wr.heap.size u7 outk := OwnV.of_row hown (by omega)
      exact hO
set_option maxRecDepth 100000 in
set_option maxHeartbeats 4000000 in
theorem l00Min_any' (a b : Int) (w : World) : Calls Try.prog 138 #[.int .i64 a, .int .i64 b] w fun e w' => e = .returned (.int .i64 (min a b)) ∧ w = w' := by
  by_cases h : a < b
  · have HR := hide (show min a b = a by omega)
    generalize min a b = m at *
    go_enter Try.func138, Try.ntmps138
    go_wp2_with fail
    go_ret
    exact ⟨by rw [HR.out]; rfl, rfl⟩
  · have HR := hide (show min a b = b by omega)
    generalize min a b = m at *
    go_enter Try.func138, Try.ntmps138
    go_wp2_with fail
    go_ret
    exact ⟨by rw [HR.out]; rfl, rfl⟩
set_option maxRecDepth 100000 in
set_option maxHeartbeats 8000000 in
theorem S_MovesBack (st : List Int) (v : Value) (wa : List Int) (u : Value) (w : World) (h0 : st.length ≤ 1048576) (_ : ∀ z ∈ st, -9223372036854775808 ≤ z ∧ z ≤ 9223372036854775807) (h : R_Int64S w w.heap.size v st) (hs : wa.length ≤ 1048576) (_ : ∀ z ∈ wa, -9223372036854775808 ≤ z ∧ z ≤ 9223372036854775807) (k : R_Int64S w w.heap.size u wa) :
    Calls Try.prog 27 #[v, u] w fun e w' => ∃ r, e = .returned (.tuple #[r, .int .i64 (movesBack st wa).2]) ∧ O_MoveS w' w.heap.size w'.heap.size r (movesBack st wa).1 ∧ Below w.heap.size w w' := by
  obtain ⟨A, c, rfl, h1⟩ := h
  obtain ⟨A2, c2, rfl, h2⟩ := k
  have HC := hide (l07Code_any st wa A c A2 c2 w h0 hs h1 h2)
  by_cases hcd : codeWa st wa = 0
  case neg =>
    have HR := hide (show movesBack st wa = ([], codeWa st wa) by unfold movesBack; exact if_neg hcd)
    have hne : (codeWa st wa != 0) = true := by simp [hcd]
    have hnq : (codeWa st wa == 0) = false := by simp [hcd]
    clear h1 h2
    generalize codeWa st wa = cd at *
    go_enter Try.func27, Try.ntmps27
    go_wp2_with (go_at_call 119; refine (HC.out).mono ?_; rintro e w' ⟨rfl, rfl⟩)
    go_ret2
    exact ⟨_, by rw [HR.out]; rfl, by rw [HR.out]; exact O_MoveS.nil _ _ _ _ _, Below.refl _ _⟩
  obtain ⟨hv, hwl, hwb⟩ := codeWa_ok hcd
  have HS1 := hide (l00Sum_any st A c w h0 (sum_bd (stock_bd hv)) h1)
  have HS2 := hide (l00Sum_any wa A2 c2 w hs (sum_bd hwb) h2)
  have HR0 := hide (show movesBack st wa = if st.sum < wa.sum then ([], 5) else ((mbOut st.length 0 (deltas st wa, [])).2, 0) by unfold movesBack; exact if_pos hcd)
  have HDO := hide (DOk.start hcd)
  have HVO := hide (via_own hwl)
  have hl2 := (stOk_of hv).2.1
  have hl10 := (stOk_of hv).2.2
  have HNN : Hid (∀ z ∈ st, 0 ≤ z) := fun z hz => (stock_bd hv z hz).1
  have HWB := hide hwb
  have HCL := hide (l00Own_any st A c w h0 h1)
  have HY := hide h2
  have hwl1 : wa.length ≤ st.length := by omega
  have hwl2 : st.length ≤ wa.length := by omega
  rw [hcd] at HC
  clear hcd hv hwl hwb h1 h2
  by_cases hsum : st.sum < wa.sum
  · have HR := hide (HR0.out.trans (if_pos hsum))
    generalize st.sum = ss at *
    generalize wa.sum = sw at *
    have hB : decide (ss < sw) = true := decide_eq_true hsum
    go_enter Try.func27, Try.ntmps27
    go_wp2_with (first | (go_at_call 119; refine (HC.out).mono ?_; rintro e w' ⟨rfl, rfl⟩) | (go_at_call 121; first | ((with_reducible refine HS2.out.mono ?_); rintro e w' ⟨rfl, rfl⟩) | ((with_reducible refine HS1.out.mono ?_); rintro e w' ⟨rfl, rfl⟩)))
    go_ret2
    exact ⟨_, by rw [HR.out]; rfl, by rw [HR.out]; exact O_MoveS.nil _ _ _ _ _, Below.refl _ _⟩
  have HR := hide (HR0.out.trans (if_neg hsum))
  clear HR0
  generalize st.sum = ss at *
  generalize wa.sum = sw at *
  have hB : decide (ss < sw) = false := decide_eq_false hsum
  obtain ⟨i0, hi0, hz0, hs0, hb0⟩ := info_parts Move_info2
  generalize hs00 : (deltas st wa, ([] : List T3)) = s00 at *
  have HS0 := hide hs00.symm
  clear hs00
  go_enter Try.func27, Try.ntmps27
  go_wp2_with (first | (go_at_call 119; refine (HC.out).mono ?_; rintro e w' ⟨rfl, rfl⟩) | (go_at_call 121; first | ((with_reducible refine HS2.out.mono ?_); rintro e w' ⟨rfl, rfl⟩) | ((with_reducible refine HS1.out.mono ?_); rintro e w' ⟨rfl, rfl⟩)) | (go_at_call 137; refine (HCL.out).mono ?_; rintro e w1 ⟨A3, c3, rfl, ho3, hb1⟩))
  obtain ⟨g1, rfl, hg1a, hg1b⟩ := own_pos' ho3 (by omega)
  have ho1 := own_new0 w1 w.heap.size 143 3 hb1.size
  have hba := hb1.alloc hb1.size (.cells #[] 143)
  have hoc : (w1.alloc (.cells #[] 143)).ownsRow w.heap.size 143 3 (.slice (some ⟨w1.heap.size, 0, none⟩) 0 0) 0 (([] : List T3).flatMap T3.cells) := ho1
  have HRO : Hid (∃ S, ViaD (ownF wa) (deltas st wa) S ∧ (∀ z ∈ S, 0 ≤ z) ∧ (w1.alloc (.cells #[] 143)).ownsRow w.heap.size 2 1 (.slice (some ⟨g1, 0, none⟩) st.length c3) st.length (S.map (Value.int .i64))) := ⟨_, HVO.out, HNN.out, ho3.alloc _⟩
  have hnb : (Value.slice (some ⟨w1.heap.size, 0, none⟩) 0 0).ownBlock ≠ some g1 := by simp [Value.ownBlock]; omega
  have HNB := hide hnb
  clear ho1 ho3 hb1 HVO HNN hnb
  go_loopg [8, 9] st.length (fun g s i wr => ∃ (k : Nat) (D : List Int) (out : List T3), k ≤ st.length ∧ Hid (g = st.length - k) ∧ i = .int .i64 k ∧ out.length ≤ k * 10 ∧ wr.ownsRow w.heap.size 143 3 s out.length (out.flatMap T3.cells) ∧
    Hid (∃ S, ViaD (ownF wa) D S ∧ (∀ z ∈ S, 0 ≤ z) ∧ wr.ownsRow w.heap.size 2 1 (.slice (some ⟨g1, 0, none⟩) st.length c3) st.length (S.map (Value.int .i64))) ∧
    Hid (DOk st.length D) ∧ Hid (mbOut st.length 0 s00 = mbOut st.length k (D, out)) ∧ Hid (s.ownBlock ≠ some g1) ∧ Below w.heap.size w wr)
  case atStart => exact ⟨0, _, [], by omega, by simp [Hid], rfl, by simp, hoc, HRO, HDO, by unfold Hid; rw [HS0.out], HNB, hba⟩
  case round =>
    obtain ⟨k, Dk, outk, hk, hgk, rfl, hok, hown, HRO', HDO', HE, HNB', hb⟩ := hrel
    clear hoc hba HRO HDO HNB
    by_cases hlt : k < st.length
    · have HOW := hide hown
      have HBW := hide hb
      have hkn : (k : Int) < st.length := by omega
      clear hown hb
      go_wp2_with fail
      go_loopg [8, 10] st.length (fun g s i wr => ∃ (j : Nat) (D : List Int) (out : List T3), j ≤ st.length ∧ Hid (g = st.length - j) ∧ i = .int .i64 j ∧ out.length ≤ k * 10 + j ∧ wr.ownsRow w.heap.size 143 3 s out.length (out.flatMap T3.cells) ∧
        Hid (∃ S, ViaD (ownF wa) D S ∧ (∀ z ∈ S, 0 ≤ z) ∧ wr.ownsRow w.heap.size 2 1 (.slice (some ⟨g1, 0, none⟩) st.length c3) st.length (S.map (Value.int .i64))) ∧
        Hid (DOk st.length D) ∧ Hid (mbIn st.length k 0 (Dk, outk) = mbIn st.length k j (D, out)) ∧ Hid (s.ownBlock ≠ some g1) ∧ Below w.heap.size w wr)
      case atStart => exact ⟨0, _, _, by omega, by simp [Hid], rfl, by omega, HOW.out, HRO', HDO', rfl, HNB', HBW.out⟩
      case round =>
        obtain ⟨j, D, out, hj, hgj, rfl, hoj, hown, HROj, HDOj, HEj, HNBj, hb⟩ := hrel
        clear HOW HBW HRO' HDO' HNB'
        by_cases hltj : j < st.length
        · obtain ⟨a, hDa, ha1, ha2⟩ := ds_at HDOj.out hltj
          obtain ⟨b, hDb, hb1, hb2⟩ := ds_at HDOj.out hlt
          obtain ⟨S, hVS, hNS, hrS⟩ := HROj.out
          obtain ⟨b1, o1, wj, rfl, hbb1, hwj, hcwj⟩ := (HY.out.below hb).at_ (show j < wa.length by omega)
          obtain ⟨b2, o2, wk, hA2, hbb2, hwk, hcwk⟩ := (HY.out.below hb).at_ (show k < wa.length by omega)
          cases hA2
          obtain ⟨hwj0, hwj1⟩ := HWB.out wj (List.mem_of_getElem? hwj)
          obtain ⟨hwk0, hwk1⟩ := HWB.out wk (List.mem_of_getElem? hwk)
          have hSj : S[j]? = some (wj + a) := by rw [hVS.2 j a hDa]; unfold ownF; rw [dAt_get hwj]
          have hSk : S[k]? = some (wk + b) := by rw [hVS.2 k b hDb]; unfold ownF; rw [dAt_get hwk]
          have hc1 := own_int_at hrS hSj
          have hc2 := own_int_at hrS hSk
          have hnk : 0 ≤ wk + b := hNS _ (List.mem_of_getElem? hSk)
          have hjn : (j : Int) < st.length := by omega
          have hj0 : (0 : Int) ≤ (j : Int) := by omega
          have hk0 : (0 : Int) ≤ (k : Int) := by omega
          have hjw : (j : Int) < wa.length := by omega
          have hkw : (k : Int) < wa.length := by omega
          have hSl : S.length = st.length := by rw [hVS.1, HDOj.out.1]
          have HDA := hide hDa; have HDB := hide hDb; have HVS := hide hVS; have HNS := hide hNS; have HRS := hide hrS; have HSJ := hide hSj; have HSK := hide hSk; have HSL := hide hSl
          have HWJ := hide (dAt_get hwj); have HWK := hide (dAt_get hwk)
          clear hSk hSj hDa hDb hVS hNS hrS hSl hwj hwk HROj
          have hwr1 : IntKind.i64.wrap (wj + a - wj) = wj + a - wj := by rw [IntKind.wrap_i64] <;> omega
          have hwr2 : IntKind.i64.wrap (wk - (wk + b)) = wk - (wk + b) := by rw [IntKind.wrap_i64] <;> omega
          have HMI := hide fun W => l00Min_any' (wj + a - wj) (wk - (wk + b)) W
          have HMM := hide (show min (wj + a - wj) (wk - (wk + b)) = min a (-b) by omega)
          rw [HMM.out] at HMI
          generalize hzj : wj + a = zj at *
          generalize hzk : wk + b = zk at *
          have HZJ := hide hzj; have HZK := hide hzk
          clear hzj hzk HMM
          go_wp2_with fail
          have e0 : wr.drew.cell? ⟨g1, j, none⟩ = some (.int .i64 zj) := hc1
          have e1 : wr.drew.cell? ⟨g1, k, none⟩ = some (.int .i64 zk) := hc2
          have e2 : wr.drew.cell? ⟨b1, o1 + j, none⟩ = some (.int .i64 wj) := hcwj
          have e3 : wr.drew.cell? ⟨b1, o1 + k, none⟩ = some (.int .i64 wk) := hcwk
          have hbd : Below w.heap.size w wr.drew := hb.drew
          have HRS2 : Hid (wr.drew.ownsRow w.heap.size 2 1 (.slice (some ⟨g1, 0, none⟩) st.length c3) st.length (S.map (Value.int .i64))) := HRS.out
          have hod : wr.drew.ownsRow w.heap.size 143 3 u8 out.length (out.flatMap T3.cells) := hown
          refine wp_region_held_drew (S := fun W => W.cell? ⟨g1, j, none⟩ = some (.int .i64 zj) ∧ W.cell? ⟨g1, k, none⟩ = some (.int .i64 zk) ∧ W.cell? ⟨b1, o1 + j, none⟩ = some (.int .i64 wj) ∧ W.cell? ⟨b1, o1 + k, none⟩ = some (.int .i64 wk)) (by kernel_rfl) (⟨e0, e1, e2, e3⟩) (fun hHeld => ?_)
          clear hc1 hc2 hcwj hcwk hb HRS hown
          generalize wr.drew = wd at *
          refine wpAnyH_take (i := 0) (v := ?_) rfl (by kernel_rfl) (by kernel_rfl) (by kernel_rfl) (fun _ _ _ h => h) (Or.inl ⟨by rfl, ?_⟩) (by assumption) ?_
          rotate_left 1
          · (intro w hSw; (try dsimp only at hSw); go_simp; try with_reducible rfl)
          try simp only [Act.put, List.getElem_toArray, List.getElem_cons_succ, List.getElem_cons_zero, List.setIfInBounds_toArray, List.set_cons_zero, List.set_cons_succ]
          refine wpAnyH_take (i := 1) (v := ?_) rfl (by kernel_rfl) (by kernel_rfl) (by kernel_rfl) (fun _ _ _ h => h) (Or.inl ⟨by rfl, ?_⟩) (by assumption) ?_
          rotate_left 1
          · (intro w hSw; (try dsimp only at hSw); go_simp; try with_reducible rfl)
          try simp only [Act.put, List.getElem_toArray, List.getElem_cons_succ, List.getElem_cons_zero, List.setIfInBounds_toArray, List.set_cons_zero, List.set_cons_succ]
          refine wpAnyH_take (i := 2) (v := ?_) rfl (by kernel_rfl) (by kernel_rfl) (by kernel_rfl) (fun _ _ _ h => h) (Or.inl ⟨by rfl, ?_⟩) (by assumption) ?_
          rotate_left 1
          · (intro w hSw; (try dsimp only at hSw); go_simp; try with_reducible rfl)
          try simp only [Act.put, List.getElem_toArray, List.getElem_cons_succ, List.getElem_cons_zero, List.setIfInBounds_toArray, List.set_cons_zero, List.set_cons_succ]
          refine wpAnyH_take (i := 3) (v := ?_) rfl (by kernel_rfl) (by kernel_rfl) (by kernel_rfl) (fun _ _ _ h => h) (Or.inl ⟨by rfl, ?_⟩) (by assumption) ?_
          rotate_left 1
          · (intro w hSw; (try dsimp only at hSw); go_simp; try with_reducible rfl)
          try simp only [Act.put, List.getElem_toArray, List.getElem_cons_succ, List.getElem_cons_zero, List.setIfInBounds_toArray, List.set_cons_zero, List.set_cons_succ]
          refine wpAnyH_take (i := 4) (v := ?_) rfl (by kernel_rfl) (by kernel_rfl) (by kernel_rfl) (fun _ _ _ h => h) (Or.inl ⟨by rfl, ?_⟩) (by assumption) ?_
          rotate_left 1
          · (intro w hSw; (try dsimp only at hSw); go_simp; try with_reducible rfl)
          try simp only [Act.put, List.getElem_toArray, List.getElem_cons_succ, List.getElem_cons_zero, List.setIfInBounds_toArray, List.set_cons_zero, List.set_cons_succ]
          refine wpAnyH_take (i := 5) (v := ?_) rfl (by kernel_rfl) (by kernel_rfl) (by kernel_rfl) (fun _ _ _ h => h) (Or.inl ⟨by rfl, ?_⟩) (by assumption) ?_
          rotate_left 1
          · (intro w hSw; (try dsimp only at hSw); go_simp; try with_reducible rfl)
          try simp only [Act.put, List.getElem_toArray, List.getElem_cons_succ, List.getElem_cons_zero, List.setIfInBounds_toArray, List.set_cons_zero, List.set_cons_succ]
          refine wpAnyH_take (i := 6) (v := ?_) rfl (by kernel_rfl) (by kernel_rfl) (by kernel_rfl) (fun _ _ _ h => h) (Or.inl ⟨by rfl, ?_⟩) (by assumption) ?_
          rotate_left 1
          · (intro w hSw; (try dsimp only at hSw); go_simp; try with_reducible rfl)
          try simp only [Act.put, List.getElem_toArray, List.getElem_cons_succ, List.getElem_cons_zero, List.setIfInBounds_toArray, List.set_cons_zero, List.set_cons_succ]
          refine wpAnyH_take (i := 7) (v := ?_) rfl (by kernel_rfl) (by kernel_rfl) (by kernel_rfl) (fun _ _ _ h => h) (Or.inl ⟨by rfl, ?_⟩) (by assumption) ?_
          rotate_left 1
          · (intro w hSw; (try dsimp only at hSw); go_simp; try with_reducible rfl)
          try simp only [Act.put, List.getElem_toArray, List.getElem_cons_succ, List.getElem_cons_zero, List.setIfInBounds_toArray, List.set_cons_zero, List.set_cons_succ]
          refine wpAnyH_take (i := 8) (v := ?_) rfl (by kernel_rfl) (by kernel_rfl) (by kernel_rfl) (fun _ _ _ h => h) (Or.inl ⟨by rfl, ?_⟩) (by assumption) ?_
          rotate_left 1
          · (intro w hSw; (try dsimp only at hSw); go_simp; try with_reducible rfl)
          try simp only [Act.put, List.getElem_toArray, List.getElem_cons_succ, List.getElem_cons_zero, List.setIfInBounds_toArray, List.set_cons_zero, List.set_cons_succ]
          refine wpAnyH_take (i := 9) (v := ?_) rfl (by kernel_rfl) (by kernel_rfl) (by kernel_rfl) (fun _ _ _ h => h) (Or.inl ⟨by rfl, ?_⟩) (by assumption) ?_
          rotate_left 1
          · (intro w hSw; (try dsimp only at hSw); go_simp; try with_reducible rfl)
          try simp only [Act.put, List.getElem_toArray, List.getElem_cons_succ, List.getElem_cons_zero, List.setIfInBounds_toArray, List.set_cons_zero, List.set_cons_succ]
          refine wpAnyH_take (i := 10) (v := ?_) rfl (by kernel_rfl) (by kernel_rfl) (by kernel_rfl) (fun _ _ _ h => h) (Or.inl ⟨by rfl, ?_⟩) (by assumption) ?_
          rotate_left 1
          · (intro w hSw; (try dsimp only at hSw); go_simp; try with_reducible rfl)
          try simp only [Act.put, List.getElem_toArray, List.getElem_cons_succ, List.getElem_cons_zero, List.setIfInBounds_toArray, List.set_cons_zero, List.set_cons_succ]
          refine wpAnyH_take (i := 11) (v := ?_) rfl (by kernel_rfl) (by kernel_rfl) (by kernel_rfl) (fun _ _ _ h => h) (Or.inl ⟨by rfl, ?_⟩) (by assumption) ?_
          rotate_left 1
          · (intro w hSw; (try dsimp only at hSw); go_simp; try with_reducible rfl)
          try simp only [Act.put, List.getElem_toArray, List.getElem_cons_succ, List.getElem_cons_zero, List.setIfInBounds_toArray, List.set_cons_zero, List.set_cons_succ]
          refine wpAnyH_take (i := 12) (v := ?_) rfl (by kernel_rfl) (by kernel_rfl) (by kernel_rfl) (fun _ _ _ h => h) (Or.inl ⟨by rfl, ?_⟩) (by assumption) ?_
          rotate_left 1
          · (intro w hSw; (try dsimp only at hSw); go_simp; try with_reducible rfl)
          try simp only [Act.put, List.getElem_toArray, List.getElem_cons_succ, List.getElem_cons_zero, List.setIfInBounds_toArray, List.set_cons_zero, List.set_cons_succ]
          refine wpAnyH_take (i := 13) (v := ?_) rfl (by kernel_rfl) (by kernel_rfl) (by kernel_rfl) (fun _ _ _ h => h) (Or.inl ⟨by rfl, ?_⟩) (by assumption) ?_
          rotate_left 1
          · (intro w hSw; (try dsimp only at hSw); go_simp; try with_reducible rfl)
          try simp only [Act.put, List.getElem_toArray, List.getElem_cons_succ, List.getElem_cons_zero, List.setIfInBounds_toArray, List.set_cons_zero, List.set_cons_succ]
          refine wpAnyH_take (i := 14) (v := ?_) rfl (by kernel_rfl) (by kernel_rfl) (by kernel_rfl) (fun _ _ _ h => h) (Or.inl ⟨by rfl, ?_⟩) (by assumption) ?_
          rotate_left 1
          · (intro w hSw; (try dsimp only at hSw); go_simp; try with_reducible rfl)
          try simp only [Act.put, List.getElem_toArray, List.getElem_cons_succ, List.getElem_cons_zero, List.setIfInBounds_toArray, List.set_cons_zero, List.set_cons_succ]
          refine wpAnyH_take (i := 15) (v := ?_) rfl (by kernel_rfl) (by kernel_rfl) (by kernel_rfl) (fun _ _ _ h => h) (Or.inl ⟨by rfl, ?_⟩) (by assumption) ?_
          rotate_left 1
          · (intro w hSw; (try dsimp only at hSw); go_simp; try with_reducible rfl)
          try simp only [Act.put, List.getElem_toArray, List.getElem_cons_succ, List.getElem_cons_zero, List.setIfInBounds_toArray, List.set_cons_zero, List.set_cons_succ]
          refine wpAnyH_take (i := 16) (v := ?_) rfl (by kernel_rfl) (by kernel_rfl) (by kernel_rfl) (fun _ _ _ h => h) (Or.inl ⟨by rfl, ?_⟩) (by assumption) ?_
          rotate_left 1
          · (intro w hSw; (try dsimp only at hSw); go_simp; try with_reducible rfl)
          try simp only [Act.put, List.getElem_toArray, List.getElem_cons_succ, List.getElem_cons_zero, List.setIfInBounds_toArray, List.set_cons_zero, List.set_cons_succ]
          refine wpAnyH_take (i := 17) (v := ?_) rfl (by kernel_rfl) (by kernel_rfl) (by kernel_rfl) (fun _ _ _ h => h) (Or.inl ⟨by rfl, ?_⟩) (by assumption) ?_
          rotate_left 1
          · (intro w hSw; (try dsimp only at hSw); go_simp; try with_reducible rfl)
          try simp only [Act.put, List.getElem_toArray, List.getElem_cons_succ, List.getElem_cons_zero, List.setIfInBounds_toArray, List.set_cons_zero, List.set_cons_succ]
          refine wpAnyH_ready (rs := [18]) (by kernel_rfl) (by simp) ?_
          refine AllReadyH.cons rfl (fun K hK => ?_) AllReadyH.nil
          try simp only [Act.put, List.getElem_toArray, List.getElem_cons_succ, List.getElem_cons_zero, List.setIfInBounds_toArray, List.set_cons_zero, List.set_cons_succ]
          go_simp
          go_at_call 138
          refine (HMI.out _).mono ?_
          rintro e w' ⟨rfl, rfl⟩
          dsimp only
          refine hK.out _ _ (⟨e0, e1, e2, e3⟩) (fun hHeld => ?_)
          clear hK K
          try simp only [Act.put, List.getElem_toArray, List.getElem_cons_succ, List.getElem_cons_zero, List.setIfInBounds_toArray, List.set_cons_zero, List.set_cons_succ]
          refine wpAnyH_take (i := 19) (v := ?_) rfl (by kernel_rfl) (by kernel_rfl) (by kernel_rfl) (fun _ _ _ h => h) (Or.inl ⟨by rfl, ?_⟩) (by assumption) ?_
          rotate_left 1
          · (intro w hSw; (try dsimp only at hSw); go_simp; try with_reducible rfl)
          try simp only [Act.put, List.getElem_toArray, List.getElem_cons_succ, List.getElem_cons_zero, List.setIfInBounds_toArray, List.set_cons_zero, List.set_cons_succ]
          refine wpAnyH_done (by kernel_rfl) ?_ _
          clear hwr1 hwr2
          generalize hmq : min a (-b) = m at *
          have HM := hide hmq
          clear hmq
          clear e0 e1 e2 e3
          by_cases hpos : 0 < m
          · have hB1 : decide (0 < m) = true := decide_eq_true hpos
            have hmab : m = min a (-b) := HM.out.symm
            have hne := mb_ne HDA.out HDB.out (by omega)
            have HST := hide (HEj.out.trans ((mbIn_step hltj _).trans (by rw [mbStep_yes out HDA.out HDB.out hmab hpos])))
            have HDN := hide (HDOj.out.next HDA.out HDB.out hmab hpos)
            have hm200 : m ≤ 200 := by omega
            have ham : m ≤ a := by omega
            have HVS2 := hide (HVS.out.next (x := zj - m) (y := zk + m) HDA.out HDB.out hne (show zj - m = ownF wa j (a - m) by unfold ownF; rw [HWJ.out]; have := HZJ.out; omega) (show zk + m = ownF wa k (b + m) by unfold ownF; rw [HWK.out]; have := HZK.out; omega))
            have HNS2 : Hid (∀ z ∈ (S.set j (zj - m)).set k (zk + m), 0 ≤ z) := fun z hz => by
              rcases List.mem_or_eq_of_mem_set hz with hz | rfl
              · rcases List.mem_or_eq_of_mem_set hz with hz | rfl
                · exact HNS.out z hz
                · have := HZJ.out; omega
              · omega
            have hzj2 : m ≤ zj := by have := HZJ.out; omega
            have hzj3 : zj ≤ 1000 := by have := HZJ.out; omega
            have hzk3 : zk ≤ 1000 := by have := HZK.out; omega
            have hszd := hbd.size
            have hxa : (wd.alloc (.cells #[.int .i64 j, .int .i64 k, .int .i64 m] 143)).cell? ⟨wd.heap.size, 0, none⟩ = some (.int .i64 j) := by simp [go_sem]
            have hxb : (wd.alloc (.cells #[.int .i64 j, .int .i64 k, .int .i64 m] 143)).cell? ⟨wd.heap.size, 0 + 1, none⟩ = some (.int .i64 k) := by simp [go_sem]
            have hxc : (wd.alloc (.cells #[.int .i64 j, .int .i64 k, .int .i64 m] 143)).cell? ⟨wd.heap.size, 0 + 2, none⟩ = some (.int .i64 m) := by simp [go_sem]
            have hgl := (HRS2.out.lt g1 rfl).2
            have hRa := HRS2.out.alloc (.cells #[.int .i64 j, .int .i64 k, .int .i64 m] 143)
            have hoa := hod.alloc (.cells #[.int .i64 j, .int .i64 k, .int .i64 m] 143)
            have hba := hbd.alloc hszd (.cells #[.int .i64 j, .int .i64 k, .int .i64 m] 143)
            have hza : wd.heap.size < (wd.alloc (.cells #[.int .i64 j, .int .i64 k, .int .i64 m] 143)).heap.size := by simp
            have HSD := hide (l07Send_t w.heap.size S (some ⟨g1, 0, none⟩) c3 j k m zj zk wd.heap.size 0 (wd.alloc (.cells #[.int .i64 j, .int .i64 k, .int .i64 m] 143)) HSJ.out HSK.out hne (by rw [HSL.out]; omega) hzj2 (by omega) (by omega) (by omega) (by omega) (by rw [HSL.out]; exact hRa) (fun g hg => by injection hg with hg; injection hg with hg; omega) hxa hxb hxc)
            rw [HSL.out] at HSD
            have HOA := hide hoa; have HBA := hide hba
            clear hmab hne HEj HVS HNS hRa hoa hba HDA HDB
            go_wp2_with (first | (go_at_call 139; refine (HSD.out).mono ?_; rintro e w5 ⟨rfl, hr5, hg5⟩; have hz5 := hg5.size; have y0 : w5.cell? ⟨wd.heap.size, 0, none⟩ = some (.int .i64 j) := app_cell hxa hg5 hza (fun g e => by simp [Value.ownBlock] at e; omega); have y1 : w5.cell? ⟨wd.heap.size, 1, none⟩ = some (.int .i64 k) := app_cell hxb hg5 hza (fun g e => by simp [Value.ownBlock] at e; omega); have y2 : w5.cell? ⟨wd.heap.size, 2, none⟩ = some (.int .i64 m) := app_cell hxc hg5 hza (fun g e => by simp [Value.ownBlock] at e; omega); have ho5 := HOA.out.kept hg5 (.inr HNBj.out); have hb5 : Below w.heap.size w w5 := HBA.out.grown hg5 HBA.out.size (fun g e => by simp [Value.ownBlock] at e; omega)) | (at_builtin; go_must (refine wp_app _ rfl _ _ 25 rfl w.heap.size 143 i0 (.agg #[.int .i64 0, .int .i64 0, .int .i64 0]) 3 24 Try.underlying25 hi0 hz0 hs0 hb0 rfl (by decide) _ _ _ rfl (ho5.alloc _) _ _ 1 1 [.int .i64 j, .int .i64 k, .int .i64 m] rfl rfl (rd_new _ _ _ _ (by simp)) (T3.one1 ⟨j, k, m⟩) (by omega) (by decide) (by have := hb5.size; simp; omega) ?_); intro v2 w6 hown2 hgrow hat))
            have hS6 := (hr5.alloc (.cells #[.int .i64 j, .int .i64 k, .int .i64 m] 143)).kept hgrow (.inr (fun e => HNBj.out e.symm))
            have hnb2 : v2.ownBlock ≠ some g1 := by
              rcases hat with h | h
              · rw [h]; exact HNBj.out
              · rw [h]
                have hq := (hr5.lt g1 rfl).2
                simp
                omega
            have hb6 := app_below (hb5.alloc hb5.size (.cells #[.int .i64 j, .int .i64 k, .int .i64 m] 143)) (ho5.alloc (.cells #[.int .i64 j, .int .i64 k, .int .i64 m] 143)) hgrow (Nat.le_refl _) (by have := hb5.size; simp; omega)
            go_roundg (st.length - (j + 1))
            case measure => have := hgj.out; omega
            case rel => exact ⟨j + 1, _, out ++ [⟨j, k, m⟩], by omega, rfl, by go_num, by simp; omega, by rw [flat_snoc3, List.length_append]; exact hown2, ⟨_, HVS2.out, HNS2.out, hS6⟩, HDN, HST, hnb2, hb6⟩
          · have hB1 : decide (0 < m) = false := decide_eq_false hpos
            have hmab : ¬ 0 < min a (-b) := by have := HM.out; omega
            have HST := hide (HEj.out.trans ((mbIn_step hltj _).trans (by rw [mbStep_no out HDA.out HDB.out hmab])))
            clear hmab HEj
            go_wp2_with fail
            go_roundg (st.length - (j + 1))
            case measure => have := hgj.out; omega
            case rel => exact ⟨j + 1, _, out, by omega, rfl, by go_num, by omega, hod, ⟨_, HVS.out, HNS.out, HRS2.out⟩, HDOj, HST, HNBj, hbd⟩
        · obtain rfl : j = st.length := by omega
          have HST := hide (HEj.out.trans (mbIn_end _ _ _))
          have HOT := hide (HE.out.trans ((mbOut_step hlt _).trans (by rw [HST.out])))
          clear HEj HE
          go_wp2_with fail
          go_roundg (st.length - (k + 1))
          case measure => have := hgk.out; omega
          case rel => exact ⟨k + 1, _, out, by omega, rfl, by go_num, by omega, hown, HROj, HDOj, HOT, HNBj, hb⟩
    · obtain rfl : k = st.length := by omega
      have HOT := hide (HE.out.trans (mbOut_end _ _))
      clear HE
      go_wp2_with fail
      go_ret2
      refine ⟨_, by rw [HR.out]; rfl, ?_, hb⟩
      rw [HR.out, HOT.out]
      have hO : O_MoveS wr w.heap.size wr.heap.size u8 outk := OwnV.of_row hown (by omega)
      exact hO
end Go.Proofs.Ytklfjekpeoigoaa
