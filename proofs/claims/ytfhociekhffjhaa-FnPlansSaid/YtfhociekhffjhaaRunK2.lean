/-
  The last end in the reference; the late wishes in both.
-/
import Derived.Test.YtfhociekhffjhaaRunK
namespace Go.Proofs.Ytfhociekhffjhaa
open Go.RowKit

theorem laGo_len (ts : List Int) (l : List TN) : ∀ (xs : List Int) (k : Nat), (laGo ts l xs k).length ≤ xs.length := by
  intro xs
  induction xs with
  | nil => intro k; simp [laGo]
  | cons s r ih =>
    intro k; rw [laGo]
    have := ih (k + 1)
    split <;> simp <;> omega
set_option maxRecDepth 100000 in
set_option maxHeartbeats 8000000 in
theorem lateOf_any (ts : List Int) (l x : List TN) (A0 : Option Addr) (c0 : Nat) (A : Option Addr) (c : Nat) (A3 : Option Addr) (c3 : Nat) (w : World) (hts : OkTimes ts) (hl6 : l.length ≤ 6) (hlo : ∀ e ∈ l, OkWish ts e) (hxl : x.length = l.length) (hxb : ∀ e ∈ x, 0 ≤ e.p ∧ e.p ≤ 100000) (hxw : ∀ (i : Nat) (e : TN), x[i]? = some e → e.way = (wishAt l i).way) (h1 : RdI w w.heap.size A0 ts) (h2 : RN 2 w w.heap.size A l) (po : List (Value × TN)) (hpo : po.map (·.2) = x) (base : Nat) (hro : w.ownsRow base 34 2 (.slice A3 x.length c3) x.length (po.flatMap (Nc 1))) (hpw : ∀ p ∈ po, WayAt w w.heap.size p) :
    Calls Try.prog 154 #[.slice A0 ts.length c0, .slice A l.length c, .slice A3 x.length c3] w fun e w' => ∃ r, e = .returned r ∧ O_Int64S w' w.heap.size w'.heap.size r (laGo ts l (x.map (·.p)) 0) ∧ Below w.heap.size w w' := by
  obtain ⟨i0, hi0, hz0, hs0, hb0⟩ := info_parts int64_info
  have HEN := hide fun (way : List Int) (f : Int) Aw cw W (hW : Below w.heap.size w W) (hw : OkWay ts way) (hf : 0 ≤ f) (hf' : f ≤ 2000000) (r : RdI W W.heap.size Aw way) => endOfRun_any ts way f A0 c0 Aw cw W hts hw hf hf' ((h1.below hW).more hW.size) r
  have HTS := hide hts
  have HLO := hide hlo
  have HXB := hide hxb
  have HXL := hide hxl
  have HXW := hide hxw
  have hx6 : x.length ≤ 6 := by omega
  have HX := hide h2
  have HRN : Hid (RN 1 w w.heap.size A3 x) := ⟨po, hpo, Rd.of_own hro, hpw⟩
  clear h1 h2 hts hlo hxb hxl hxw hpo hro hpw
  go_enter Try.func154, Try.ntmps154
  go_wp2_with fail
  have ho1 := own_new0 w w.heap.size 2 1 (Nat.le_refl _)
  have hb1 : Below w.heap.size w (w.alloc (.cells #[] 2)) := (Below.refl _ _).alloc (Nat.le_refl _) _
  go_loopg [7, 13] x.length (fun g s i wr => ∃ (k : Nat) (acc : List Int), k ≤ x.length ∧ Hid (g = x.length - k) ∧ i = .int .i64 k ∧ acc.length ≤ k ∧ wr.ownsRow w.heap.size 2 1 s acc.length (acc.map (Value.int .i64)) ∧ Hid (laGo ts l (x.map (·.p)) 0 = acc ++ laGo ts l ((x.map (·.p)).drop k) k) ∧ Below w.heap.size w wr)
  case atStart => exact ⟨0, [], by omega, by simp [Hid], rfl, by simp, ho1, by simp [Hid], hb1⟩
  case round =>
    obtain ⟨k, acc, hk, hg, rfl, hal, hown, HS, hb⟩ := hrel
    clear ho1 hb1
    by_cases hlt : k < x.length
    · obtain ⟨b3, o3, z, Az, cz, rfl, hbb3, hz, hrz, hm0, hd1, _⟩ := (HRN.out.below hb).at_ (by omega) hlt
      have hm1 := hd1 (by omega)
      have hkl0 : k < l.length := by have := HXL.out; omega
      obtain ⟨b1, o1, e, Aw, cw, rfl, hbb1, he, _, hn0, _, hc2⟩ := (HX.out.below hb).at_ (by omega) hkl0
      have hn2 := hc2 (by omega)
      obtain ⟨hzl, hzu⟩ := HXB.out z (List.mem_of_getElem? hz)
      obtain ⟨hwk, _, hq0, hq9⟩ := HLO.out e (List.mem_of_getElem? he)
      have hzw : z.way = e.way := by rw [HXW.out k z hz, wishAt_get he]
      have heb := endGo_bd HTS.out (f := z.p) hwk.2
      have hw12 := hwk.1.2
      have HS' := HS.out
      rw [laGo_drop (by rw [List.getElem?_map, hz]; rfl : (x.map (·.p))[k]? = some z.p), wishAt_get he] at HS'
      have HWK : Hid (OkWay ts z.way) := by unfold Hid; rw [hzw]; exact hwk
      rw [← hzw] at HS' heb hw12
      have hk0 : (0 : Int) ≤ (k : Int) := by omega
      have hkl : (k : Int) < l.length := by omega
      have hba := hb.alloc hb.size (.cells #[.slice Az z.way.length cz, .int .i64 z.p] 34)
      have hoa := hown.alloc (.cells #[.slice Az z.way.length cz, .int .i64 z.p] 34)
      have BX := BoxN.new wr #[.slice Az z.way.length cz, .int .i64 z.p] 34
      have hsa : wr.heap.size + 1 ≤ (wr.alloc (.cells #[.slice Az z.way.length cz, .int .i64 z.p] 34)).heap.size := by simp
      have m2 : (wr.alloc (.cells #[.slice Az z.way.length cz, .int .i64 z.p] 34)).cell? ⟨b1, o1 + k * 3 + 2, none⟩ = some (.int .i64 e.q) := (World.cell?_alloc_old _ _ _ (by dsimp only; have := hb.size; omega)).trans hn2
      have hrd : Hid (RdI (wr.alloc (.cells #[.slice Az z.way.length cz, .int .i64 z.p] 34)) w.heap.size Az z.way) := RdI.below hrz ((Below.refl _ wr).alloc (Nat.le_refl _) (.cells #[.slice Az z.way.length cz, .int .i64 z.p] 34) |>.mono hb.size)
      obtain ⟨hen0, hen9⟩ := heb
      generalize hen : endGo ts z.p z.way = en at *
      have HEQ := hide hen
      have HQ := hide HS'
      have hszr := hb.size
      have BA := hide hba; have OA := hide hoa; have BXH := hide BX
      clear HS HS' hz he hwk hzw hrz hn0 hn2 hc2 hd1 hen hown hba hoa BX
      go_wp2_with fail
      clear hm0 hm1
      generalize (wr.alloc (.cells #[.slice Az z.way.length cz, .int .i64 z.p] 34)) = wb at *
      have e0 : wb.drew.cell? ⟨wr.heap.size, 0, none⟩ = some (.slice Az z.way.length cz) := by have := BXH.out.cell 0; simpa using this
      have e1 : wb.drew.cell? ⟨wr.heap.size, 1, none⟩ = some (.int .i64 z.p) := by have := BXH.out.cell 1; simpa using this
      have e2 : wb.drew.cell? ⟨b1, o1 + k * 3 + 2, none⟩ = some (.int .i64 e.q) := m2
      have bd : Below w.heap.size w wb.drew := BA.out.drew
      have hod : wb.drew.ownsRow w.heap.size 2 1 u7 acc.length (acc.map (Value.int .i64)) := OA.out
      have hrd2 : RdI wb.drew w.heap.size Az z.way := hrd.out
      have hsd : wr.heap.size + 1 ≤ wb.drew.heap.size := hsa
      refine wp_region_held_drew (S := fun W => W.cell? ⟨wr.heap.size, 0, none⟩ = some (.slice Az z.way.length cz) ∧ W.cell? ⟨wr.heap.size, 1, none⟩ = some (.int .i64 z.p) ∧ W.cell? ⟨b1, o1 + k * 3 + 2, none⟩ = some (.int .i64 e.q)) (by kernel_rfl) (⟨e0, e1, e2⟩) (fun hHeld => ?_)
      generalize wb.drew = wd at *
      have hsz := bd.size
      have HC2 := hide (HEN.out z.way z.p Az cz wd bd HWK.out hzl (by omega) (hrd2.more bd.size))
      rw [HEQ.out] at HC2
      refine wpAnyH_take (i := 0) (v := ?_) rfl (by kernel_rfl) (by kernel_rfl) (by kernel_rfl) (fun _ _ _ h => h) (Or.inl ⟨by rfl, ?_⟩) (by assumption) ?_
      rotate_left 1
      · (intro w hSw; (try dsimp only at hSw); go_simp; try with_reducible rfl)
      try simp only [Act.put, List.getElem_toArray, List.getElem_cons_succ, List.getElem_cons_zero, List.setIfInBounds_toArray, List.set_cons_zero, List.set_cons_succ]
      refine wpAnyH_take (i := 1) (v := ?_) rfl (by kernel_rfl) (by kernel_rfl) (by kernel_rfl) (fun _ _ _ h => h) (Or.inl ⟨by rfl, ?_⟩) (by assumption) ?_
      rotate_left 1
      · (intro w hSw; (try dsimp only at hSw); go_simp; try with_reducible rfl)
      try simp only [Act.put, List.getElem_toArray, List.getElem_cons_succ, List.getElem_cons_zero, List.setIfInBounds_toArray, List.set_cons_zero, List.set_cons_succ]
      refine wpAnyH_take (i := 3) (v := ?_) rfl (by kernel_rfl) (by kernel_rfl) (by kernel_rfl) (fun _ _ _ h => h) (Or.inl ⟨by rfl, ?_⟩) (by assumption) ?_
      rotate_left 1
      · (intro w hSw; (try dsimp only at hSw); go_simp; try with_reducible rfl)
      try simp only [Act.put, List.getElem_toArray, List.getElem_cons_succ, List.getElem_cons_zero, List.setIfInBounds_toArray, List.set_cons_zero, List.set_cons_succ]
      refine wpAnyH_take (i := 4) (v := ?_) rfl (by kernel_rfl) (by kernel_rfl) (by kernel_rfl) (fun _ _ _ h => h) (Or.inl ⟨by rfl, ?_⟩) (by assumption) ?_
      rotate_left 1
      · (intro w hSw; (try dsimp only at hSw); go_simp; try with_reducible rfl)
      try simp only [Act.put, List.getElem_toArray, List.getElem_cons_succ, List.getElem_cons_zero, List.setIfInBounds_toArray, List.set_cons_zero, List.set_cons_succ]
      refine wpAnyH_take (i := 5) (v := ?_) rfl (by kernel_rfl) (by kernel_rfl) (by kernel_rfl) (fun _ _ _ h => h) (Or.inl ⟨by rfl, ?_⟩) (by assumption) ?_
      rotate_left 1
      · (intro w hSw; (try dsimp only at hSw); go_simp; try with_reducible rfl)
      try simp only [Act.put, List.getElem_toArray, List.getElem_cons_succ, List.getElem_cons_zero, List.setIfInBounds_toArray, List.set_cons_zero, List.set_cons_succ]
      refine wpAnyH_take (i := 6) (v := ?_) rfl (by kernel_rfl) (by kernel_rfl) (by kernel_rfl) (fun _ _ _ h => h) (Or.inl ⟨by rfl, ?_⟩) (by assumption) ?_
      rotate_left 1
      · (intro w hSw; (try dsimp only at hSw); go_simp; try with_reducible rfl)
      try simp only [Act.put, List.getElem_toArray, List.getElem_cons_succ, List.getElem_cons_zero, List.setIfInBounds_toArray, List.set_cons_zero, List.set_cons_succ]
      refine wpAnyH_take (i := 7) (v := ?_) rfl (by kernel_rfl) (by kernel_rfl) (by kernel_rfl) (fun _ _ _ h => h) (Or.inl ⟨by rfl, ?_⟩) (by assumption) ?_
      rotate_left 1
      · (intro w hSw; (try dsimp only at hSw); go_simp; try with_reducible rfl)
      try simp only [Act.put, List.getElem_toArray, List.getElem_cons_succ, List.getElem_cons_zero, List.setIfInBounds_toArray, List.set_cons_zero, List.set_cons_succ]
      refine wpAnyH_ready (rs := [2]) (by kernel_rfl) (by simp) ?_
      refine AllReadyH.cons rfl (fun K hK => ?_) AllReadyH.nil
      try simp only [Act.put, List.getElem_toArray, List.getElem_cons_succ, List.getElem_cons_zero, List.setIfInBounds_toArray, List.set_cons_zero, List.set_cons_succ]
      go_simp
      go_at_call 99
      refine HC2.out.mono ?_
      rintro e' w5 ⟨rfl, s5⟩
      have f0 := (s5.cell (p := ⟨wr.heap.size, 0, none⟩) (by dsimp only; omega)).trans e0
      have f1 := (s5.cell (p := ⟨wr.heap.size, 1, none⟩) (by dsimp only; omega)).trans e1
      have f2 := (s5.cell (p := ⟨b1, o1 + k * 3 + 2, none⟩) (by dsimp only; omega)).trans e2
      dsimp only
      refine hK.out _ _ (⟨f0, f1, f2⟩) (fun hHeld => ?_)
      clear hK K
      try simp only [Act.put, List.getElem_toArray, List.getElem_cons_succ, List.getElem_cons_zero, List.setIfInBounds_toArray, List.set_cons_zero, List.set_cons_succ]
      refine wpAnyH_take (i := 8) (v := ?_) rfl (by kernel_rfl) (by kernel_rfl) (by kernel_rfl) (fun _ _ _ h => h) (Or.inl ⟨by rfl, ?_⟩) (by assumption) ?_
      rotate_left 1
      · (intro w hSw; (try dsimp only at hSw); go_simp; try with_reducible rfl)
      try simp only [Act.put, List.getElem_toArray, List.getElem_cons_succ, List.getElem_cons_zero, List.setIfInBounds_toArray, List.set_cons_zero, List.set_cons_succ]
      refine wpAnyH_done (by kernel_rfl) ?_ _
      have ho5 := own_below hod s5 (Nat.le_refl _)
      have hb5 := bd.trans (s5.mono bd.size)
      by_cases hlate : e.q < en
      · have HN := hide (show laGo ts l (x.map (·.p)) 0 = (acc ++ [(k : Int)]) ++ laGo ts l ((x.map (·.p)).drop (k + 1)) (k + 1) by rw [HQ.out, if_pos hlate, List.append_assoc]; rfl)
        have hsz5 := hb5.size
        go_wp2_with (at_builtin; go_must (refine wp_app _ rfl _ _ 24 rfl (w.heap.size) 2 i0 (.int .i64 0) 1 8 Try.underlying24 hi0 hz0 hs0 hb0 rfl (by decide) _ _ _ rfl (ho5.alloc _) _ _ 1 1 [.int .i64 (k : Int)] rfl rfl (rd_new _ _ _ _ (by simp)) (int_one _) (by omega) (by decide) (by simp <;> omega) ?_); intro v' w6 hown' hgrow hat)
        have hb6 := app_below (hb5.alloc hsz5 _) (ho5.alloc _) hgrow (Nat.le_refl _) (by simp <;> omega)
        go_roundg (x.length - (k + 1))
        case measure => have := hg.out; omega
        case rel => exact ⟨k + 1, acc ++ [(k : Int)], by omega, rfl, by go_num, by simp; omega, by simpa using hown', HN, hb6⟩
      · have HN := hide (show laGo ts l (x.map (·.p)) 0 = acc ++ laGo ts l ((x.map (·.p)).drop (k + 1)) (k + 1) by rw [HQ.out, if_neg hlate])
        go_wp2_with fail
        go_roundg (x.length - (k + 1))
        case measure => have := hg.out; omega
        case rel => exact ⟨k + 1, acc, by omega, rfl, by go_num, by omega, ho5, HN, hb5⟩
    · have HF := hide (HS.out.trans (by rw [List.drop_eq_nil_of_le (by rw [List.length_map]; omega), laGo, List.append_nil] : _ = acc))
      go_wp2_with fail
      go_ret
      exact ⟨_, rfl, by rw [HF.out]; exact OwnV.of_row hown (by omega), hb⟩
set_option maxRecDepth 100000 in
set_option maxHeartbeats 8000000 in
theorem P_LateWishes (ts : List Int) (v : Value) (l : List TN) (u : Value) (order : List Int) (y : Value) (w : World) (h0 : ts.length ≤ 1048576) (_ : ∀ z ∈ ts, -9223372036854775808 ≤ z ∧ z ≤ 9223372036854775807) (h : R_Int64S w w.heap.size v ts) (hs : SmallN l) (_ : ∀ e ∈ l, e.Fits) (k : R_WishS w w.heap.size u l) (ho : order.length ≤ 1048576) (_ : ∀ z ∈ order, -9223372036854775808 ≤ z ∧ z ≤ 9223372036854775807) (q : R_Int64S w w.heap.size y order) (hcap : ∀ A m c, y = .slice A m c → m ≤ c) :
    Calls Try.prog 65 #[v, u, y] w fun e w' => ∃ r, e = .returned (.tuple #[r, .int .i64 (lateWishes ts l order).2]) ∧ O_Int64S w' w.heap.size w'.heap.size r (lateWishes ts l order).1 ∧ Below w.heap.size w w' := by
  obtain ⟨A0, c0, rfl, h1⟩ := h
  obtain ⟨A, c, rfl, h2⟩ := k
  obtain ⟨A2, c2, rfl, h3⟩ := q
  have hc2 := hcap _ _ _ rfl
  have HC := hide (wishesCode_any ts l order A0 c0 A c A2 c2 w h0 hs ho hc2 h1 h2 h3)
  have HPL := hide fun (hcd : codeO ts l order = 0) W (hW : Below w.heap.size w W) => runsOfPlan_any ts l order A0 c0 A c A2 c2 W hcd ((h1.below hW).more hW.size) ((h2.below hW).more hW.size) ((h3.below hW).more hW.size)
  have HX := hide h2
  have HTR := hide h1
  clear h1 h2 h3
  by_cases hcd : codeO ts l order = 0
  case neg =>
    have HR := hide (show lateWishes ts l order = ([], codeO ts l order) by unfold lateWishes; exact if_neg hcd)
    have hne : (codeO ts l order != 0) = true := by simp [hcd]
    generalize codeO ts l order = cd at *
    go_enter Try.func65, Try.ntmps65
    go_wp2_with (go_at_call 113; refine (HC.out).mono ?_; rintro e w1 ⟨rfl, hb1⟩)
    go_ret2
    exact ⟨_, by rw [HR.out]; rfl, by rw [HR.out]; exact O_Int64S.nil _ _ _ _ _, hb1⟩
  have HOK := hide (codeO_ok hcd)
  have HPQ := hide (HPL.out hcd)
  rw [hcd] at HC
  have HR := hide (show lateWishes ts l order = (laGo ts l (plan ts l order) 0, 0) by unfold lateWishes; exact if_pos hcd)
  have hl6 := HOK.out.1.2.1
  have HPB := hide (plan_bd hcd)
  have HPLL := hide (plan_len ts l order)
  have HLT := hide fun (A3 : Option Addr) (c3 : Nat) (po : List (Value × TN)) (base : Nat) W (hW : Below w.heap.size w W) (hpo : po.map (·.2) = planR ts l order) (hro : W.ownsRow base 34 2 (.slice A3 (planR ts l order).length c3) (planR ts l order).length (po.flatMap (Nc 1))) (hpw : ∀ p ∈ po, WayAt W W.heap.size p) => lateOf_any ts l (planR ts l order) A0 c0 A c A3 c3 W HOK.out.1.1 hl6 HOK.out.1.2.2 (planR_len ts l order) (fun e he => by obtain ⟨i, hi⟩ := List.getElem?_of_mem he; exact plan_bd hcd _ (List.mem_of_getElem? (planR_get hi))) (fun i e he => planR_way hcd he) ((HTR.out.below hW).more hW.size) ((HX.out.below hW).more hW.size) po hpo base hro hpw
  rw [planR_len, plan_p] at HLT
  clear hcd HPL
  go_enter Try.func65, Try.ntmps65
  go_wp2_with (first | (go_at_call 113; refine (HC.out).mono ?_; rintro e w1 ⟨rfl, hb1⟩) | (go_at_call 114; refine (HPQ.out _ hb1).mono ?_; rintro e w2 ⟨A3, c3, po, rfl, hpo, hro, hwy, hb2⟩; have hb3 := hb1.trans (hb2.mono hb1.size); have hpw : ∀ p ∈ po, WayAt w2 w2.heap.size p := (fun p hp => by obtain ⟨A', c', h5, h6⟩ := hwy p hp; exact ⟨A', c', h5, (h6.below hb2).more hb2.size⟩)) | (go_at_call 154; refine (HLT.out _ _ _ _ _ hb3 hpo hro hpw).mono ?_; rintro e w3 ⟨r, rfl, or, hb4⟩))
  go_ret2
  exact ⟨_, by rw [HR.out]; rfl, by rw [HR.out]; exact O_Int64S.widen or hb3.size (Nat.le_refl _), hb3.trans (hb4.mono hb3.size)⟩
end Go.Proofs.Ytfhociekhffjhaa
