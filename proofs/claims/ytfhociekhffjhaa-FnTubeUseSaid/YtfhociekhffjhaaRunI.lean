/-
  The plan of wishes by an order; in the program.
-/
import Derived.Test.YtfhociekhffjhaaRunH
namespace Go.Proofs.Ytfhociekhffjhaa
open Go.RowKit

theorem replicate_get_zp {n i : Nat} (h : i < n) : (List.replicate n zp)[i]? = some zp := by rw [List.getElem?_replicate, if_pos h]
theorem wayAt_zp (w : World) (B : Nat) : WayAt w B zp := ⟨none, 0, rfl, Rd.nil _ _ _⟩
set_option maxRecDepth 100000 in
set_option maxHeartbeats 8000000 in
theorem runsOfPlan_any (ts : List Int) (l : List TN) (order : List Int) (A0 : Option Addr) (c0 : Nat) (A : Option Addr) (c : Nat) (A2 : Option Addr) (c2 : Nat) (w : World) (hcode : codeO ts l order = 0) (h1 : RdI w w.heap.size A0 ts) (h2 : RN 2 w w.heap.size A l) (h3 : RdI w w.heap.size A2 order) :
    Calls Try.prog 114 #[.slice A0 ts.length c0, .slice A l.length c, .slice A2 order.length c2] w fun e w' => ∃ (A' : Option Addr) (c' : Nat) (po : List (Value × TN)), e = .returned (.slice A' l.length c') ∧ po.map (·.2) = planR ts l order ∧ w'.ownsRow w.heap.size 34 2 (.slice A' l.length c') l.length (po.flatMap (Nc 1)) ∧ (∀ p ∈ po, WayAt w w.heap.size p) ∧ Below w.heap.size w w' := by
  obtain ⟨⟨hts, hl6, hlo⟩, hol, hoi⟩ := codeO_ok hcode
  obtain ⟨i1, hi1, hz1, hs1', hb1⟩ := info_parts RunS_info
  have HE := hide fun (way : List Int) (done : List TN) (f : Int) Ar cr Aw cw W (hW : Below w.heap.size w W) (hd : OkPlan ts done) (hw : OkWay ts way) (hf : 0 ≤ f) (hf' : f ≤ 1000000) (r1 : RN 1 W W.heap.size Ar done) (r2 : RdI W W.heap.size Aw way) => earliestStart_any ts way done f A0 c0 Ar cr Aw cw W hts hd hw hf hf' ((h1.below hW).more hW.size) r1 r2
  have HTS := hide hts
  have HLO := hide hlo
  have HOI := hide hoi
  have HX := hide h2
  have HO := hide h3
  have ho6 : order.length ≤ 6 := by omega
  clear h1 h2 h3 hts hlo hoi hcode hol
  go_enter Try.func114, Try.ntmps114
  go_wp2_with (refine wpList_make_full _ rfl _ _ _ rfl w.heap.size 34 i1 _ 2 Try.underlying26 hi1 hz1 hs1' .i64 .i64 (l.length : Int) (l.length : Int) l.length rfl rfl rfl rfl (by rw [hb1]; omega) (by unfold maxLen; omega) (Nat.le_refl _) ?_; intro w1 hown1 hgr1)
  have hbm : Below w.heap.size w w1 := (Below.refl _ _).grown hgr1 (Nat.le_refl _) (by intro k hk; cases hk)
  have hout0 : w1.ownsRow w.heap.size 34 2 (.slice (some ⟨w.heap.size, 0, none⟩) l.length l.length) l.length ((List.replicate l.length zp).flatMap (Nc 1)) := by rw [← made_flatMap (Nc 1) 2 (fun _ => rfl) zp (by omega)]; exact hown1
  have hlb1 : w.heap.size < w1.heap.size := (hout0.lt _ rfl).2
  have hout1 := hout0.alloc (.cells #[] 34)
  have hrun1 := own_new0 w1 w.heap.size 34 2 hbm.size
  have hb2 := hbm.alloc hbm.size (.cells #[] 34)
  have hne1 : (Value.slice (some ⟨w1.heap.size, 0, none⟩) 0 0).ownBlock ≠ some w.heap.size := by simp [Value.ownBlock]; omega
  clear hown1 hgr1 hout0 hbm
  go_loopg [8, 18] order.length (fun g s i wr => ∃ (k : Nat) (done : List TN) (ps po : List (Value × TN)), k ≤ order.length ∧ Hid (g = order.length - k) ∧ i = .int .i64 k ∧ Hid (planR ts l order = planRGo ts l (order.drop k) done (po.map (·.2))) ∧ Hid (DoneOk ts k done) ∧ Hid (ps.map (·.2) = done) ∧ Hid (∀ p ∈ ps, WayAt w w.heap.size p) ∧ Hid (∀ p ∈ po, WayAt w w.heap.size p) ∧
    wr.ownsRow w.heap.size 34 2 s k (ps.flatMap (Nc 1)) ∧ s.ownBlock ≠ some w.heap.size ∧ po.length = l.length ∧ wr.ownsRow w.heap.size 34 2 (.slice (some ⟨w.heap.size, 0, none⟩) l.length l.length) l.length (po.flatMap (Nc 1)) ∧ Below w.heap.size w wr)
  case atStart => exact ⟨0, [], [], List.replicate l.length zp, by omega, by simp [Hid], rfl, by simp [Hid, planR, zp], ⟨rfl, fun e he => by cases he⟩, rfl, hide (fun p hp => by cases hp), hide (fun p hp => by obtain ⟨_, rfl⟩ := List.mem_replicate.1 hp; exact wayAt_zp _ _), hrun1, hne1, by simp, hout1, hb2⟩
  case round =>
    obtain ⟨k, done, ps, po, hk, hg, rfl, HS, HD, HP, HWA, HWO, hrun, hne, hol2, hout, hb⟩ := hrel
    clear hout1 hrun1 hb2 hne1 hlb1
    by_cases hlt : k < order.length
    · obtain ⟨b3, o3, z, hA2, hbb3, hz, hca⟩ := (HO.out.below hb).at_ hlt
      have hzi := HOI.out z (List.mem_of_getElem? hz)
      obtain ⟨n1, rfl⟩ := Int.eq_ofNat_of_zero_le hzi.1
      have hnl : n1 < l.length := by omega
      obtain ⟨b1, o1, e, Aw, cw, hA, hbb1, he, hrw, hn0, hc1, hc2⟩ := (HX.out.below hb).at_ (by omega) hnl
      have hn1 := hc1 (by omega)
      subst hA hA2
      obtain ⟨hwy, ⟨hp0, hp9⟩, _⟩ := HLO.out e (List.mem_of_getElem? he)
      have HS' := HS.out
      rw [planRGo_drop hz, startOf, wishAt_get he] at HS'
      have HD' := hide (HD.out.next HTS.out hwy hp0 hp9)
      have hsb := start_bd HTS.out HD.out hwy hp0 hp9
      have hpl := HD.out.plan (by omega)
      have hw12 := hwy.1.2
      obtain ⟨Ar, cr, hsh, _⟩ := own_shape hrun
      subst hsh
      have hdl : done.length = k := HD.out.1
      have hszb := hb.size
      have e0 : wr.drew.cell? ⟨b1, o1 + n1 * 3, none⟩ = some (.slice Aw e.way.length cw) := hn0
      have e1 : wr.drew.cell? ⟨b1, o1 + n1 * 3 + 1, none⟩ = some (.int .i64 e.p) := hn1
      have e2 : wr.drew.cell? ⟨b3, o3 + k, none⟩ = some (.int .i64 (n1 : Int)) := hca
      have bd : Below w.heap.size w wr.drew := hb.drew
      have hrund : wr.drew.ownsRow w.heap.size 34 2 (.slice Ar k cr) k (ps.flatMap (Nc 1)) := hrun
      have houtd : wr.drew.ownsRow w.heap.size 34 2 (.slice (some ⟨w.heap.size, 0, none⟩) l.length l.length) l.length (po.flatMap (Nc 1)) := hout
      have hwa : Hid (WayAt w w.heap.size (.slice Aw e.way.length cw, e)) := by
        obtain ⟨b', o', e', Aw', cw', hA', hb', he', hr', hc', _, _⟩ := HX.out.at_ (by omega) hnl
        cases hA'
        rw [he] at he'
        cases he'
        have h9 := (hb.cell (p := ⟨b1, o1 + n1 * 3, none⟩) hbb1)
        rw [hn0, hc'] at h9
        cases h9
        exact ⟨_, _, rfl, hr'⟩
      have hrwd : RdI wr.drew wr.drew.heap.size Aw e.way := RdI.more (w := wr.drew) (show RdI wr.drew w.heap.size Aw e.way from hrw) bd.size
      have HC := hide (HE.out e.way done e.p Ar cr Aw cw wr.drew bd hpl hwy hp0 (by omega) ⟨ps, HP.out, Rd.of_own hrund, fun p hp => by obtain ⟨A', c', h5, h6⟩ := HWA.out p hp; exact ⟨A', c', h5, (h6.below bd).more bd.size⟩⟩ hrwd)
      rw [hdl] at HC
      generalize hst : estOf ts (takenOf ts done) e.way e.p = st at *
      have HST := hide hst
      obtain ⟨hs0, hs9⟩ := hsb
      have HQ := hide HS'
      clear HS' HS hz he hrw hc1 hc2 hn0 hn1 hrun hout hst hzi
      have HWY := hide hwy
      have HPL := hide hpl
      have HRWD := hide hrwd
      clear hwy hpl hrwd
      go_wp2_with fail
      clear hca
      refine wp_region_held_drew (S := fun W => W.cell? ⟨b1, o1 + n1 * 3, none⟩ = some (.slice Aw e.way.length cw) ∧ W.cell? ⟨b1, o1 + n1 * 3 + 1, none⟩ = some (.int .i64 e.p)) (by kernel_rfl) (⟨e0, e1⟩) (fun hHeld => ?_)
      generalize wr.drew = wd at *
      refine wpAnyH_take (i := 0) (v := ?_) rfl (by kernel_rfl) (by kernel_rfl) (by kernel_rfl) (fun _ _ _ h => h) (Or.inl ⟨by rfl, ?_⟩) (by assumption) ?_
      rotate_left 1
      · (intro w hSw; (try dsimp only at hSw); go_simp; try with_reducible rfl)
      try simp only [Act.put, List.getElem_toArray, List.getElem_cons_succ, List.getElem_cons_zero, List.setIfInBounds_toArray, List.set_cons_zero, List.set_cons_succ]
      refine wpAnyH_take (i := 1) (v := ?_) rfl (by kernel_rfl) (by kernel_rfl) (by kernel_rfl) (fun _ _ _ h => h) (Or.inl ⟨by rfl, ?_⟩) (by assumption) ?_
      rotate_left 1
      · (intro w hSw; (try dsimp only at hSw); go_simp; try with_reducible rfl)
      try simp only [Act.put, List.getElem_toArray, List.getElem_cons_succ, List.getElem_cons_zero, List.setIfInBounds_toArray, List.set_cons_zero, List.set_cons_succ]
      refine wpAnyH_take (i := 2) (v := ?_) rfl (by kernel_rfl) (by kernel_rfl) (by kernel_rfl) (fun _ _ _ h => h) (Or.inl ⟨by rfl, ?_⟩) (by assumption) ?_
      rotate_left 1
      · (intro w hSw; (try dsimp only at hSw); go_simp; try with_reducible rfl)
      try simp only [Act.put, List.getElem_toArray, List.getElem_cons_succ, List.getElem_cons_zero, List.setIfInBounds_toArray, List.set_cons_zero, List.set_cons_succ]
      refine wpAnyH_take (i := 3) (v := ?_) rfl (by kernel_rfl) (by kernel_rfl) (by kernel_rfl) (fun _ _ _ h => h) (Or.inl ⟨by rfl, ?_⟩) (by assumption) ?_
      rotate_left 1
      · (intro w hSw; (try dsimp only at hSw); go_simp; try with_reducible rfl)
      try simp only [Act.put, List.getElem_toArray, List.getElem_cons_succ, List.getElem_cons_zero, List.setIfInBounds_toArray, List.set_cons_zero, List.set_cons_succ]
      refine wpAnyH_take (i := 4) (v := ?_) rfl (by kernel_rfl) (by kernel_rfl) (by kernel_rfl) (fun _ _ _ h => h) (Or.inl ⟨by rfl, ?_⟩) (by assumption) ?_
      rotate_left 1
      · (intro w hSw; (try dsimp only at hSw); go_simp; try with_reducible rfl)
      try simp only [Act.put, List.getElem_toArray, List.getElem_cons_succ, List.getElem_cons_zero, List.setIfInBounds_toArray, List.set_cons_zero, List.set_cons_succ]
      refine wpAnyH_take (i := 5) (v := ?_) rfl (by kernel_rfl) (by kernel_rfl) (by kernel_rfl) (fun _ _ _ h => h) (Or.inl ⟨by rfl, ?_⟩) (by assumption) ?_
      rotate_left 1
      · (intro w hSw; (try dsimp only at hSw); go_simp; try with_reducible rfl)
      try simp only [Act.put, List.getElem_toArray, List.getElem_cons_succ, List.getElem_cons_zero, List.setIfInBounds_toArray, List.set_cons_zero, List.set_cons_succ]
      refine wpAnyH_take (i := 6) (v := ?_) rfl (by kernel_rfl) (by kernel_rfl) (by kernel_rfl) (fun _ _ _ h => h) (Or.inl ⟨by rfl, ?_⟩) (by assumption) ?_
      rotate_left 1
      · (intro w hSw; (try dsimp only at hSw); go_simp; try with_reducible rfl)
      try simp only [Act.put, List.getElem_toArray, List.getElem_cons_succ, List.getElem_cons_zero, List.setIfInBounds_toArray, List.set_cons_zero, List.set_cons_succ]
      refine wpAnyH_take (i := 7) (v := ?_) rfl (by kernel_rfl) (by kernel_rfl) (by kernel_rfl) (fun _ _ _ h => h) (Or.inl ⟨by rfl, ?_⟩) (by assumption) ?_
      rotate_left 1
      · (intro w hSw; (try dsimp only at hSw); go_simp; try with_reducible rfl)
      try simp only [Act.put, List.getElem_toArray, List.getElem_cons_succ, List.getElem_cons_zero, List.setIfInBounds_toArray, List.set_cons_zero, List.set_cons_succ]
      refine wpAnyH_take (i := 8) (v := ?_) rfl (by kernel_rfl) (by kernel_rfl) (by kernel_rfl) (fun _ _ _ h => h) (Or.inl ⟨by rfl, ?_⟩) (by assumption) ?_
      rotate_left 1
      · (intro w hSw; (try dsimp only at hSw); go_simp; try with_reducible rfl)
      try simp only [Act.put, List.getElem_toArray, List.getElem_cons_succ, List.getElem_cons_zero, List.setIfInBounds_toArray, List.set_cons_zero, List.set_cons_succ]
      refine wpAnyH_take (i := 9) (v := ?_) rfl (by kernel_rfl) (by kernel_rfl) (by kernel_rfl) (fun _ _ _ h => h) (Or.inl ⟨by rfl, ?_⟩) (by assumption) ?_
      rotate_left 1
      · (intro w hSw; (try dsimp only at hSw); go_simp; try with_reducible rfl)
      try simp only [Act.put, List.getElem_toArray, List.getElem_cons_succ, List.getElem_cons_zero, List.setIfInBounds_toArray, List.set_cons_zero, List.set_cons_succ]
      refine wpAnyH_take (i := 10) (v := ?_) rfl (by kernel_rfl) (by kernel_rfl) (by kernel_rfl) (fun _ _ _ h => h) (Or.inl ⟨by rfl, ?_⟩) (by assumption) ?_
      rotate_left 1
      · (intro w hSw; (try dsimp only at hSw); go_simp; try with_reducible rfl)
      try simp only [Act.put, List.getElem_toArray, List.getElem_cons_succ, List.getElem_cons_zero, List.setIfInBounds_toArray, List.set_cons_zero, List.set_cons_succ]
      refine wpAnyH_take (i := 11) (v := ?_) rfl (by kernel_rfl) (by kernel_rfl) (by kernel_rfl) (fun _ _ _ h => h) (Or.inl ⟨by rfl, ?_⟩) (by assumption) ?_
      rotate_left 1
      · (intro w hSw; (try dsimp only at hSw); go_simp; try with_reducible rfl)
      try simp only [Act.put, List.getElem_toArray, List.getElem_cons_succ, List.getElem_cons_zero, List.setIfInBounds_toArray, List.set_cons_zero, List.set_cons_succ]
      refine wpAnyH_take (i := 12) (v := ?_) rfl (by kernel_rfl) (by kernel_rfl) (by kernel_rfl) (fun _ _ _ h => h) (Or.inl ⟨by rfl, ?_⟩) (by assumption) ?_
      rotate_left 1
      · (intro w hSw; (try dsimp only at hSw); go_simp; try with_reducible rfl)
      try simp only [Act.put, List.getElem_toArray, List.getElem_cons_succ, List.getElem_cons_zero, List.setIfInBounds_toArray, List.set_cons_zero, List.set_cons_succ]
      refine wpAnyH_take (i := 13) (v := ?_) rfl (by kernel_rfl) (by kernel_rfl) (by kernel_rfl) (fun _ _ _ h => h) (Or.inl ⟨by rfl, ?_⟩) (by assumption) ?_
      rotate_left 1
      · (intro w hSw; (try dsimp only at hSw); go_simp; try with_reducible rfl)
      try simp only [Act.put, List.getElem_toArray, List.getElem_cons_succ, List.getElem_cons_zero, List.setIfInBounds_toArray, List.set_cons_zero, List.set_cons_succ]
      refine wpAnyH_take (i := 14) (v := ?_) rfl (by kernel_rfl) (by kernel_rfl) (by kernel_rfl) (fun _ _ _ h => h) (Or.inl ⟨by rfl, ?_⟩) (by assumption) ?_
      rotate_left 1
      · (intro w hSw; (try dsimp only at hSw); go_simp; try with_reducible rfl)
      try simp only [Act.put, List.getElem_toArray, List.getElem_cons_succ, List.getElem_cons_zero, List.setIfInBounds_toArray, List.set_cons_zero, List.set_cons_succ]
      refine wpAnyH_take (i := 15) (v := ?_) rfl (by kernel_rfl) (by kernel_rfl) (by kernel_rfl) (fun _ _ _ h => h) (Or.inl ⟨by rfl, ?_⟩) (by assumption) ?_
      rotate_left 1
      · (intro w hSw; (try dsimp only at hSw); go_simp; try with_reducible rfl)
      try simp only [Act.put, List.getElem_toArray, List.getElem_cons_succ, List.getElem_cons_zero, List.setIfInBounds_toArray, List.set_cons_zero, List.set_cons_succ]
      refine wpAnyH_take (i := 16) (v := ?_) rfl (by kernel_rfl) (by kernel_rfl) (by kernel_rfl) (fun _ _ _ h => h) (Or.inl ⟨by rfl, ?_⟩) (by assumption) ?_
      rotate_left 1
      · (intro w hSw; (try dsimp only at hSw); go_simp; try with_reducible rfl)
      try simp only [Act.put, List.getElem_toArray, List.getElem_cons_succ, List.getElem_cons_zero, List.setIfInBounds_toArray, List.set_cons_zero, List.set_cons_succ]
      refine wpAnyH_ready (rs := [17, 19]) (by kernel_rfl) (by simp) ?_
      refine AllReadyH.cons rfl (fun K hK => ?_) (AllReadyH.cons rfl (fun K hK => ?_) AllReadyH.nil)
      · try simp only [Act.put, List.getElem_toArray, List.getElem_cons_succ, List.getElem_cons_zero, List.setIfInBounds_toArray, List.set_cons_zero, List.set_cons_succ]
        go_simp
        go_at_call 104
        refine HC.out.mono ?_
        rintro e' w2 ⟨rfl, s2⟩
        have hszd := bd.size
        have f0 := (s2.cell (p := ⟨b1, o1 + n1 * 3, none⟩) (by dsimp only; omega)).trans e0
        have f1 := (s2.cell (p := ⟨b1, o1 + n1 * 3 + 1, none⟩) (by dsimp only; omega)).trans e1
        dsimp only
        refine hK.out _ _ (⟨f0, f1⟩) (fun hHeld => ?_)
        clear hK K
        try simp only [Act.put, List.getElem_toArray, List.getElem_cons_succ, List.getElem_cons_zero, List.setIfInBounds_toArray, List.set_cons_zero, List.set_cons_succ]
        refine wpAnyH_take (i := 18) (v := ?_) rfl (by kernel_rfl) (by kernel_rfl) (by kernel_rfl) (fun _ _ _ h => h) (Or.inl ⟨by rfl, ?_⟩) (by assumption) ?_
        rotate_left 1
        · (intro w hSw; (try dsimp only at hSw); go_simp; try with_reducible rfl)
        try simp only [Act.put, List.getElem_toArray, List.getElem_cons_succ, List.getElem_cons_zero, List.setIfInBounds_toArray, List.set_cons_zero, List.set_cons_succ]
        refine wpAnyH_ready (rs := [19]) (by kernel_rfl) (by simp) ?_
        refine AllReadyH.cons rfl (fun K hK => ?_) AllReadyH.nil
        try simp only [Act.put, List.getElem_toArray, List.getElem_cons_succ, List.getElem_cons_zero, List.setIfInBounds_toArray, List.set_cons_zero, List.set_cons_succ]
        go_simp
        have hsz2 := s2.size
        have g0 : (w2.alloc (.cells #[.slice none 0 0, .int .i64 0] 34)).cell? ⟨b1, o1 + n1 * 3, none⟩ = some (.slice Aw e.way.length cw) := (World.cell?_alloc_old _ _ _ (by dsimp only; omega)).trans f0
        have g1 : (w2.alloc (.cells #[.slice none 0 0, .int .i64 0] 34)).cell? ⟨b1, o1 + n1 * 3 + 1, none⟩ = some (.int .i64 e.p) := (World.cell?_alloc_old _ _ _ (by dsimp only; omega)).trans f1
        refine hK.out _ _ (⟨g0, g1⟩) (fun hHeld => ?_)
        clear hK K
        try simp only [Act.put, List.getElem_toArray, List.getElem_cons_succ, List.getElem_cons_zero, List.setIfInBounds_toArray, List.set_cons_zero, List.set_cons_succ]
        refine wpAnyH_ready (rs := [20]) (by kernel_rfl) (by simp) ?_
        refine AllReadyH.cons rfl (fun K hK => ?_) AllReadyH.nil
        try simp only [Act.put, List.getElem_toArray, List.getElem_cons_succ, List.getElem_cons_zero, List.setIfInBounds_toArray, List.set_cons_zero, List.set_cons_succ]
        go_simp
        have g2 : (w2.alloc (.cells #[.slice Aw e.way.length cw, .int .i64 st] 34)).cell? ⟨b1, o1 + n1 * 3, none⟩ = some (.slice Aw e.way.length cw) := (World.cell?_alloc_old _ _ _ (by dsimp only; omega)).trans f0
        have g3 : (w2.alloc (.cells #[.slice Aw e.way.length cw, .int .i64 st] 34)).cell? ⟨b1, o1 + n1 * 3 + 1, none⟩ = some (.int .i64 e.p) := (World.cell?_alloc_old _ _ _ (by dsimp only; omega)).trans f1
        refine hK.out _ _ (⟨g2, g3⟩) (fun hHeld => ?_)
        clear hK K
        try simp only [Act.put, List.getElem_toArray, List.getElem_cons_succ, List.getElem_cons_zero, List.setIfInBounds_toArray, List.set_cons_zero, List.set_cons_succ]
        refine wpAnyH_done (by kernel_rfl) ?_ _
        have BX := BoxN.new w2 #[.slice Aw e.way.length cw, .int .i64 st] 34
        have hrunx := (own_below hrund s2 (Nat.le_refl _)).alloc (.cells #[.slice Aw e.way.length cw, .int .i64 st] 34)
        have houtx := (own_below houtd s2 (Nat.le_refl _)).alloc (.cells #[.slice Aw e.way.length cw, .int .i64 st] 34)
        have hb2 := bd.trans (s2.mono bd.size)
        have bx := hb2.alloc hb2.size (.cells #[.slice Aw e.way.length cw, .int .i64 st] 34)
        have hq : w.heap.size < w2.heap.size := ((own_below houtd s2 (Nat.le_refl _)).lt _ rfl).2
        clear g0 g1 g2 g3 f0 f1 e0 e1 e2 s2 hb2 hrund houtd bd
        generalize (w2.alloc (.cells #[.slice Aw e.way.length cw, .int .i64 st] 34)) = wx at *
        have hlt1 : (n1 : Int) < l.length := by omega
        have hlt0 : (0 : Int) ≤ (n1 : Int) := by omega
        have kb0 := BX.cell 0
        have kb1 := BX.cell 1
        simp only [List.getElem?_cons_succ, List.getElem?_cons_zero] at kb0 kb1
        obtain ⟨y, hy⟩ : ∃ y, po[n1]? = some y := ⟨_, List.getElem?_eq_getElem (by omega)⟩
        obtain ⟨yv, ye⟩ := y
        have ko0 : wx.cell? ⟨w.heap.size, n1 * 2, none⟩ = some yv := (houtx.cellAt (n1 * 2) (by omega)).trans (flatMap_get (Nc 1) 2 (fun _ => rfl) po n1 0 _ hy (by omega))
        have ko1 : wx.cell? ⟨w.heap.size, n1 * 2 + 1, none⟩ = some (.int .i64 ye.p) := (houtx.cellAt (n1 * 2 + 1) (by omega)).trans (flatMap_get (Nc 1) 2 (fun _ => rfl) po n1 1 _ hy (by omega))
        have hyv : ∃ Ay cy, yv = .slice Ay ye.way.length cy := by obtain ⟨A', c', h5, _⟩ := HWO.out _ (List.mem_of_getElem? hy); exact ⟨A', c', h5⟩
        obtain ⟨Ay, cy, rfl⟩ := hyv
        have kf0 := houtx.frozenAt (n1 * 2)
        have kf1 := houtx.frozenAt (n1 * 2 + 1)
        have hs0 := houtx.stored (n1 * 2) (.slice Aw e.way.length cw)
        have hs1 := hs0.1.stored (n1 * 2 + 1) (.int .i64 st)
        have hfin := store1 hy (.slice Aw e.way.length cw) ⟨e.way, st, 0⟩
        have BY := (BX.other (show w.heap.size ≠ w2.heap.size by omega) (n1 * 2) (.slice Aw e.way.length cw)).other (show w.heap.size ≠ w2.heap.size by omega) (n1 * 2 + 1) (.int .i64 st)
        have ky0 := BY.cell 0
        have ky1 := BY.cell 1
        simp only [List.getElem?_cons_succ, List.getElem?_cons_zero] at ky0 ky1
        have hruny := (hrunx.kept hs0.2 (.inr hne)).kept hs1.2 (.inr hne)
        have R2 := hide (hruny.alloc (.cells #[.slice Aw e.way.length cw, .int .i64 st] 34))
        have O2 := hide (hs1.1.alloc (.cells #[.slice Aw e.way.length cw, .int .i64 st] 34))
        have HNE := hide (show (Value.slice (some ⟨w.heap.size, 0, none⟩) l.length l.length).ownBlock = none ∨ (Value.slice (some ⟨w.heap.size, 0, none⟩) l.length l.length).ownBlock ≠ (Value.slice Ar k cr).ownBlock from .inr fun h => hne h.symm)
        have B1 : Below w.heap.size w ((wx.setCell ⟨w.heap.size, n1 * 2, none⟩ (.slice Aw e.way.length cw)).setCell ⟨w.heap.size, n1 * 2 + 1, none⟩ (.int .i64 st)) := ⟨bx.os, bx.tape, bx.output, Nat.le_trans bx.size (by simp), fun k' hk' => by rw [heap_setCell_other _ _ _ _ (by simp; omega), heap_setCell_other _ _ _ _ (by simp; omega)]; exact bx.block k' hk'⟩
        have B2 := hide (B1.alloc B1.size (.cells #[.slice Aw e.way.length cw, .int .i64 st] 34))
        have HY := hide hy
        have HFIN := hide hfin
        have HLBY := hide (show w.heap.size < ((wx.setCell ⟨w.heap.size, n1 * 2, none⟩ (.slice Aw e.way.length cw)).setCell ⟨w.heap.size, n1 * 2 + 1, none⟩ (.int .i64 st)).heap.size from (hs1.1.lt _ rfl).2)
        clear hs0 hs1 hruny hy hfin BY BX B1 hrunx houtx
        go_wp2_with (at_builtin; go_must (refine wp_app _ rfl _ _ 26 rfl w.heap.size 34 i1 (.agg #[.slice none 0 0, .int .i64 0]) 2 32 Try.underlying26 hi1 hz1 hs1' hb1 rfl (by decide) _ _ _ rfl R2.out _ _ 1 1 [.slice Aw e.way.length cw, .int .i64 st] rfl rfl (rd_new _ _ _ _ (by simp)) (by intro u hu; simp at hu; rcases hu with rfl | rfl <;> rfl) (by omega) (by decide) B2.out.size ?_); intro v' w4 hown' hgrow hat)
        have hb4 := app_below B2.out R2.out hgrow (Nat.le_refl _) B2.out.size
        have out4 := O2.out.kept hgrow HNE.out
        have hne4 : v'.ownBlock ≠ some w.heap.size := by
          rcases hat with h | h
          · rw [h]; exact hne
          · have := HLBY.out; rw [h]; simp at this ⊢; omega
        go_roundg (order.length - (k + 1))
        case measure => have := hg.out; omega
        case rel => exact ⟨k + 1, done ++ [⟨e.way, st, 0⟩], ps ++ [(.slice Aw e.way.length cw, ⟨e.way, st, 0⟩)], po.set n1 (.slice Aw e.way.length cw, ⟨e.way, st, 0⟩), by omega, rfl, by go_num, by unfold Hid; rw [List.map_set]; exact HQ, HD', by unfold Hid; rw [List.map_append, HP.out]; rfl, hide (fun p hp => by rcases List.mem_append.1 hp with hp | hp; exact HWA.out p hp; simp only [List.mem_singleton] at hp; subst hp; exact hwa.out), hide (fun p hp => by rcases List.mem_or_eq_of_mem_set hp with hp | hp; exact HWO.out p hp; subst hp; exact hwa.out), by rw [List.flatMap_append]; exact hown', hne4, by rw [List.length_set]; exact hol2, by rw [← HFIN.out]; exact out4, hb4⟩
      · try simp only [Act.put, List.getElem_toArray, List.getElem_cons_succ, List.getElem_cons_zero, List.setIfInBounds_toArray, List.set_cons_zero, List.set_cons_succ]
        go_simp
        have g0 : (wd.alloc (.cells #[.slice none 0 0, .int .i64 0] 34)).cell? ⟨b1, o1 + n1 * 3, none⟩ = some (.slice Aw e.way.length cw) := (World.cell?_alloc_old _ _ _ (by dsimp only; have := bd.size; omega)).trans e0
        have g1 : (wd.alloc (.cells #[.slice none 0 0, .int .i64 0] 34)).cell? ⟨b1, o1 + n1 * 3 + 1, none⟩ = some (.int .i64 e.p) := (World.cell?_alloc_old _ _ _ (by dsimp only; have := bd.size; omega)).trans e1
        refine hK.out _ _ (⟨g0, g1⟩) (fun hHeld => ?_)
        clear hK K
        try simp only [Act.put, List.getElem_toArray, List.getElem_cons_succ, List.getElem_cons_zero, List.setIfInBounds_toArray, List.set_cons_zero, List.set_cons_succ]
        have BZ := BoxN.new wd #[.slice none 0 0, .int .i64 0] 34
        have hrune := hrund.alloc (.cells #[.slice none 0 0, .int .i64 0] 34)
        have houte := houtd.alloc (.cells #[.slice none 0 0, .int .i64 0] 34)
        have be := bd.alloc bd.size (.cells #[.slice none 0 0, .int .i64 0] 34)
        have hse : wd.heap.size + 1 ≤ (wd.alloc (.cells #[.slice none 0 0, .int .i64 0] 34)).heap.size := by simp
        have hqd : w.heap.size < wd.heap.size := (houtd.lt _ rfl).2
        have HC2 := hide (HE.out e.way done e.p Ar cr Aw cw (wd.alloc (.cells #[.slice none 0 0, .int .i64 0] 34)) be HPL.out HWY.out hp0 (by omega) ⟨ps, HP.out, Rd.of_own hrune, fun p hp => by obtain ⟨A', c', h5, h6⟩ := HWA.out p hp; exact ⟨A', c', h5, (h6.below be).more be.size⟩⟩ ((RdI.below HRWD.out ((Below.refl _ wd).alloc (Nat.le_refl _) _)).more (by omega)))
        rw [hdl, HST.out] at HC2
        generalize (wd.alloc (.cells #[.slice none 0 0, .int .i64 0] 34)) = we at *
        refine wpAnyH_ready (rs := [17]) (by kernel_rfl) (by simp) ?_
        refine AllReadyH.cons rfl (fun K hK => ?_) AllReadyH.nil
        try simp only [Act.put, List.getElem_toArray, List.getElem_cons_succ, List.getElem_cons_zero, List.setIfInBounds_toArray, List.set_cons_zero, List.set_cons_succ]
        go_simp
        go_at_call 104
        refine HC2.out.mono ?_
        rintro e' w2 ⟨rfl, s2⟩
        have f0 := (s2.cell (p := ⟨b1, o1 + n1 * 3, none⟩) (by dsimp only; have := be.size; omega)).trans g0
        have f1 := (s2.cell (p := ⟨b1, o1 + n1 * 3 + 1, none⟩) (by dsimp only; have := be.size; omega)).trans g1
        dsimp only
        refine hK.out _ _ (⟨f0, f1⟩) (fun hHeld => ?_)
        clear hK K
        try simp only [Act.put, List.getElem_toArray, List.getElem_cons_succ, List.getElem_cons_zero, List.setIfInBounds_toArray, List.set_cons_zero, List.set_cons_succ]
        refine wpAnyH_take (i := 18) (v := ?_) rfl (by kernel_rfl) (by kernel_rfl) (by kernel_rfl) (fun _ _ _ h => h) (Or.inl ⟨by rfl, ?_⟩) (by assumption) ?_
        rotate_left 1
        · (intro w hSw; (try dsimp only at hSw); go_simp; try with_reducible rfl)
        try simp only [Act.put, List.getElem_toArray, List.getElem_cons_succ, List.getElem_cons_zero, List.setIfInBounds_toArray, List.set_cons_zero, List.set_cons_succ]
        have BZ2 := BZ.below s2 (by omega)
        have kz0 := BZ2.cell 0
        have kz1 := BZ2.cell 1
        have kzf0 := BZ2.fro 0
        have kzf1 := BZ2.fro 1
        simp only [List.getElem?_cons_succ, List.getElem?_cons_zero] at kz0 kz1
        refine wpAnyH_ready (rs := [20]) (by kernel_rfl) (by simp) ?_
        refine AllReadyH.cons rfl (fun K hK => ?_) AllReadyH.nil
        try simp only [Act.put, List.getElem_toArray, List.getElem_cons_succ, List.getElem_cons_zero, List.setIfInBounds_toArray, List.set_cons_zero, List.set_cons_succ]
        go_simp
        have h0 : ((w2.setCell ⟨wd.heap.size, 0, none⟩ (.slice Aw e.way.length cw)).setCell ⟨wd.heap.size, 1, none⟩ (.int .i64 st)).cell? ⟨b1, o1 + n1 * 3, none⟩ = some (.slice Aw e.way.length cw) := by rw [World.cell?_setCell_other _ _ _ _ (fun h => by have := (Addr.mk.inj h).1; have := bd.size; omega), World.cell?_setCell_other _ _ _ _ (fun h => by have := (Addr.mk.inj h).1; have := bd.size; omega)]; exact f0
        have h1 : ((w2.setCell ⟨wd.heap.size, 0, none⟩ (.slice Aw e.way.length cw)).setCell ⟨wd.heap.size, 1, none⟩ (.int .i64 st)).cell? ⟨b1, o1 + n1 * 3 + 1, none⟩ = some (.int .i64 e.p) := by rw [World.cell?_setCell_other _ _ _ _ (fun h => by have := (Addr.mk.inj h).1; have := bd.size; omega), World.cell?_setCell_other _ _ _ _ (fun h => by have := (Addr.mk.inj h).1; have := bd.size; omega)]; exact f1
        refine hK.out _ _ (⟨h0, h1⟩) (fun hHeld => ?_)
        clear hK K
        try simp only [Act.put, List.getElem_toArray, List.getElem_cons_succ, List.getElem_cons_zero, List.setIfInBounds_toArray, List.set_cons_zero, List.set_cons_succ]
        refine wpAnyH_done (by kernel_rfl) ?_ _
        have BX : BoxN ((w2.setCell ⟨wd.heap.size, 0, none⟩ (.slice Aw e.way.length cw)).setCell ⟨wd.heap.size, 1, none⟩ (.int .i64 st)) wd.heap.size #[.slice Aw e.way.length cw, .int .i64 st] 34 := (BZ2.set 0 (.slice Aw e.way.length cw)).set 1 (.int .i64 st)
        have hg1 : w2.grownBy ((w2.setCell ⟨wd.heap.size, 0, none⟩ (.slice Aw e.way.length cw)).setCell ⟨wd.heap.size, 1, none⟩ (.int .i64 st)) (some wd.heap.size) := ⟨rfl, rfl, rfl, by simp, fun k' hk' hne' => by rw [heap_setCell_other _ _ _ _ (fun h => hne' (by rw [h])), heap_setCell_other _ _ _ _ (fun h => hne' (by rw [h]))]⟩
        have hlw := hide fun g h => (hrund.lt g h).2
        have hrunx := (own_below hrune s2 (Nat.le_refl _)).kept hg1 (.inr fun h => by have := hlw.out _ h; omega)
        have houtx := (own_below houte s2 (Nat.le_refl _)).kept hg1 (.inr fun h => by simp [Value.ownBlock] at h; omega)
        have hb2 := be.trans (s2.mono be.size)
        have bx : Below w.heap.size w ((w2.setCell ⟨wd.heap.size, 0, none⟩ (.slice Aw e.way.length cw)).setCell ⟨wd.heap.size, 1, none⟩ (.int .i64 st)) := ⟨hb2.os, hb2.tape, hb2.output, Nat.le_trans hb2.size hg1.size, fun k' hk' => (hg1.block k' (Nat.lt_of_lt_of_le hk' hb2.size) (by simp; omega)).trans (hb2.block k' hk')⟩
        have hq := hqd
        clear g0 g1 h0 h1 f0 f1 e0 e1 e2 s2 hb2 hrund houtd bd hrune houte be BZ BZ2 kz0 kz1 kzf0 kzf1 hg1 HRWD
        generalize ((w2.setCell ⟨wd.heap.size, 0, none⟩ (.slice Aw e.way.length cw)).setCell ⟨wd.heap.size, 1, none⟩ (.int .i64 st)) = wx at *
        have hlt1 : (n1 : Int) < l.length := by omega
        have hlt0 : (0 : Int) ≤ (n1 : Int) := by omega
        have kb0 := BX.cell 0
        have kb1 := BX.cell 1
        simp only [List.getElem?_cons_succ, List.getElem?_cons_zero] at kb0 kb1
        obtain ⟨y, hy⟩ : ∃ y, po[n1]? = some y := ⟨_, List.getElem?_eq_getElem (by omega)⟩
        obtain ⟨yv, ye⟩ := y
        have ko0 : wx.cell? ⟨w.heap.size, n1 * 2, none⟩ = some yv := (houtx.cellAt (n1 * 2) (by omega)).trans (flatMap_get (Nc 1) 2 (fun _ => rfl) po n1 0 _ hy (by omega))
        have ko1 : wx.cell? ⟨w.heap.size, n1 * 2 + 1, none⟩ = some (.int .i64 ye.p) := (houtx.cellAt (n1 * 2 + 1) (by omega)).trans (flatMap_get (Nc 1) 2 (fun _ => rfl) po n1 1 _ hy (by omega))
        have hyv : ∃ Ay cy, yv = .slice Ay ye.way.length cy := by obtain ⟨A', c', h5, _⟩ := HWO.out _ (List.mem_of_getElem? hy); exact ⟨A', c', h5⟩
        obtain ⟨Ay, cy, rfl⟩ := hyv
        have kf0 := houtx.frozenAt (n1 * 2)
        have kf1 := houtx.frozenAt (n1 * 2 + 1)
        have hs0 := houtx.stored (n1 * 2) (.slice Aw e.way.length cw)
        have hs1 := hs0.1.stored (n1 * 2 + 1) (.int .i64 st)
        have hfin := store1 hy (.slice Aw e.way.length cw) ⟨e.way, st, 0⟩
        have BY := (BX.other (show w.heap.size ≠ wd.heap.size by omega) (n1 * 2) (.slice Aw e.way.length cw)).other (show w.heap.size ≠ wd.heap.size by omega) (n1 * 2 + 1) (.int .i64 st)
        have ky0 := BY.cell 0
        have ky1 := BY.cell 1
        simp only [List.getElem?_cons_succ, List.getElem?_cons_zero] at ky0 ky1
        have hruny := (hrunx.kept hs0.2 (.inr hne)).kept hs1.2 (.inr hne)
        have R2 := hide (hruny.alloc (.cells #[.slice Aw e.way.length cw, .int .i64 st] 34))
        have O2 := hide (hs1.1.alloc (.cells #[.slice Aw e.way.length cw, .int .i64 st] 34))
        have HNE := hide (show (Value.slice (some ⟨w.heap.size, 0, none⟩) l.length l.length).ownBlock = none ∨ (Value.slice (some ⟨w.heap.size, 0, none⟩) l.length l.length).ownBlock ≠ (Value.slice Ar k cr).ownBlock from .inr fun h => hne h.symm)
        have B1 : Below w.heap.size w ((wx.setCell ⟨w.heap.size, n1 * 2, none⟩ (.slice Aw e.way.length cw)).setCell ⟨w.heap.size, n1 * 2 + 1, none⟩ (.int .i64 st)) := ⟨bx.os, bx.tape, bx.output, Nat.le_trans bx.size (by simp), fun k' hk' => by rw [heap_setCell_other _ _ _ _ (by simp; omega), heap_setCell_other _ _ _ _ (by simp; omega)]; exact bx.block k' hk'⟩
        have B2 := hide (B1.alloc B1.size (.cells #[.slice Aw e.way.length cw, .int .i64 st] 34))
        have HY := hide hy
        have HFIN := hide hfin
        have HLBY := hide (show w.heap.size < ((wx.setCell ⟨w.heap.size, n1 * 2, none⟩ (.slice Aw e.way.length cw)).setCell ⟨w.heap.size, n1 * 2 + 1, none⟩ (.int .i64 st)).heap.size from (hs1.1.lt _ rfl).2)
        clear hs0 hs1 hruny hy hfin BY BX B1 hrunx houtx
        go_wp2_with (at_builtin; go_must (refine wp_app _ rfl _ _ 26 rfl w.heap.size 34 i1 (.agg #[.slice none 0 0, .int .i64 0]) 2 32 Try.underlying26 hi1 hz1 hs1' hb1 rfl (by decide) _ _ _ rfl R2.out _ _ 1 1 [.slice Aw e.way.length cw, .int .i64 st] rfl rfl (rd_new _ _ _ _ (by simp)) (by intro u hu; simp at hu; rcases hu with rfl | rfl <;> rfl) (by omega) (by decide) B2.out.size ?_); intro v' w4 hown' hgrow hat)
        have hb4 := app_below B2.out R2.out hgrow (Nat.le_refl _) B2.out.size
        have out4 := O2.out.kept hgrow HNE.out
        have hne4 : v'.ownBlock ≠ some w.heap.size := by
          rcases hat with h | h
          · rw [h]; exact hne
          · have := HLBY.out; rw [h]; simp at this ⊢; omega
        go_roundg (order.length - (k + 1))
        case measure => have := hg.out; omega
        case rel => exact ⟨k + 1, done ++ [⟨e.way, st, 0⟩], ps ++ [(.slice Aw e.way.length cw, ⟨e.way, st, 0⟩)], po.set n1 (.slice Aw e.way.length cw, ⟨e.way, st, 0⟩), by omega, rfl, by go_num, by unfold Hid; rw [List.map_set]; exact HQ, HD', by unfold Hid; rw [List.map_append, HP.out]; rfl, hide (fun p hp => by rcases List.mem_append.1 hp with hp | hp; exact HWA.out p hp; simp only [List.mem_singleton] at hp; subst hp; exact hwa.out), hide (fun p hp => by rcases List.mem_or_eq_of_mem_set hp with hp | hp; exact HWO.out p hp; subst hp; exact hwa.out), by rw [List.flatMap_append]; exact hown', hne4, by rw [List.length_set]; exact hol2, by rw [← HFIN.out]; exact out4, hb4⟩
    · have HF := hide (HS.out.trans (by rw [List.drop_eq_nil_of_le (by omega), planRGo] : _ = po.map (·.2)))
      go_wp2_with fail
      go_ret
      exact ⟨_, _, rfl, po, HF.out.symm, hout, fun a b hp => HWO.out (a, b) hp, hb⟩
end Go.Proofs.Ytfhociekhffjhaa
