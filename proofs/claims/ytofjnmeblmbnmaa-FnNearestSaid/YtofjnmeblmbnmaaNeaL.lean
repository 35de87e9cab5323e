/-
  The worst ring, in the reference.
-/
import Derived.Test.YtofjnmeblmbnmaaNeaK
namespace Go.Proofs.Ytofjnmeblmbnmaa
open Go.RowKit
theorem map_take_snoc {ws : List ByteArray} {k : Nat} {s : ByteArray} (f : ByteArray → ByteArray) (h : ws[k]? = some s) : ((ws.take (k + 1)).map f).map Value.string = ((ws.take k).map f).map Value.string ++ [.string (f s)] := by
  rw [List.take_add_one, h]
  simp
set_option maxRecDepth 100000 in
set_option maxHeartbeats 8000000 in
theorem specWorst_any (n : Int) (ws : List ByteArray) (A : Option Addr) (c : Nat) (w : World) (hwl : ws.length ≤ 1048576) (hsz : ∀ s ∈ ws, s.size ≤ 1048576) (hr : RdS w w.heap.size A ws) :
    Calls Try.prog 19 #[.int .i64 n, .slice A ws.length c] w fun e w' => e = .returned (.tuple #[.int .i64 (worstR n ws).1, .int .i64 (worstR n ws).2]) ∧ Below w.heap.size w w' := by
  obtain ⟨i0, hi0, hz0, hs0, hb0⟩ := info_parts string_inf
  have HV := hide (l05Ok_any n ws A c w hwl hsz hr)
  cases h : addrs n ws
  · have HR := hide (worstR_no (pcode_1 h) (by decide))
    rw [h] at HV
    clear h hr hsz
    go_enter Try.func19, Try.ntmps19
    go_wp2_with (go_at_call 32; with_reducible refine (HV.out).mono ?_; rintro e w1 ⟨rfl, m0, rfl⟩)
    go_ret2
    exact ⟨by rw [HR.out]; rfl, bdn (Below.refl _ _) _⟩
  rw [h] at HV
  by_cases hl : ws.length < 2
  · have HR := hide (worstR_no (pcode_3 h hl) (by decide))
    have hB : decide ((ws.length : Int) < 2) = true := by simp; omega
    clear h hr hsz
    go_enter Try.func19, Try.ntmps19
    go_wp2_with (go_at_call 32; with_reducible refine (HV.out).mono ?_; rintro e w1 ⟨rfl, m0, rfl⟩)
    go_ret2
    exact ⟨by rw [HR.out]; rfl, bdn (Below.refl _ _) _⟩
  have hB : decide ((ws.length : Int) < 2) = false := by simp; omega
  have HR := hide (worstR_ok (pcode_0 h hl))
  obtain ⟨b, o, s0, rfl, _, hg0, hc0⟩ := RdS.at_ hr (j := 0) (by omega)
  have hbw : b < w.heap.size := by assumption
  have hz8 := txt0_size h
  have HZ := hide (addrs_size h)
  have ht0 := txt_get hg0
  rw [ht0] at HR hz8 HZ
  have HWL := hide fun (r : Nat) (hr : r < s0.size) => wrL_le (ws := ws) (z := s0.size) (by omega) hr (fun s hs => (HZ.out s hs).1) hz8
  have HLS := hide fun (r : Nat) (hrr : r < s0.size) (W : World) (A5 : Option Addr) (c5 : Nat) (hR : RdS W W.heap.size A5 (ws.map (cutB r))) => (show Calls Try.prog 37 #[.slice A5 ws.length c5] W fun e w' => e = .returned (.int .i64 (wrL ws r)) ∧ ∃ m, w' = W.drewN m from by
    have hx := l05Least_any (ws.map (cutB r)) (s0.size - 1) A5 c5 W (by rw [List.length_map]; omega) (by omega) (fun s hs => by
      obtain ⟨t, ht, rfl⟩ := List.mem_map.1 hs
      rw [cutB_size (by rw [(HZ.out t ht).1]; exact hrr), (HZ.out t ht).1]) hR
    rw [List.length_map, least_cut hrr fun s hs => (HZ.out s hs).1] at hx
    exact hx)
  have HRD := hide hr
  rw [Nat.add_zero] at hc0
  have HC0 := hide hc0
  have hjz : (0 : Int) < (ws.length : Int) := by omega
  have hjn : 0 < ws.length := by omega
  have HBW := hide fun (q : Nat) => (show Below w.heap.size w (w.drewN q) from bdn (Below.refl _ _) q)
  clear h hl hsz hr hg0 ht0 hc0
  go_enter Try.func19, Try.ntmps19
  go_wp2_with (go_at_call 32; with_reducible refine (HV.out).mono ?_; rintro e w1 ⟨rfl, m0, rfl⟩)
  go_loopg [8, 6, 7] s0.size (fun g i bv lv wr => ∃ (r bn : Nat) (x : Int), r ≤ s0.size ∧ Hid (g = s0.size - r) ∧ i = .int .i64 r ∧ bv = .int .i64 bn ∧ lv = .int .i64 x ∧ Hid ((r = 0 ∧ bn = 0 ∧ x = 9) ∨ (1 ≤ r ∧ bn < s0.size ∧ x = wrL ws bn)) ∧ Hid (worstN (wrL ws) 0 s0.size 0 = worstN (wrL ws) r (s0.size - r) bn) ∧ Hid (Below w.heap.size w wr))
  case atStart => exact ⟨0, 0, 9, by omega, by simp [Hid], rfl, rfl, rfl, hide (.inl ⟨rfl, rfl, rfl⟩), hide rfl, hide (HBW.out m0)⟩
  case round =>
    obtain ⟨r, bn, x, hrz, hg, rfl, rfl, rfl, HBN, HT, HB⟩ := hrel
    have k0 : wr.cell? ⟨b, o, none⟩ = some (.string s0) := (HB.out.cell (p := ⟨b, o, none⟩) hbw).trans HC0.out
    have zr := HB.out.size
    by_cases hlt : r < s0.size
    case neg =>
      have hd := HT.out
      rw [show s0.size - r = 0 by omega, worstN] at hd
      have HD := hide hd
      clear hd
      go_wp2_with fail
      go_ret2
      exact ⟨by rw [HR.out, HD.out]; rfl, HB.out⟩
    have hd := HT.out
    rw [show s0.size - r = (s0.size - (r + 1)) + 1 by omega] at hd
    have HDD := hide hd
    have hlti : (r : Int) < (s0.size : Int) := by omega
    have ho1 := own_new0 wr w.heap.size 9 1 zr
    have hB1 : Below w.heap.size w (wr.alloc (.cells #[] 9)) := HB.out.alloc zr _
    clear hd HT
    go_wp2_with fail
    clear k0
    obtain ⟨wo, hwo⟩ : ∃ wo : World, wo = wr := ⟨_, rfl⟩
    subst hwo
    go_loopg [10, 9] ws.length (fun g i sv wr => ∃ (k : Nat), k ≤ ws.length ∧ Hid (g = ws.length - k) ∧ i = .int .i64 k ∧ Hid (wr.ownsRow w.heap.size 9 1 sv k (((ws.take k).map (cutB r)).map Value.string)) ∧ Hid (Below w.heap.size w wr))
    case atStart => exact ⟨0, by omega, by simp [Hid], rfl, hide (by simpa using ho1), hide hB1⟩
    case round =>
      obtain ⟨k, hk, hgk, rfl, HO, HB2⟩ := hrel
      clear ho1 hB1
      have zr2 := HB2.out.size
      by_cases hkt : k < ws.length
      case neg =>
        obtain rfl : k = ws.length := by omega
        have ho := HO.out
        rw [List.take_length] at ho
        obtain ⟨A5, c5, rfl, _⟩ := own_shape ho
        have HL := hide (HLS.out r hlt wr A5 c5 (RdS.of_own ho))
        have hwl2 := HWL.out r hlt
        clear ho
        by_cases hle : wrL ws r < wrL ws bn ∨ r = 0
        · have HD := hide (show worstN (wrL ws) 0 s0.size 0 = worstN (wrL ws) (r + 1) (s0.size - (r + 1)) r by
            rw [HDD.out]
            rcases HBN.out with ⟨h1, h2, _⟩ | ⟨h1, h2, h3⟩
            · rw [h1, h2, worstN_no (by omega)]
            · rw [worstN_yes (by omega)])
          have hB2 : decide (wrL ws r < x) = true := decide_eq_true (by rcases HBN.out with ⟨h1, h2, h3⟩ | ⟨h1, h2, h3⟩ <;> omega)
          have HLE := hide hle
          clear hle
          go_wp2_with (go_at_call 37; with_reducible refine (HL.out).mono ?_; rintro e w2 ⟨rfl, q1, rfl⟩)
          go_roundg (s0.size - (r + 1))
          case measure => have := hg.out; omega
          case rel => exact ⟨r + 1, r, wrL ws r, by omega, rfl, by go_num, rfl, rfl, hide (.inr ⟨by omega, hlt, rfl⟩), HD, hide (bdn HB2.out _)⟩
        · have HD := hide (show worstN (wrL ws) 0 s0.size 0 = worstN (wrL ws) (r + 1) (s0.size - (r + 1)) bn by
            rw [HDD.out, worstN_no (by omega)])
          have hB2 : decide (wrL ws r < x) = false := decide_eq_false (by rcases HBN.out with ⟨h1, h2, h3⟩ | ⟨h1, h2, h3⟩ <;> omega)
          have HX := hide (show 1 ≤ r + 1 ∧ bn < s0.size ∧ x = wrL ws bn by rcases HBN.out with ⟨h1, h2, h3⟩ | ⟨h1, h2, h3⟩ <;> omega)
          have HLE := hide hle
          clear hle
          go_wp2_with (go_at_call 37; with_reducible refine (HL.out).mono ?_; rintro e w2 ⟨rfl, q1, rfl⟩)
          go_roundg (s0.size - (r + 1))
          case measure => have := hg.out; omega
          case rel => exact ⟨r + 1, bn, x, by omega, rfl, by go_num, rfl, rfl, hide (.inr HX.out), HD, hide (bdn HB2.out _)⟩
      obtain ⟨b', o', s, hA, _, hs, hcs⟩ := HRD.out.at_ hkt
      obtain ⟨rfl, rfl⟩ : b = b' ∧ o = o' := by cases hA; exact ⟨rfl, rfl⟩
      have hss := (HZ.out s (List.mem_of_getElem? hs)).1
      have HTK := hide (map_take_snoc (cutB r) hs)
      have ks : wr.cell? ⟨b, o + k, none⟩ = some (.string s) := (HB2.out.cell (p := ⟨b, o + k, none⟩) hbw).trans hcs
      have hr1 : (r : Int) ≤ (s.size : Int) := by omega
      have hr2 : (r : Int) + 1 ≤ (s.size : Int) := by omega
      have hr3 : r ≤ s.size := by omega
      have hr4 : r + 1 ≤ s.size := by omega
      have hr0 : (0 : Int) ≤ (r : Int) := by omega
      have hr5 : (0 : Int) ≤ (r : Int) + 1 := by omega
      have hcat : ¬ 9223372036854775807 < r + (s.size - (r + 1)) := by have := (HZ.out s (List.mem_of_getElem? hs)).2; omega
      have hwi : IntKind.i64.wrap ((r : Int) + 1) = (r : Int) + 1 := by rw [IntKind.wrap_i64] <;> omega
      have hki : (k : Int) < (ws.length : Int) := by omega
      have HSS := hide hss
      clear hs hcs hA hss
      go_wp2_with fail
      have hbd : Below w.heap.size w wr.drew := HB2.out.drew
      have hod : wr.drew.ownsRow w.heap.size 9 1 u9 k (((ws.take k).map (cutB r)).map Value.string) := HO.out
      have e0 : wr.drew.cell? ⟨b, o + k, none⟩ = some (.string s) := ks
      refine wp_region_held_drew (S := fun W => W.cell? ⟨b, o + k, none⟩ = some (.string s)) (by kernel_rfl) (e0) (fun hHeld => ?_)
      clear ks HO HB2
      generalize wr.drew = wd at *
      have hszd := hbd.size
      refine wpAnyH_take (i := 0) (v := ?_) rfl (by kernel_rfl) (by kernel_rfl) (by kernel_rfl) (fun _ _ _ h => h) (Or.inl ⟨by rfl, ?_⟩) (by assumption) ?_
      rotate_left 1
      · (intro w hSw; (try dsimp only at hSw); go_simp; try with_reducible rfl)
      try simp only [Act.put, List.getElem_toArray, List.getElem_cons_succ, List.getElem_cons_zero, List.setIfInBounds_toArray, List.set_cons_zero, List.set_cons_succ]
      refine wpAnyH_take (i := 1) (v := ?_) rfl (by kernel_rfl) (by kernel_rfl) (by kernel_rfl) (fun _ _ _ h => h) (Or.inl ⟨by rfl, ?_⟩) (by assumption) ?_
      rotate_left 1
      · (intro w hSw; (try dsimp only at hSw); go_simp; try with_reducible rfl)
      try simp only [Act.put, List.getElem_toArray, List.getElem_cons_succ, List.getElem_cons_zero, List.setIfInBounds_toArray, List.set_cons_zero, List.set_cons_succ]
      refine wpAnyH_take (i := 2) (v := ?_) rfl (by kernel_rfl) (by kernel_rfl) (by kernel_rfl) (fun _ _ _ h => h) (Or.inl ⟨by rfl, ?_⟩) (by assumption) ?_
      rotate_left 1
      · (intro w hSw; (try dsimp only at hSw); go_simp; try with_reducible rfl)
      try simp only [Act.put, List.getElem_toArray, List.getElem_cons_succ, List.getElem_cons_zero, List.setIfInBounds_toArray, List.set_cons_zero, List.set_cons_succ]
      refine wpAnyH_take (i := 3) (v := ?_) rfl (by kernel_rfl) (by kernel_rfl) (by kernel_rfl) (fun _ _ _ h => h) (Or.inl ⟨by rfl, ?_⟩) (by assumption) ?_
      rotate_left 1
      · (intro w hSw; (try dsimp only at hSw); go_simp; try with_reducible rfl)
      try simp only [Act.put, List.getElem_toArray, List.getElem_cons_succ, List.getElem_cons_zero, List.setIfInBounds_toArray, List.set_cons_zero, List.set_cons_succ]
      refine wpAnyH_take (i := 4) (v := ?_) rfl (by kernel_rfl) (by kernel_rfl) (by kernel_rfl) (fun _ _ _ h => h) (Or.inl ⟨by rfl, ?_⟩) (by assumption) ?_
      rotate_left 1
      · (intro w hSw; (try dsimp only at hSw); go_simp; try with_reducible rfl)
      try simp only [Act.put, List.getElem_toArray, List.getElem_cons_succ, List.getElem_cons_zero, List.setIfInBounds_toArray, List.set_cons_zero, List.set_cons_succ]
      refine wpAnyH_take (i := 5) (v := ?_) rfl (by kernel_rfl) (by kernel_rfl) (by kernel_rfl) (fun _ _ _ h => h) (Or.inl ⟨by rfl, ?_⟩) (by assumption) ?_
      rotate_left 1
      · (intro w hSw; (try dsimp only at hSw); go_simp; try with_reducible rfl)
      try simp only [Act.put, List.getElem_toArray, List.getElem_cons_succ, List.getElem_cons_zero, List.setIfInBounds_toArray, List.set_cons_zero, List.set_cons_succ]
      refine wpAnyH_take (i := 6) (v := ?_) rfl (by kernel_rfl) (by kernel_rfl) (by kernel_rfl) (fun _ _ _ h => h) (Or.inl ⟨by rfl, ?_⟩) (by assumption) ?_
      rotate_left 1
      · (intro w hSw; (try dsimp only at hSw); go_simp; try with_reducible rfl)
      try simp only [Act.put, List.getElem_toArray, List.getElem_cons_succ, List.getElem_cons_zero, List.setIfInBounds_toArray, List.set_cons_zero, List.set_cons_succ]
      refine wpAnyH_take (i := 7) (v := ?_) rfl (by kernel_rfl) (by kernel_rfl) (by kernel_rfl) (fun _ _ _ h => h) (Or.inl ⟨by rfl, ?_⟩) (by assumption) ?_
      rotate_left 1
      · (intro w hSw; (try dsimp only at hSw); go_simp; try with_reducible rfl)
      try simp only [Act.put, List.getElem_toArray, List.getElem_cons_succ, List.getElem_cons_zero, List.setIfInBounds_toArray, List.set_cons_zero, List.set_cons_succ]
      refine wpAnyH_take (i := 8) (v := ?_) rfl (by kernel_rfl) (by kernel_rfl) (by kernel_rfl) (fun _ _ _ h => h) (Or.inl ⟨by rfl, ?_⟩) (by assumption) ?_
      rotate_left 1
      · (intro w hSw; (try dsimp only at hSw); go_simp; try with_reducible rfl)
      try simp only [Act.put, List.getElem_toArray, List.getElem_cons_succ, List.getElem_cons_zero, List.setIfInBounds_toArray, List.set_cons_zero, List.set_cons_succ]
      refine wpAnyH_take (i := 9) (v := ?_) rfl (by kernel_rfl) (by kernel_rfl) (by kernel_rfl) (fun _ _ _ h => h) (Or.inl ⟨by rfl, ?_⟩) (by assumption) ?_
      rotate_left 1
      · (intro w hSw; (try dsimp only at hSw); go_simp; try with_reducible rfl)
      try simp only [Act.put, List.getElem_toArray, List.getElem_cons_succ, List.getElem_cons_zero, List.setIfInBounds_toArray, List.set_cons_zero, List.set_cons_succ]
      refine wpAnyH_take (i := 10) (v := ?_) rfl (by kernel_rfl) (by kernel_rfl) (by kernel_rfl) (fun _ _ _ h => h) (Or.inl ⟨by rfl, ?_⟩) (by assumption) ?_
      rotate_left 1
      · (intro w hSw; (try dsimp only at hSw); go_simp; try with_reducible rfl)
      try simp only [Act.put, List.getElem_toArray, List.getElem_cons_succ, List.getElem_cons_zero, List.setIfInBounds_toArray, List.set_cons_zero, List.set_cons_succ]
      refine wpAnyH_take (i := 11) (v := ?_) rfl (by kernel_rfl) (by kernel_rfl) (by kernel_rfl) (fun _ _ _ h => h) (Or.inl ⟨by rfl, ?_⟩) (by assumption) ?_
      rotate_left 1
      · (intro w hSw; (try dsimp only at hSw); go_simp; try with_reducible rfl)
      try simp only [Act.put, List.getElem_toArray, List.getElem_cons_succ, List.getElem_cons_zero, List.setIfInBounds_toArray, List.set_cons_zero, List.set_cons_succ]
      refine wpAnyH_take (i := 12) (v := ?_) rfl (by kernel_rfl) (by kernel_rfl) (by kernel_rfl) (fun _ _ _ h => h) (Or.inl ⟨by rfl, ?_⟩) (by assumption) ?_
      rotate_left 1
      · (intro w hSw; (try dsimp only at hSw); go_simp; try with_reducible rfl)
      try simp only [Act.put, List.getElem_toArray, List.getElem_cons_succ, List.getElem_cons_zero, List.setIfInBounds_toArray, List.set_cons_zero, List.set_cons_succ]
      refine wpAnyH_take (i := 13) (v := ?_) rfl (by kernel_rfl) (by kernel_rfl) (by kernel_rfl) (fun _ _ _ h => h) (Or.inl ⟨by rfl, ?_⟩) (by assumption) ?_
      rotate_left 1
      · (intro w hSw; (try dsimp only at hSw); go_simp; try with_reducible rfl)
      try simp only [Act.put, List.getElem_toArray, List.getElem_cons_succ, List.getElem_cons_zero, List.setIfInBounds_toArray, List.set_cons_zero, List.set_cons_succ]
      refine wpAnyH_take (i := 14) (v := ?_) rfl (by kernel_rfl) (by kernel_rfl) (by kernel_rfl) (fun _ _ _ h => h) (Or.inl ⟨by rfl, ?_⟩) (by assumption) ?_
      rotate_left 1
      · (intro w hSw; (try dsimp only at hSw); go_simp; try with_reducible rfl)
      try simp only [Act.put, List.getElem_toArray, List.getElem_cons_succ, List.getElem_cons_zero, List.setIfInBounds_toArray, List.set_cons_zero, List.set_cons_succ]
      refine wpAnyH_ready (rs := [15]) (by kernel_rfl) (by simp) ?_
      refine AllReadyH.cons rfl (fun K hK => ?_) AllReadyH.nil
      try simp only [Act.put, List.getElem_toArray, List.getElem_cons_succ, List.getElem_cons_zero, List.setIfInBounds_toArray, List.set_cons_zero, List.set_cons_succ]
      go_simp
      have f0 : (wd.alloc (.cells #[.string (cutB r s)] 9)).cell? ⟨b, o + k, none⟩ = some (.string s) := (World.cell?_alloc_old _ _ _ (by dsimp only; omega)).trans e0
      refine hK.out _ _ (f0) (fun hHeld => ?_)
      clear hK K
      try simp only [Act.put, List.getElem_toArray, List.getElem_cons_succ, List.getElem_cons_zero, List.setIfInBounds_toArray, List.set_cons_zero, List.set_cons_succ]
      have hba := hbd.alloc hszd (.cells #[.string (cutB r s)] 9)
      have hoa := hod.alloc (.cells #[.string (cutB r s)] 9)
      have hrd := rd_new wd [.string (cutB r s)] 9 _ rfl
      refine wpAnyH_ready (rs := [16]) (by kernel_rfl) (by simp) ?_
      refine AllReadyH.cons rfl (fun K hK => ?_) AllReadyH.nil
      try simp only [Act.put, List.getElem_toArray, List.getElem_cons_succ, List.getElem_cons_zero, List.setIfInBounds_toArray, List.set_cons_zero, List.set_cons_succ]
      rw [if_pos (by rfl)]
      refine op_app _ _ _ 24 rfl w.heap.size 9 i0 (.string ByteArray.empty) 1 16 Try.underlying24 hi0 hz0 hs0 hb0 rfl (by decide) _ _ _ rfl hoa _ _ 1 1 [.string (cutB r s)] rfl rfl hrd (str_one _) (by omega) (by decide) hba.size ?_
      intro v2 w2 hown2 hgrow hat
      have hb2 := app_below hba hoa hgrow (Nat.le_refl _) hba.size
      have g0 : w2.cell? ⟨b, o + k, none⟩ = some (.string s) := by
        rw [World.cell?_of_block (a := ⟨b, o + k, none⟩) (hgrow.block b (Nat.lt_of_lt_of_le hbw hba.size) fun e => by have := (hoa.lt b e.symm).1; omega)]; exact f0
      dsimp only
      refine hK.out _ _ (g0) (fun hHeld => ?_)
      clear hK K
      try simp only [Act.put, List.getElem_toArray, List.getElem_cons_succ, List.getElem_cons_zero, List.setIfInBounds_toArray, List.set_cons_zero, List.set_cons_succ]
      refine wpAnyH_take (i := 17) (v := ?_) rfl (by kernel_rfl) (by kernel_rfl) (by kernel_rfl) (fun _ _ _ h => h) (Or.inl ⟨by rfl, ?_⟩) (by assumption) ?_
      rotate_left 1
      · (intro w hSw; (try dsimp only at hSw); go_simp; try with_reducible rfl)
      try simp only [Act.put, List.getElem_toArray, List.getElem_cons_succ, List.getElem_cons_zero, List.setIfInBounds_toArray, List.set_cons_zero, List.set_cons_succ]
      refine wpAnyH_done (by kernel_rfl) ?_ _
      clear e0 f0 g0
      go_wp2_with fail
      go_roundg (ws.length - (k + 1))
      case measure => have := hgk.out; omega
      case rel => exact ⟨k + 1, by omega, rfl, by go_num, hide (by rw [HTK.out]; exact hown2), hide hb2⟩
end Go.Proofs.Ytofjnmeblmbnmaa
