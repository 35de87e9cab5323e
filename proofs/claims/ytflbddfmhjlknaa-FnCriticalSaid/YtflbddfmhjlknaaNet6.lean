/-
  Networks in the program: stations that are reached, the least length.
-/
import Derived.Test.YtflbddfmhjlknaaNet5
namespace Go.Proofs.Ytflbddfmhjlknaa
open Go.RowKit
set_option maxRecDepth 100000 in
set_option maxHeartbeats 4000000 in
theorem implReached_any (n : Nat) (tb : List T3) (s : Int) (A : Option Addr) (c : Nat) (w : World) (h : OkNet n tb) (hs : 0 ≤ s ∧ s < n) (hr : Rd3 w w.heap.size A tb) :
    Calls Try.prog 68 #[.agg #[.int .i64 n, .slice A tb.length c], .int .i64 s] w fun e w' => ∃ A' c', e = .returned (.tuple #[.slice A' (reachL n tb s).length c', .int .i64 0]) ∧ RdI w' w'.heap.size A' (reachL n tb s) ∧ Below w.heap.size w w' := by
  obtain ⟨i0, hi0, hz0, hs0, hb0⟩ := info_parts int64_info
  have hn10 := h.1.2
  obtain ⟨sn, rfl⟩ := Int.eq_ofNat_of_zero_le hs.1
  have hsn : sn < n := by omega
  have b0 : Below w.heap.size w ((w.alloc (.cells #[.int .i64 n, .slice A tb.length c] 87)).alloc (.cells #[.int .i64 (sn : Int)] 2)) := (by repeat (first | exact Below.refl _ _ | assumption | (refine Below.alloc ?_ (by simp <;> omega) _) | refine Below.drew ?_ | refine bdn ?_ _))
  have X0 := (BoxN.new w #[.int .i64 n, .slice A tb.length c] 87).alloc (.cells #[.int .i64 (sn : Int)] 2)
  have HV := hide (show Calls Try.prog 131 #[.agg #[.int .i64 n, .slice A tb.length c], .slice (some ⟨w.heap.size + 1, 0, none⟩) 1 1] ((w.alloc (.cells #[.int .i64 n, .slice A tb.length c] 87)).alloc (.cells #[.int .i64 (sn : Int)] 2)) _ from by
    have h1 := netCode_any n tb [(sn : Int)] A (some ⟨(w.alloc (.cells #[.int .i64 n, .slice A tb.length c] 87)).heap.size, 0, none⟩) c 1 _ h ((hr.below b0).more b0.size) (by intro z hz; simp at hz; subst hz; omega) (by simp) rdI1
    rw [show (w.alloc (.cells #[.int .i64 n, .slice A tb.length c] 87)).heap.size = w.heap.size + 1 by simp] at h1
    exact h1)
  have HD := hide fun (td : Nat) W (htd : td < n) (hW : Below w.heap.size w W) => distances_any n tb td (-1) A c W h (by omega) ((hr.below hW).more hW.size)
  have z0 := X0.lt
  have X1 := hide X0
  have B0 := hide b0
  clear hr h X0 hs b0
  go_enter Try.func68, Try.ntmps68
  go_upto_region 4 with (first | (have q0 := X1.out.cell 0; have q1 := X1.out.cell 1; go_at_call 131; (with_reducible refine (HV.out).mono ?_); rintro e w1 ⟨rfl, b1⟩))
  have X2 := hide (X1.out.only (lo := w.heap.size) (hi := w.heap.size) (only_of_below b1) (.inr (Nat.le_refl _)))
  have HB1 := hide (B0.out.trans (b1.mono B0.out.size))
  have hz1 := HB1.out.size
  have hz1' : w.heap.size + 1 ≤ w1.heap.size := Nat.le_trans z0 b1.size
  have ho1 := own_new0 w1 (w.heap.size + 1) 2 1 hz1'
  have HB2 := hide (HB1.out.alloc hz1 (.cells #[] 2))
  have X3 := hide (X2.out.alloc (.cells #[] 2))
  have k0 : (w1.alloc (.cells #[] 2)).cell? ⟨w.heap.size, 0, none⟩ = some (.int .i64 n) := X3.out.cell 0
  clear HV X1 X2 B0 HB1 b1
  go_upto_region 5 with fail
  generalize w1.alloc (.cells #[] 2) = wz at *
  generalize w1.heap.size = g1 at *
  go_wp2_with fail
  go_loopg [7, 19] n (fun g s' i wr => ∃ (k : Nat) (acc : List Int), k ≤ n ∧ Hid (g = n - k) ∧ i = .int .i64 k ∧ acc.length ≤ k ∧ Hid (wr.ownsRow (w.heap.size + 1) 2 1 s' acc.length (acc.map (Value.int .i64))) ∧ Hid (reachL n tb sn = acc ++ idxFrom (reachP n tb sn) ((List.range n).drop k) k) ∧ Hid (BoxN wr w.heap.size #[.int .i64 n, .slice A tb.length c] 87) ∧ Hid (Below w.heap.size w wr))
  case atStart => exact ⟨0, [], by omega, by simp [Hid], rfl, by simp, ho1, by simp [Hid, reachL], X3.out, HB2.out⟩
  case round =>
    obtain ⟨k, acc, hk, hg, rfl, hal, HOW, HS, HX, HB⟩ := hrel
    clear ho1 HB2 X3 k0
    by_cases hkn : k < n
    · have hkn' : (k : Int) < (n : Int) := by omega
      have x0 : wr.cell? ⟨w.heap.size, 0, none⟩ = some (.int .i64 n) := HX.out.cell 0
      have x1 : wr.cell? ⟨w.heap.size, 1, none⟩ = some (.slice A tb.length c) := HX.out.cell 1
      have HC := hide (HD.out k wr hkn HB.out)
      have hS := HS.out
      rw [drop_cons (range_get hkn)] at hS
      have hsl : (sn : Int) < (n : Int) := by omega
      have hs0' : (0 : Int) ≤ (sn : Int) := by omega
      have HLEN := hide (dist_len n tb k (-1))
      obtain ⟨z, hz⟩ : ∃ z, (dist n tb k (-1))[sn]? = some z := ⟨_, List.getElem?_eq_getElem (show sn < (dist n tb k (-1)).length by rw [dist_len]; exact hsn)⟩
      have hrp : reachP n tb sn k = decide (0 ≤ z) := by unfold reachP; rw [dAt_get hz]
      have HZ := hide hz
      have HXL := hide HX.out.lt
      clear HS hz
      by_cases hz0' : 0 ≤ z
      · have HS2 : Hid (reachL n tb sn = (acc ++ [(k : Int)]) ++ idxFrom (reachP n tb sn) ((List.range n).drop (k + 1)) (k + 1)) := by
          unfold Hid; rw [hS]; simp only [idxFrom, hrp, decide_eq_true hz0', if_true]; simp
        clear hS hrp
        go_wp2_with (first | (go_at_call 132; (with_reducible refine (HC.out).mono ?_); rintro e w2 ⟨g', rfl, hown, b2⟩; have cz : w2.cell? ⟨g', sn, none⟩ = some (.int .i64 z) := (by rw [hown.cellAt sn (by omega), List.getElem?_map, HZ.out]; rfl); have HX2 := hide (HX.out.only (lo := wr.heap.size) (hi := wr.heap.size) (only_of_below b2) (.inl HXL.out)); have HB2 := hide (HB.out.trans (b2.mono HB.out.size)); have hown2 := own_below HOW.out b2 (Nat.le_refl _); have hz2 := HB2.out.size; have hz2' : w.heap.size + 1 ≤ w2.heap.size := HX2.out.lt; clear hown) | (at_builtin; go_must (refine wp_app _ rfl _ _ 30 rfl (w.heap.size + 1) 2 i0 (.int .i64 0) 1 8 Try.underlying30 hi0 hz0 hs0 hb0 rfl (by decide) _ _ _ rfl (hown2.alloc _) _ _ 1 1 [.int .i64 (k : Int)] rfl rfl (rd_new _ _ _ _ (by first | rfl | simp)) (int_one _) (by omega) (by decide) (by first | omega | (simp <;> omega) | (simp; omega)) ?_); intro v4 w4 hown4 hgrow4 hat4))
        have hb4 := app_below (HB2.out.alloc HB2.out.size (.cells #[.int .i64 (k : Int)] 2)) (hown2.alloc (.cells #[.int .i64 (k : Int)] 2)) hgrow4 (Nat.le_succ _) (by simp <;> omega)
        have hx4 : BoxN w4 w.heap.size #[.int .i64 n, .slice A tb.length c] 87 := by
          have h := HX2.out.alloc (.cells #[.int .i64 (k : Int)] 2)
          exact (hgrow4.block _ h.lt (fun e => by have := (hown2.lt _ e.symm).1; omega)).trans h
        go_roundg (n - (k + 1))
        case measure => have := hg.out; omega
        case rel => exact ⟨k + 1, acc ++ [(k : Int)], by omega, rfl, by go_num, by simp; omega, by simpa [Hid] using hown4, HS2, hx4, hb4⟩
      · have HS2 : Hid (reachL n tb sn = acc ++ idxFrom (reachP n tb sn) ((List.range n).drop (k + 1)) (k + 1)) := by
          unfold Hid; rw [hS]; simp only [idxFrom, hrp, decide_eq_false hz0']; rfl
        have hzn : z < 0 := by omega
        clear hS hrp hz0'
        go_wp2_with (go_at_call 132; (with_reducible refine (HC.out).mono ?_); rintro e w2 ⟨g', rfl, hown, b2⟩; have cz : w2.cell? ⟨g', sn, none⟩ = some (.int .i64 z) := (by rw [hown.cellAt sn (by omega), List.getElem?_map, HZ.out]; rfl); have HX2 := hide (HX.out.only (lo := wr.heap.size) (hi := wr.heap.size) (only_of_below b2) (.inl HXL.out)); have HB2 := hide (HB.out.trans (b2.mono HB.out.size)); have hown2 := hide (own_below HOW.out b2 (Nat.le_refl _)); clear hown)
        go_roundg (n - (k + 1))
        case measure => have := hg.out; omega
        case rel => exact ⟨k + 1, acc, by omega, rfl, by go_num, by omega, hown2, HS2, HX2, HB2⟩
    · have hS := HS.out
      rw [List.drop_eq_nil_of_le (by simp; omega)] at hS
      simp only [idxFrom, List.append_nil] at hS
      have HS2 := hide hS
      have hown := HOW.out
      obtain ⟨A9, c9, hsh, _⟩ := own_shape hown
      subst hsh
      clear hS hown
      go_wp2_with fail
      go_ret2
      rw [HS2.out]
      exact ⟨A9, c9, rfl, Rd.of_own HOW.out, HB.out⟩
set_option maxRecDepth 100000 in
set_option maxHeartbeats 4000000 in
theorem implShortest_any (n : Nat) (tb : List T3) (s td : Int) (A : Option Addr) (c : Nat) (w : World) (h : OkNet n tb) (hs : 0 ≤ s ∧ s < n) (ht : 0 ≤ td ∧ td < n) (hr : Rd3 w w.heap.size A tb) :
    Calls Try.prog 72 #[.agg #[.int .i64 n, .slice A tb.length c], .int .i64 s, .int .i64 td] w fun e w' => e = .returned (.tuple #[.int .i64 (if 0 ≤ dAt (dist n tb td (-1)) s then dAt (dist n tb td (-1)) s else 0), .int .i64 (if 0 ≤ dAt (dist n tb td (-1)) s then 0 else 3)]) ∧ Below w.heap.size w w' := by
  obtain ⟨sn, rfl⟩ := Int.eq_ofNat_of_zero_le hs.1
  have hsn : sn < n := by omega
  have b0 : Below w.heap.size w ((w.alloc (.cells #[.int .i64 n, .slice A tb.length c] 87)).alloc (.cells #[.int .i64 (sn : Int), .int .i64 td] 2)) := (by repeat (first | exact Below.refl _ _ | assumption | (refine Below.alloc ?_ (by simp <;> omega) _) | refine Below.drew ?_ | refine bdn ?_ _))
  have X0 := (BoxN.new w #[.int .i64 n, .slice A tb.length c] 87).alloc (.cells #[.int .i64 (sn : Int), .int .i64 td] 2)
  have HV := hide (show Calls Try.prog 131 #[.agg #[.int .i64 n, .slice A tb.length c], .slice (some ⟨w.heap.size + 1, 0, none⟩) 2 2] ((w.alloc (.cells #[.int .i64 n, .slice A tb.length c] 87)).alloc (.cells #[.int .i64 (sn : Int), .int .i64 td] 2)) _ from by
    have h1 := netCode_any n tb [(sn : Int), td] A (some ⟨(w.alloc (.cells #[.int .i64 n, .slice A tb.length c] 87)).heap.size, 0, none⟩) c 2 _ h ((hr.below b0).more b0.size) (by intro z hz; simp at hz; rcases hz with rfl | rfl <;> omega) (by simp) rdI2
    rw [show (w.alloc (.cells #[.int .i64 n, .slice A tb.length c] 87)).heap.size = w.heap.size + 1 by simp] at h1
    exact h1)
  have HD := hide fun W (hW : Below w.heap.size w W) => distances_any n tb td (-1) A c W h ht ((hr.below hW).more hW.size)
  have X1 := hide X0
  have B0 := hide b0
  have hsl : (sn : Int) < (n : Int) := by omega
  have hs0' : (0 : Int) ≤ (sn : Int) := by omega
  obtain ⟨z, hz⟩ : ∃ z, (dist n tb td (-1))[sn]? = some z := ⟨_, List.getElem?_eq_getElem (show sn < (dist n tb td (-1)).length by rw [dist_len]; exact hsn)⟩
  have HZ := hide hz
  have HLEN := hide (dist_len n tb td (-1))
  rw [dAt_get hz]
  clear hr h X0 hs ht b0 hz
  by_cases hz0' : 0 ≤ z
  · rw [if_pos hz0', if_pos hz0']
    go_enter Try.func72, Try.ntmps72
    go_wp2_with (first | (go_at_call 131; (with_reducible refine (HV.out).mono ?_); rintro e w1 ⟨rfl, b1⟩; have X2 := X1.out.only (lo := w.heap.size) (hi := w.heap.size) (only_of_below b1) (.inr (Nat.le_refl _)); have q0 : w1.cell? ⟨w.heap.size, 0, none⟩ = some (.int .i64 n) := X2.cell 0; have q1 : w1.cell? ⟨w.heap.size, 1, none⟩ = some (.slice A tb.length c) := X2.cell 1; have HB1 := hide (B0.out.trans (b1.mono B0.out.size)); clear X2) | (go_at_call 132; (with_reducible refine (HD.out _ HB1.out).mono ?_); rintro e w2 ⟨g', rfl, hown, b2⟩; have cz : w2.cell? ⟨g', sn, none⟩ = some (.int .i64 z) := (by rw [hown.cellAt sn (by omega), List.getElem?_map, HZ.out]; rfl); clear hown))
    go_ret2
    exact ⟨rfl, HB1.out.trans (b2.mono HB1.out.size)⟩
  · rw [if_neg hz0', if_neg hz0']
    have hzn : z < 0 := by omega
    clear hz0'
    go_enter Try.func72, Try.ntmps72
    go_wp2_with (first | (go_at_call 131; (with_reducible refine (HV.out).mono ?_); rintro e w1 ⟨rfl, b1⟩; have X2 := X1.out.only (lo := w.heap.size) (hi := w.heap.size) (only_of_below b1) (.inr (Nat.le_refl _)); have q0 : w1.cell? ⟨w.heap.size, 0, none⟩ = some (.int .i64 n) := X2.cell 0; have q1 : w1.cell? ⟨w.heap.size, 1, none⟩ = some (.slice A tb.length c) := X2.cell 1; have HB1 := hide (B0.out.trans (b1.mono B0.out.size)); clear X2) | (go_at_call 132; (with_reducible refine (HD.out _ HB1.out).mono ?_); rintro e w2 ⟨g', rfl, hown, b2⟩; have cz : w2.cell? ⟨g', sn, none⟩ = some (.int .i64 z) := (by rw [hown.cellAt sn (by omega), List.getElem?_map, HZ.out]; rfl); clear hown))
    go_ret2
    exact ⟨rfl, HB1.out.trans (b2.mono HB1.out.size)⟩
end Go.Proofs.Ytflbddfmhjlknaa
