/-
  Networks in the program: critical tubes.
-/
import Derived.Test.YtflbddfmhjlknaaNet5
namespace Go.Proofs.Ytflbddfmhjlknaa
open Go.RowKit
def critP (n : Nat) (tb : List T3) (i : Nat) : Bool := !strongB n tb i
def critL (n : Nat) (tb : List T3) : List Int := idxFrom (critP n tb) (List.range tb.length) 0
set_option maxRecDepth 100000 in
set_option maxHeartbeats 4000000 in
theorem implCritF_any (n : Nat) (tb : List T3) (A : Option Addr) (c : Nat) (w : World) (h : OkNet n tb) (hst : strongB n tb (-1) = false) (hr : Rd3 w w.heap.size A tb) :
    Calls Try.prog 73 #[.agg #[.int .i64 n, .slice A tb.length c]] w fun e w' => e = .returned (.tuple #[.slice none 0 0, .int .i64 6]) ∧ Below w.heap.size w w' := by
  have b0 : Below w.heap.size w (w.alloc (.cells #[.int .i64 n, .slice A tb.length c] 87)) := (by repeat (first | exact Below.refl _ _ | assumption | (refine Below.alloc ?_ (by simp <;> omega) _) | refine Below.drew ?_ | refine bdn ?_ _))
  have X0 := hide (BoxN.new w #[.int .i64 n, .slice A tb.length c] 87)
  have HV := hide (validNet_any n tb A c (w.alloc (.cells #[.int .i64 n, .slice A tb.length c] 87)) h ((hr.below b0).more b0.size))
  have HS := hide fun W (hW : Below w.heap.size w W) => isStrong_any n tb (-1) A c W h ((hr.below hW).more hW.size)
  rw [hst] at HS
  have B0 := hide b0
  have z0 := X0.out.lt
  have x0 : (w.alloc (.cells #[.int .i64 n, .slice A tb.length c] 87)).cell? ⟨w.heap.size, 0, none⟩ = some (.int .i64 n) := X0.out.cell 0
  have x1 : (w.alloc (.cells #[.int .i64 n, .slice A tb.length c] 87)).cell? ⟨w.heap.size, 1, none⟩ = some (.slice A tb.length c) := X0.out.cell 1
  clear hr h hst b0
  go_enter Try.func73, Try.ntmps73
  go_upto_region 1 with fail
  generalize (w.alloc (.cells #[.int .i64 n, .slice A tb.length c] 87)) = w0 at *
  go_wp2_with (first | (go_at_call 129; (with_reducible refine (HV.out).mono ?_); rintro e w1 ⟨rfl, b1⟩; have q0 := (b1.cell (p := ⟨w.heap.size, 0, none⟩) z0).trans x0; have q1 := (b1.cell (p := ⟨w.heap.size, 1, none⟩) z0).trans x1; have bw1 := B0.out.trans (b1.mono B0.out.size)) | (go_at_call 130; (with_reducible refine (HS.out _ bw1).mono ?_); rintro e w2 ⟨rfl, b2⟩))
  go_ret2
  exact ⟨rfl, bw1.trans (b2.mono bw1.size)⟩
set_option maxRecDepth 100000 in
set_option maxHeartbeats 4000000 in
theorem implCritT_any (n : Nat) (tb : List T3) (A : Option Addr) (c : Nat) (w : World) (h : OkNet n tb) (hst : strongB n tb (-1) = true) (hr : Rd3 w w.heap.size A tb) :
    Calls Try.prog 73 #[.agg #[.int .i64 n, .slice A tb.length c]] w fun e w' => ∃ A' c', e = .returned (.tuple #[.slice A' (critL n tb).length c', .int .i64 0]) ∧ RdI w' w'.heap.size A' (critL n tb) ∧ Below w.heap.size w w' := by
  obtain ⟨i0, hi0, hz0, hs0, hb0⟩ := info_parts int64_info
  have hl24 := h.2.1
  have b0 : Below w.heap.size w (w.alloc (.cells #[.int .i64 n, .slice A tb.length c] 87)) := (by repeat (first | exact Below.refl _ _ | assumption | (refine Below.alloc ?_ (by simp <;> omega) _) | refine Below.drew ?_ | refine bdn ?_ _))
  have X0 := hide (BoxN.new w #[.int .i64 n, .slice A tb.length c] 87)
  have HV := hide (validNet_any n tb A c (w.alloc (.cells #[.int .i64 n, .slice A tb.length c] 87)) h ((hr.below b0).more b0.size))
  have HS := hide fun W (hW : Below w.heap.size w W) => isStrong_any n tb (-1) A c W h ((hr.below hW).more hW.size)
  rw [hst] at HS
  have HSI := hide fun (i : Nat) W (hW : Below w.heap.size w W) => isStrong_any n tb i A c W h ((hr.below hW).more hW.size)
  have B0 := hide b0
  have z0 := X0.out.lt
  have x0 : (w.alloc (.cells #[.int .i64 n, .slice A tb.length c] 87)).cell? ⟨w.heap.size, 0, none⟩ = some (.int .i64 n) := X0.out.cell 0
  have x1 : (w.alloc (.cells #[.int .i64 n, .slice A tb.length c] 87)).cell? ⟨w.heap.size, 1, none⟩ = some (.slice A tb.length c) := X0.out.cell 1
  clear hr h hst b0
  go_enter Try.func73, Try.ntmps73
  go_upto_region 1 with fail
  generalize (w.alloc (.cells #[.int .i64 n, .slice A tb.length c] 87)) = w0 at *
  go_upto_region 5 with (first | (go_at_call 129; (with_reducible refine (HV.out).mono ?_); rintro e w1 ⟨rfl, b1⟩; have q0 := (b1.cell (p := ⟨w.heap.size, 0, none⟩) z0).trans x0; have q1 := (b1.cell (p := ⟨w.heap.size, 1, none⟩) z0).trans x1; have bw1 := B0.out.trans (b1.mono B0.out.size)) | (go_at_call 130; (with_reducible refine (HS.out _ bw1).mono ?_); rintro e w2 ⟨rfl, b2⟩))
  have X2 := hide ((X0.out.only (lo := w0.heap.size) (hi := w0.heap.size) (only_of_below b1) (.inl z0)).only (lo := w1.heap.size) (hi := w1.heap.size) (only_of_below b2) (.inl (Nat.lt_of_lt_of_le z0 b1.size)))
  have HB2 := hide (bw1.trans (b2.mono bw1.size))
  have hz2 : w.heap.size + 1 ≤ w2.heap.size := Nat.le_trans (Nat.le_trans z0 b1.size) b2.size
  have ho2 := own_new0 w2 (w.heap.size + 1) 2 1 hz2
  have HB3 := hide (HB2.out.alloc HB2.out.size (.cells #[] 2))
  have X3 := hide (X2.out.alloc (.cells #[] 2))
  have y1 : (w2.alloc (.cells #[] 2)).cell? ⟨w.heap.size, 1, none⟩ = some (.slice A tb.length c) := X3.out.cell 1
  clear HV HS X0 X2 B0 HB2 b1 b2 bw1 q0 q1 x0 x1
  go_upto_region 6 with fail
  generalize w2.alloc (.cells #[] 2) = wz at *
  generalize w2.heap.size = g1 at *
  go_wp2_with fail
  go_loopg [4, 18] tb.length (fun g s' i wr => ∃ (k : Nat) (acc : List Int), k ≤ tb.length ∧ Hid (g = tb.length - k) ∧ i = .int .i64 k ∧ acc.length ≤ k ∧ Hid (wr.ownsRow (w.heap.size + 1) 2 1 s' acc.length (acc.map (Value.int .i64))) ∧ Hid (critL n tb = acc ++ idxFrom (critP n tb) ((List.range tb.length).drop k) k) ∧ Hid (BoxN wr w.heap.size #[.int .i64 n, .slice A tb.length c] 87) ∧ Hid (Below w.heap.size w wr))
  case atStart => exact ⟨0, [], by omega, by simp [Hid], rfl, by simp, ho2, by simp [Hid, critL], X3.out, HB3.out⟩
  case round =>
    obtain ⟨k, acc, hk, hg, rfl, hal, HOW, HS, HX, HB⟩ := hrel
    clear ho2 HB3 X3 y1
    by_cases hkn : k < tb.length
    · have hkn' : (k : Int) < (tb.length : Int) := by omega
      have x0 : wr.cell? ⟨w.heap.size, 0, none⟩ = some (.int .i64 n) := HX.out.cell 0
      have x1 : wr.cell? ⟨w.heap.size, 1, none⟩ = some (.slice A tb.length c) := HX.out.cell 1
      have HC := hide (HSI.out k wr HB.out)
      have hS := HS.out
      rw [drop_cons (range_get hkn)] at hS
      have HXL := hide HX.out.lt
      clear HS
      cases hcr : strongB n tb k
      · rw [hcr] at HC
        have HS2 : Hid (critL n tb = (acc ++ [(k : Int)]) ++ idxFrom (critP n tb) ((List.range tb.length).drop (k + 1)) (k + 1)) := by
          unfold Hid; rw [hS]; simp only [idxFrom, critP, hcr]; simp
        have HCR := hide hcr
        clear hS hcr
        go_wp2_with (first | (go_at_call 130; (with_reducible refine (HC.out).mono ?_); rintro e w4 ⟨rfl, b4⟩; have HX4 := hide (HX.out.only (lo := wr.heap.size) (hi := wr.heap.size) (only_of_below b4) (.inl HXL.out)); have HB4 := hide (HB.out.trans (b4.mono HB.out.size)); have hown2 := own_below HOW.out b4 (Nat.le_refl _); have hz4 := HB4.out.size; have hz4' : w.heap.size + 1 ≤ w4.heap.size := HX4.out.lt) | (at_builtin; go_must (refine wp_app _ rfl _ _ 30 rfl (w.heap.size + 1) 2 i0 (.int .i64 0) 1 8 Try.underlying30 hi0 hz0 hs0 hb0 rfl (by decide) _ _ _ rfl (hown2.alloc _) _ _ 1 1 [.int .i64 (k : Int)] rfl rfl (rd_new _ _ _ _ (by first | rfl | simp)) (int_one _) (by omega) (by decide) (by first | omega | (simp <;> omega) | (simp; omega)) ?_); intro v4 w6 hown4 hgrow4 hat4))
        have hb6 := app_below (HB4.out.alloc HB4.out.size (.cells #[.int .i64 (k : Int)] 2)) (hown2.alloc (.cells #[.int .i64 (k : Int)] 2)) hgrow4 (Nat.le_succ _) (by simp <;> omega)
        have hx6 : BoxN w6 w.heap.size #[.int .i64 n, .slice A tb.length c] 87 := by
          have h := HX4.out.alloc (.cells #[.int .i64 (k : Int)] 2)
          exact (hgrow4.block _ h.lt (fun e => by have := (hown2.lt _ e.symm).1; omega)).trans h
        go_roundg (tb.length - (k + 1))
        case measure => have := hg.out; omega
        case rel => exact ⟨k + 1, acc ++ [(k : Int)], by omega, rfl, by go_num, by simp; omega, by simpa [Hid] using hown4, HS2, hx6, hb6⟩
      · rw [hcr] at HC
        have HS2 : Hid (critL n tb = acc ++ idxFrom (critP n tb) ((List.range tb.length).drop (k + 1)) (k + 1)) := by
          unfold Hid; rw [hS]; simp only [idxFrom, critP, hcr]; rfl
        have HCR := hide hcr
        clear hS hcr
        go_wp2_with (go_at_call 130; (with_reducible refine (HC.out).mono ?_); rintro e w4 ⟨rfl, b4⟩; have HX4 := hide (HX.out.only (lo := wr.heap.size) (hi := wr.heap.size) (only_of_below b4) (.inl HXL.out)); have HB4 := hide (HB.out.trans (b4.mono HB.out.size)); have hown2 := hide (own_below HOW.out b4 (Nat.le_refl _)))
        go_roundg (tb.length - (k + 1))
        case measure => have := hg.out; omega
        case rel => exact ⟨k + 1, acc, by omega, rfl, by go_num, by omega, hown2, HS2, HX4, HB4⟩
    · have hS := HS.out
      rw [List.drop_eq_nil_of_le (by simp; omega)] at hS
      simp only [idxFrom, List.append_nil] at hS
      have HS2 := hide hS
      have hown := HOW.out
      obtain ⟨A9, c9, hsh, _⟩ := own_shape hown
      subst hsh
      clear hS hown
      go_wp2_with fail
      go_ret2
      rw [HS2.out]
      exact ⟨A9, c9, rfl, Rd.of_own HOW.out, HB.out⟩
end Go.Proofs.Ytflbddfmhjlknaa
