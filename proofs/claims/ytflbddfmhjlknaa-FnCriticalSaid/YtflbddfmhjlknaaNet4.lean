/-
  Networks in the program: strong ones, stations that are reached, tubes from a station, the least length.
-/
import Derived.Test.YtflbddfmhjlknaaNet3
import Derived.Test.YtflbddfmhjlknaaRunO
namespace Go.Proofs.Ytflbddfmhjlknaa
open Go.RowKit

def noGap (n : Nat) (tb : List T3) (wo : Int) (k : Nat) : Bool := !hasI (dist n tb k wo) (-1)
def strongB (n : Nat) (tb : List T3) (wo : Int) : Bool := (List.range n).all (noGap n tb wo)
def reachP (n : Nat) (tb : List T3) (s : Int) (k : Nat) : Bool := decide (0 ≤ dAt (dist n tb k (-1)) s)
def reachL (n : Nat) (tb : List T3) (s : Int) : List Int := idxFrom (reachP n tb s) (List.range n) 0
def tubesL (tb : List T3) (s : Int) : List Int := idxFrom (fun t : T3 => t.a == s) tb 0
theorem range_get {n k : Nat} (h : k < n) : (List.range n)[k]? = some k := by rw [List.getElem?_range h]
set_option maxRecDepth 100000 in
set_option maxHeartbeats 4000000 in
theorem isStrong_any (n : Nat) (tb : List T3) (wo : Int) (A : Option Addr) (c : Nat) (w : World) (h : OkNet n tb) (hr : Rd3 w w.heap.size A tb) :
    Calls Try.prog 130 #[.agg #[.int .i64 n, .slice A tb.length c], .int .i64 wo] w fun e w' => e = .returned (.bool (strongB n tb wo)) ∧ Below w.heap.size w w' := by
  have hn10 := h.1.2
  have HD := hide fun (td : Nat) W (htd : td < n) (hW : Below w.heap.size w W) => distances_any n tb td wo A c W h (by omega) ((hr.below hW).more hW.size)
  have X0 := hide (BoxN.new w #[.int .i64 n, .slice A tb.length c] 87)
  have HB0 : Hid (Below w.heap.size w (w.alloc (.cells #[.int .i64 n, .slice A tb.length c] 87))) := (by repeat (first | exact Below.refl _ _ | assumption | (refine Below.alloc ?_ (by simp <;> omega) _) | refine Below.drew ?_ | refine bdn ?_ _))
  have k0 : (w.alloc (.cells #[.int .i64 n, .slice A tb.length c] 87)).cell? ⟨w.heap.size, 0, none⟩ = some (.int .i64 n) := X0.out.cell 0
  clear hr h
  go_enter Try.func130, Try.ntmps130
  go_upto_region 1 with fail
  generalize w.alloc (.cells #[.int .i64 n, .slice A tb.length c] 87) = w0 at *
  go_wp2_with fail
  go_loopg [8] n (fun g i wr => ∃ k : Nat, k ≤ n ∧ Hid (g = n - k) ∧ i = .int .i64 k ∧ Hid (strongB n tb wo = ((List.range n).drop k).all (noGap n tb wo)) ∧ Hid (BoxN wr w.heap.size #[.int .i64 n, .slice A tb.length c] 87) ∧ Hid (Below w.heap.size w wr))
  case atStart => exact ⟨0, by omega, by simp [Hid], rfl, by simp [Hid, strongB], X0.out, HB0.out⟩
  case round =>
    obtain ⟨k, hk, hg, rfl, HS, HX, HB⟩ := hrel
    clear X0 HB0 k0
    by_cases hkn : k < n
    · have hkn' : (k : Int) < (n : Int) := by omega
      have x0 : wr.cell? ⟨w.heap.size, 0, none⟩ = some (.int .i64 n) := HX.out.cell 0
      have x1 : wr.cell? ⟨w.heap.size, 1, none⟩ = some (.slice A tb.length c) := HX.out.cell 1
      have HC := hide (HD.out k wr hkn HB.out)
      have HS2 := HS.out
      rw [drop_cons (range_get hkn), List.all_cons] at HS2
      have HST := hide HS2
      have hxl := HX.out.lt
      clear HS2 HS
      cases hgap : hasI (dist n tb k wo) (-1)
      · have HS3 := hide (show strongB n tb wo = ((List.range n).drop (k + 1)).all (noGap n tb wo) by rw [HST.out]; simp [noGap, hgap])
        go_wp2_with (first | (go_at_call 132; (with_reducible refine (HC.out).mono ?_); rintro e w1 ⟨g', rfl, hown, b1⟩; have HQ := hide (containsI_any (dist n tb k wo) (-1) (some ⟨g', 0, none⟩) n w1 (by rw [dist_len]; omega) (by have h := Rd.of_own hown; exact h)); rw [dist_len, hgap] at HQ; have HB1 := hide (HB.out.trans (b1.mono HB.out.size)); have HX1 := hide (HX.out.only (lo := wr.heap.size) (hi := wr.heap.size) (only_of_below b1) (.inl hxl))) | (go_at_call 158; (with_reducible refine (HQ.out).mono ?_); rintro e w2 ⟨rfl, b2⟩; have HX2 := hide (HX1.out.only (lo := w1.heap.size) (hi := w1.heap.size) (only_of_below b2) (.inl HX1.out.lt))))
        have HB2 := hide (HB1.out.trans (b2.mono HB1.out.size))
        go_roundg (n - (k + 1))
        case measure => have := hg.out; omega
        case rel => exact ⟨k + 1, by omega, rfl, by go_num, HS3, HX2, HB2⟩
      · have HS3 := hide (show strongB n tb wo = false by rw [HST.out]; simp [noGap, hgap])
        go_wp2_with (first | (go_at_call 132; (with_reducible refine (HC.out).mono ?_); rintro e w1 ⟨g', rfl, hown, b1⟩; have HQ := hide (containsI_any (dist n tb k wo) (-1) (some ⟨g', 0, none⟩) n w1 (by rw [dist_len]; omega) (by have h := Rd.of_own hown; exact h)); rw [dist_len, hgap] at HQ; have HB1 := hide (HB.out.trans (b1.mono HB.out.size))) | (go_at_call 158; (with_reducible refine (HQ.out).mono ?_); rintro e w2 ⟨rfl, b2⟩))
        go_ret
        exact ⟨ret_b HS3.out.symm, HB1.out.trans (b2.mono HB1.out.size)⟩
    · have hkl : k = n := by omega
      have HS3 := hide (show strongB n tb wo = true by rw [HS.out, hkl, List.drop_eq_nil_of_le (by simp)]; rfl)
      go_wp2_with fail
      go_ret
      exact ⟨ret_b HS3.out.symm, HB.out⟩
set_option maxRecDepth 100000 in
set_option maxHeartbeats 4000000 in
theorem implIsStrong_any (n : Nat) (tb : List T3) (A : Option Addr) (c : Nat) (w : World) (h : OkNet n tb) (hr : Rd3 w w.heap.size A tb) :
    Calls Try.prog 67 #[.agg #[.int .i64 n, .slice A tb.length c]] w fun e w' => e = .returned (.tuple #[.bool (strongB n tb (-1)), .int .i64 0]) ∧ Below w.heap.size w w' := by
  have b0 : Below w.heap.size w (w.alloc (.cells #[.int .i64 n, .slice A tb.length c] 87)) := (by repeat (first | exact Below.refl _ _ | assumption | (refine Below.alloc ?_ (by simp <;> omega) _) | refine Below.drew ?_ | refine bdn ?_ _))
  have X0 := BoxN.new w #[.int .i64 n, .slice A tb.length c] 87
  have HV := hide (validNet_any n tb A c _ h ((hr.below b0).more b0.size))
  have HS := hide fun W (hW : Below w.heap.size w W) => isStrong_any n tb (-1) A c W h ((hr.below hW).more hW.size)
  have k0 : (w.alloc (.cells #[.int .i64 n, .slice A tb.length c] 87)).cell? ⟨w.heap.size, 0, none⟩ = some (.int .i64 n) := X0.cell 0
  have k1 : (w.alloc (.cells #[.int .i64 n, .slice A tb.length c] 87)).cell? ⟨w.heap.size, 1, none⟩ = some (.slice A tb.length c) := X0.cell 1
  have z0 := X0.lt
  clear hr h X0
  go_enter Try.func67, Try.ntmps67
  go_upto_region 1 with fail
  generalize w.alloc (.cells #[.int .i64 n, .slice A tb.length c] 87) = w0 at *
  go_wp2_with (first | (go_at_call 129; (with_reducible refine (HV.out).mono ?_); rintro e w1 ⟨rfl, b1⟩; have q0 := (b1.cell (p := ⟨w.heap.size, 0, none⟩) z0).trans k0; have q1 := (b1.cell (p := ⟨w.heap.size, 1, none⟩) z0).trans k1; have bw1 := b0.trans (b1.mono b0.size)) | (go_at_call 130; (with_reducible refine (HS.out _ bw1).mono ?_); rintro e w2 ⟨rfl, b2⟩))
  go_ret2
  exact ⟨rfl, bw1.trans (b2.mono bw1.size)⟩
end Go.Proofs.Ytflbddfmhjlknaa
