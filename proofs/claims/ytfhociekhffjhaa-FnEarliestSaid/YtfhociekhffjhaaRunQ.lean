/-
  The earliest start: the functions that check their arguments; in the program and in the reference.
-/
import Derived.Test.YtfhociekhffjhaaRunG
namespace Go.Proofs.Ytfhociekhffjhaa
open Go.RowKit

def earliest (ts : List Int) (x : List TN) (way : List Int) (f : Int) : Int × Int :=
  if vRuns ts x = true then (if okWayB ts way = true ∧ 0 ≤ f ∧ f ≤ 100000 then (if estOf ts (takenOf ts x) way f ≤ 100000 then (estOf ts (takenOf ts x) way f, 0) else (0, 5)) else (0, 2)) else (0, 1)
theorem plan_of_runs {ts : List Int} {x : List TN} (h : vRuns ts x = true) : OkPlan ts x := by
  obtain ⟨_, h2, h3⟩ := vRuns_iff.1 h
  exact ⟨h2, fun e he => ⟨(h3 e he).1, (h3 e he).2.1, by have := (h3 e he).2.2; omega⟩⟩
set_option maxRecDepth 100000 in
set_option maxHeartbeats 4000000 in
theorem P_EarliestStart (ts : List Int) (v : Value) (x : List TN) (u : Value) (way : List Int) (y : Value) (f : Int) (w : World) (h0 : ts.length ≤ 1048576) (_ : ∀ z ∈ ts, -9223372036854775808 ≤ z ∧ z ≤ 9223372036854775807) (h : R_Int64S w w.heap.size v ts) (hs : SmallN x) (_ : ∀ e ∈ x, e.Fits) (h2 : R_RunS w w.heap.size u x) (hwl : way.length ≤ 1048576) (_ : ∀ z ∈ way, -9223372036854775808 ≤ z ∧ z ≤ 9223372036854775807) (h3 : R_Int64S w w.heap.size y way) (_ : -9223372036854775808 ≤ f) (_ : f ≤ 9223372036854775807) :
    Calls Try.prog 19 #[v, u, y, .int .i64 f] w fun e w' => e = .returned (.tuple #[.int .i64 (earliest ts x way f).1, .int .i64 (earliest ts x way f).2]) ∧ Below w.heap.size w w' := by
  obtain ⟨A0, c0, rfl, h1⟩ := h
  obtain ⟨A, c, rfl, h2⟩ := h2
  obtain ⟨A3, c3, rfl, h3⟩ := h3
  have HV := hide (validRuns_any ts x A0 c0 A c w h0 hs h1 h2)
  have HW := hide fun W (hW : Below w.heap.size w W) => isRunWay_any ts way A0 c0 A3 c3 W h0 hwl ((h3.below hW).more hW.size)
  cases hv : vRuns ts x
  · rw [hv] at HV
    have HR := hide (show earliest ts x way f = (0, 1) by simp [earliest, hv])
    clear hv h1 h2 h3
    go_enter Try.func19, Try.ntmps19
    go_wp2_with (go_at_call 95; refine (HV.out).mono ?_; rintro e w1 ⟨rfl, hb1⟩)
    go_ret2
    exact ⟨by rw [HR.out]; rfl, hb1⟩
  rw [hv] at HV
  cases hk : okWayB ts way
  · rw [hk] at HW
    have HR := hide (show earliest ts x way f = (0, 2) by simp [earliest, hv, hk])
    clear hv hk h1 h2 h3
    go_enter Try.func19, Try.ntmps19
    go_wp2_with (first | (go_at_call 95; refine (HV.out).mono ?_; rintro e w1 ⟨rfl, hb1⟩) | (go_at_call 102; refine (HW.out _ hb1).mono ?_; rintro e w2 ⟨rfl, hb2⟩))
    go_ret2
    exact ⟨by rw [HR.out]; rfl, hb1.trans (hb2.mono hb1.size)⟩
  rw [hk] at HW
  by_cases g : 0 ≤ f ∧ f ≤ 100000
  case neg =>
    have HR := hide (show earliest ts x way f = (0, 2) by unfold earliest; rw [if_pos hv, if_neg fun h => g h.2])
    have g' : f < 0 ∨ 100000 < f := by omega
    clear hv hk g h1 h2 h3
    go_enter Try.func19, Try.ntmps19
    go_wp2_with (first | (go_at_call 95; refine (HV.out).mono ?_; rintro e w1 ⟨rfl, hb1⟩) | (go_at_call 102; refine (HW.out _ hb1).mono ?_; rintro e w2 ⟨rfl, hb2⟩) | (go_at_call 103; first | (refine (within_t _ _ _ _ (by omega)).mono ?_; rintro e w' ⟨rfl, rfl⟩) | (refine (within_f _ _ _ _ (by omega)).mono ?_; rintro e w' ⟨rfl, rfl⟩)))
    go_ret2
    exact ⟨by rw [HR.out]; rfl, hb1.trans (hb2.mono hb1.size)⟩
  obtain ⟨g1, g2⟩ := g
  have hts := (vRuns_iff.1 hv).1
  have HPL := hide (plan_of_runs hv)
  have HWK := hide (okWay_iff.1 hk)
  have HTS := hide hts
  have HE := hide fun W (hW : Below w.heap.size w W) => earliestStart_any ts way x f A0 c0 A c A3 c3 W HTS.out HPL.out HWK.out g1 (by omega) ((h1.below hW).more hW.size) ((h2.below hW).more hW.size) ((h3.below hW).more hW.size)
  have HR0 := hide (show earliest ts x way f = if estOf ts (takenOf ts x) way f ≤ 100000 then (estOf ts (takenOf ts x) way f, 0) else (0, 5) by unfold earliest; rw [if_pos hv, if_pos ⟨hk, g1, g2⟩])
  clear hv hk hts h1 h2 h3
  generalize estOf ts (takenOf ts x) way f = r at *
  by_cases hr : r ≤ 100000
  · have HR := hide (HR0.out.trans (if_pos hr))
    have hB : decide ((100000 : Int) < r) = false := decide_eq_false (by omega)
    go_enter Try.func19, Try.ntmps19
    go_wp2_with (first | (go_at_call 95; refine (HV.out).mono ?_; rintro e w1 ⟨rfl, hb1⟩) | (go_at_call 102; refine (HW.out _ hb1).mono ?_; rintro e w2 ⟨rfl, hb2'⟩; have hb2 := hb1.trans (hb2'.mono hb1.size)) | (go_at_call 103; first | (refine (within_t _ _ _ _ (by omega)).mono ?_; rintro e w' ⟨rfl, rfl⟩) | (refine (within_f _ _ _ _ (by omega)).mono ?_; rintro e w' ⟨rfl, rfl⟩)) | (go_at_call 104; refine (HE.out _ hb2).mono ?_; rintro e w3 ⟨rfl, hb3⟩))
    go_ret2
    exact ⟨by rw [HR.out]; rfl, hb2.trans (hb3.mono hb2.size)⟩
  · have HR := hide (HR0.out.trans (if_neg hr))
    have hB : decide ((100000 : Int) < r) = true := decide_eq_true (by omega)
    clear hr
    go_enter Try.func19, Try.ntmps19
    go_wp2_with (first | (go_at_call 95; refine (HV.out).mono ?_; rintro e w1 ⟨rfl, hb1⟩) | (go_at_call 102; refine (HW.out _ hb1).mono ?_; rintro e w2 ⟨rfl, hb2'⟩; have hb2 := hb1.trans (hb2'.mono hb1.size)) | (go_at_call 103; first | (refine (within_t _ _ _ _ (by omega)).mono ?_; rintro e w' ⟨rfl, rfl⟩) | (refine (within_f _ _ _ _ (by omega)).mono ?_; rintro e w' ⟨rfl, rfl⟩)) | (go_at_call 104; refine (HE.out _ hb2).mono ?_; rintro e w3 ⟨rfl, hb3⟩))
    go_ret2
    exact ⟨by rw [HR.out]; rfl, hb2.trans (hb3.mono hb2.size)⟩
end Go.Proofs.Ytfhociekhffjhaa
