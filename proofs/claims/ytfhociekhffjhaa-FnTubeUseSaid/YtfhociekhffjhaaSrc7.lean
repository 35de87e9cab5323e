/-
  Helpers of the laws on runs: a number off bytes; the spans of a run by the reference.
-/
import Derived.Test.YtfhociekhffjhaaSrc6
import Derived.Test.YtfhociekhffjhaaRunF
namespace Go.Proofs.Ytfhociekhffjhaa
open Go.RowKit

set_option maxRecDepth 100000 in
set_option maxHeartbeats 4000000 in
theorem a2At_any (bs : List Int) (A : Option Addr) (c : Nat) (k : Nat) (n : Int) (w : World) (hbs : BsOk bs) (h1 : RdB w w.heap.size A bs) :
    Calls Try.prog 18 #[.slice A bs.length c, .int .i64 k, .int .i64 n] w fun e w' => ∃ z, e = .returned (.int .i64 z) ∧ (0 ≤ z ∧ (1 ≤ n → z < n)) ∧ w = w' := by
  by_cases hk : k < bs.length
  · by_cases hn : n < 1
    · have hkl : decide ((bs.length : Int) ≤ (k : Int)) = false := decide_eq_false (by omega)
      have hkn : decide (bs.length ≤ k) = false := decide_eq_false (by omega)
      clear h1
      go_enter Try.func18, Try.ntmps18
      go_wp2_with fail
      go_ret
      exact ⟨0, rfl, ⟨by omega, by omega⟩, rfl⟩
    · obtain ⟨b1, o1, z, rfl, _, hz, hc⟩ := h1.at_ hk
      obtain ⟨hz0, hz1⟩ := hbs.2 z (List.mem_of_getElem? hz)
      have hkl : decide ((bs.length : Int) ≤ (k : Int)) = false := decide_eq_false (by omega)
      have hkn : decide (bs.length ≤ k) = false := decide_eq_false (by omega)
      have hki : (k : Int) < bs.length := by omega
      have hk0 : (0 : Int) ≤ (k : Int) := by omega
      clear h1 hz
      go_enter Try.func18, Try.ntmps18
      go_wp2_with fail
      have hm0 := Int.emod_nonneg z (show n ≠ 0 by omega)
      have hm1 := Int.emod_lt_of_pos z (show 0 < n by omega)
      go_ret
      exact ⟨z % n, rfl, ⟨hm0, by first | exact hm1 | exact fun _ => hm1⟩, rfl⟩
  · have hkl : decide ((bs.length : Int) ≤ (k : Int)) = true := decide_eq_true (by omega)
    have hkn : decide (bs.length ≤ k) = true := decide_eq_true (by omega)
    clear h1
    go_enter Try.func18, Try.ntmps18
    go_wp2_with fail
    go_ret
    exact ⟨0, rfl, ⟨by omega, by omega⟩, rfl⟩
set_option maxRecDepth 100000 in
set_option maxHeartbeats 4000000 in
theorem specSpansOf_any (ts way : List Int) (f : Int) (A0 : Option Addr) (c0 : Nat) (Aw : Option Addr) (cw : Nat) (w : World) (hts : OkTimes ts) (hw : OkWay ts way) (hf : 0 ≤ f) (hf' : f ≤ 100000) (h1 : RdI w w.heap.size A0 ts) (h2 : RdI w w.heap.size Aw way) :
    Calls Try.prog 17 #[.slice A0 ts.length c0, .agg #[.slice Aw way.length cw, .int .i64 f]] w fun e w' => ∃ A' c', e = .returned (.tuple #[.slice A' way.length c', .int .i64 0]) ∧ RN 0 w' w'.heap.size A' ((spGo ts f way).map spTN) ∧ Below w.heap.size w w' := by
  have b1 : Below w.heap.size w (w.alloc (.cells #[.slice Aw way.length cw, .int .i64 f] 34)) := (by repeat (first | exact Below.refl _ _ | assumption | (refine Below.alloc ?_ (by simp <;> omega) _) | refine Below.drew ?_ | refine bdn ?_ _))
  have b2 : Below w.heap.size w ((w.alloc (.cells #[.slice Aw way.length cw, .int .i64 f] 34)).alloc (.cells #[.slice Aw way.length cw, .int .i64 f] 34)) := (by repeat (first | exact Below.refl _ _ | assumption | (refine Below.alloc ?_ (by simp <;> omega) _) | refine Below.drew ?_ | refine bdn ?_ _))
  have z2 : w.heap.size + 2 ≤ ((w.alloc (.cells #[.slice Aw way.length cw, .int .i64 f] 34)).alloc (.cells #[.slice Aw way.length cw, .int .i64 f] 34)).heap.size := by simp
  have k0 : ((w.alloc (.cells #[.slice Aw way.length cw, .int .i64 f] 34)).alloc (.cells #[.slice Aw way.length cw, .int .i64 f] 34)).cell? ⟨w.heap.size, 0, none⟩ = some (.slice Aw way.length cw) := by simp [go_sem]
  have k1 : ((w.alloc (.cells #[.slice Aw way.length cw, .int .i64 f] 34)).alloc (.cells #[.slice Aw way.length cw, .int .i64 f] 34)).cell? ⟨w.heap.size, 0 + 1, none⟩ = some (.int .i64 f) := by simp [go_sem]
  have hrn : RN 1 ((w.alloc (.cells #[.slice Aw way.length cw, .int .i64 f] 34)).alloc (.cells #[.slice Aw way.length cw, .int .i64 f] 34)) ((w.alloc (.cells #[.slice Aw way.length cw, .int .i64 f] 34)).alloc (.cells #[.slice Aw way.length cw, .int .i64 f] 34)).heap.size (some ⟨w.heap.size + 1, 0, none⟩) [⟨way, f, 0⟩] :=
    ⟨[(.slice Aw way.length cw, ⟨way, f, 0⟩)], rfl, (rd_new (w.alloc (.cells #[.slice Aw way.length cw, .int .i64 f] 34)) [.slice Aw way.length cw, .int .i64 f] 34 (w.heap.size + 1) (by simp)).more (by simp), fun p hp => by
      rw [List.mem_singleton] at hp; subst hp
      exact ⟨Aw, cw, rfl, (h2.below b2).more b2.size⟩⟩
  have hv : vRuns ts [⟨way, f, 0⟩] = true := vRuns_iff.2 ⟨hts, by simp, fun e he => by rw [List.mem_singleton] at he; subst he; exact ⟨hw, hf, hf'⟩⟩
  have hsm : SmallN [(⟨way, f, 0⟩ : TN)] := by unfold SmallN; have := hw.1.2; simp; omega
  have HO := hide (l06Ok_any ts [⟨way, f, 0⟩] A0 c0 (some ⟨w.heap.size + 1, 0, none⟩) 1 _ (by have := hts.1.2; omega) hsm ((h1.below b2).more b2.size) hrn)
  rw [hv] at HO
  have HSP := hide (l06Spans_any ts way f A0 c0 Aw cw w.heap.size 0 _ hts hw hf (by omega) ((h1.below b2).more b2.size) ((h2.below b2).more b2.size) k0 k1)
  clear hv hsm hrn h1 h2 k1 hts hw
  have k1 : (w.alloc (.cells #[.slice Aw way.length cw, .int .i64 f] 34)).cell? ⟨w.heap.size, 0, none⟩ = some (.slice Aw way.length cw) := by simp [go_sem]
  go_enter Try.func17, Try.ntmps17
  go_wp2_with (first | (go_at_call 100; refine (HO.out).mono ?_; rintro e w' ⟨rfl, rfl⟩) | (go_at_call 101; refine (HSP.out).mono ?_; rintro e w3 ⟨A3, c3, rfl, hr, b3⟩))
  go_ret2
  exact ⟨A3, c3, rfl, hr, b2.trans (b3.mono b2.size)⟩
end Go.Proofs.Ytfhociekhffjhaa
