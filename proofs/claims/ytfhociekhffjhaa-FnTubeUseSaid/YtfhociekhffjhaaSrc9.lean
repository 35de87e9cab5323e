/-
  The end of a drawn run, and rising lists.
-/
import Derived.Test.YtfhociekhffjhaaSrc8
import Derived.Test.YtfhociekhffjhaaRunK
import Derived.Test.YtfhociekhffjhaaRunV
import Derived.Test.YtfhociekhffjhaaLawH
import Derived.Test.YtfhociekhffjhaaRows
import Derived.ProofKit
namespace Go.Proofs.Ytfhociekhffjhaa
open Go.ChangeShapes Go.WideShapes Go.ChangeAt Go.RowKit

set_option maxRecDepth 100000 in
set_option maxHeartbeats 4000000 in
theorem specEndOfRun_any (ts way : List Int) (f : Int) (A0 : Option Addr) (c0 : Nat) (Aw : Option Addr) (cw : Nat) (w : World) (hts : OkTimes ts) (hw : OkWay ts way) (hf : 0 ≤ f) (hf' : f ≤ 100000) (h1 : RdI w w.heap.size A0 ts) (h2 : RdI w w.heap.size Aw way) :
    Calls Try.prog 69 #[.slice A0 ts.length c0, .agg #[.slice Aw way.length cw, .int .i64 f]] w fun e w' => e = .returned (.tuple #[.int .i64 (endGo ts f way), .int .i64 0]) ∧ Below w.heap.size w w' := by
  have b1 : Below w.heap.size w (w.alloc (.cells #[.slice Aw way.length cw, .int .i64 f] 34)) := (by repeat (first | exact Below.refl _ _ | assumption | (refine Below.alloc ?_ (by simp <;> omega) _) | refine Below.drew ?_ | refine bdn ?_ _))
  have b2 : Below w.heap.size w ((w.alloc (.cells #[.slice Aw way.length cw, .int .i64 f] 34)).alloc (.cells #[.slice Aw way.length cw, .int .i64 f] 34)) := (by repeat (first | exact Below.refl _ _ | assumption | (refine Below.alloc ?_ (by simp <;> omega) _) | refine Below.drew ?_ | refine bdn ?_ _))
  have z2 : w.heap.size + 2 ≤ ((w.alloc (.cells #[.slice Aw way.length cw, .int .i64 f] 34)).alloc (.cells #[.slice Aw way.length cw, .int .i64 f] 34)).heap.size := by simp
  have k0 : ((w.alloc (.cells #[.slice Aw way.length cw, .int .i64 f] 34)).alloc (.cells #[.slice Aw way.length cw, .int .i64 f] 34)).cell? ⟨w.heap.size, 0, none⟩ = some (.slice Aw way.length cw) := by simp [go_sem]
  have k1 : ((w.alloc (.cells #[.slice Aw way.length cw, .int .i64 f] 34)).alloc (.cells #[.slice Aw way.length cw, .int .i64 f] 34)).cell? ⟨w.heap.size, 0 + 1, none⟩ = some (.int .i64 f) := by simp [go_sem]
  have hrn : RN 1 ((w.alloc (.cells #[.slice Aw way.length cw, .int .i64 f] 34)).alloc (.cells #[.slice Aw way.length cw, .int .i64 f] 34)) ((w.alloc (.cells #[.slice Aw way.length cw, .int .i64 f] 34)).alloc (.cells #[.slice Aw way.length cw, .int .i64 f] 34)).heap.size (some ⟨w.heap.size + 1, 0, none⟩) [⟨way, f, 0⟩] :=
    ⟨[(.slice Aw way.length cw, ⟨way, f, 0⟩)], rfl, (rd_new (w.alloc (.cells #[.slice Aw way.length cw, .int .i64 f] 34)) [.slice Aw way.length cw, .int .i64 f] 34 (w.heap.size + 1) (by simp)).more (by simp), fun p hp => by
      rw [List.mem_singleton] at hp; subst hp
      exact ⟨Aw, cw, rfl, (h2.below b2).more b2.size⟩⟩
  have hv : vRuns ts [⟨way, f, 0⟩] = true := vRuns_iff.2 ⟨hts, by simp, fun e he => by rw [List.mem_singleton] at he; subst he; exact ⟨hw, hf, hf'⟩⟩
  have hsm : SmallN [(⟨way, f, 0⟩ : TN)] := by unfold SmallN; have := hw.1.2; simp; omega
  have HO := hide (l06Ok_any ts [⟨way, f, 0⟩] A0 c0 (some ⟨w.heap.size + 1, 0, none⟩) 1 _ (by have := hts.1.2; omega) hsm ((h1.below b2).more b2.size) hrn)
  rw [hv] at HO
  have HSP := hide (l06End_any ts way f A0 c0 Aw cw w.heap.size 0 _ hts hw hf (by omega) ((h1.below b2).more b2.size) ((h2.below b2).more b2.size) k0 k1)
  clear hv hsm hrn h1 h2 k1 hts hw
  have k1 : (w.alloc (.cells #[.slice Aw way.length cw, .int .i64 f] 34)).cell? ⟨w.heap.size, 0, none⟩ = some (.slice Aw way.length cw) := by simp [go_sem]
  go_enter Try.func69, Try.ntmps69
  go_wp2_with (first | (go_at_call 100; refine (HO.out).mono ?_; rintro e w' ⟨rfl, rfl⟩) | (go_at_call 156; refine (HSP.out).mono ?_; rintro e w3 ⟨rfl, b3⟩))
  go_ret2
  exact ⟨rfl, b2.trans (b3.mono b2.size)⟩
def Rises (xs : List Int) (n : Int) : Prop := (∀ z ∈ xs, 0 ≤ z ∧ z < n) ∧ ∀ k a b, xs[k]? = some a → xs[k + 1]? = some b → a < b
set_option maxRecDepth 100000 in
set_option maxHeartbeats 4000000 in
theorem a2Rises_any (xs : List Int) (n : Int) (A : Option Addr) (c : Nat) (w : World) (hx : xs.length ≤ 1048576) (hr : Rises xs n) (h1 : RdI w w.heap.size A xs) :
    Calls Try.prog 68 #[.slice A xs.length c, .int .i64 n] w fun e w' => e = .returned (.bool true) ∧ Below w.heap.size w w' := by
  have HX := hide h1
  have HR := hide hr
  clear h1 hr
  go_enter Try.func68, Try.ntmps68
  go_wp2_with fail
  go_loopg [5] xs.length (fun g i wr => ∃ k : Nat, k ≤ xs.length ∧ Hid (g = xs.length - k) ∧ i = .int .i64 k ∧ Below w.heap.size w wr)
  case atStart => exact ⟨0, by omega, by simp [Hid], rfl, Below.refl _ _⟩
  case round =>
    obtain ⟨k, hk, hg, rfl, hb0⟩ := hrel
    by_cases hlt : k < xs.length
    · obtain ⟨b, o, z, rfl, hb, hz, hc⟩ := (HX.out.below hb0).at_ hlt
      obtain ⟨hz0, hzn⟩ := HR.out.1 z (List.mem_of_getElem? hz)
      have hD1 : decide (z < 0) = false := decide_eq_false (by omega)
      have hD2 : decide (n ≤ z) = false := decide_eq_false (by omega)
      have hkl : (k : Int) < xs.length := by omega
      by_cases hk0 : k = 0
      · clear hz
        have hD0 : decide ((0 : Int) < (k : Int)) = false := decide_eq_false (by omega)
        have hD4 : decide (0 < k) = false := decide_eq_false (by omega)
        have hK := hide hk0
        clear hk0
        go_wp2_with fail
        go_quiet (fail)
        go_wp2_with fail
        go_roundg (xs.length - (k + 1))
        case measure => have := hg.out; omega
        case rel => exact ⟨k + 1, by omega, rfl, by go_num, bdn hb0 _⟩
      · obtain ⟨j, rfl⟩ : ∃ j, k = j + 1 := ⟨k - 1, by omega⟩
        obtain ⟨b', o', y, hA, _, hy, hc'⟩ := (HX.out.below hb0).at_ (k := j) (by omega)
        cases hA
        have hlt2 := HR.out.2 j y z hy hz
        have hD3 : decide (z ≤ y) = false := decide_eq_false (by omega)
        have hj0 : (0 : Int) ≤ (j : Int) := by omega
        clear hz hy
        have HWR := hide (show IntKind.i64.wrap (j : Int) = (j : Int) by rw [IntKind.wrap_i64] <;> omega)
        go_wp2_with fail
        have hwr := HWR.out
        go_quiet (fail)
        clear hwr
        go_wp2_with fail
        go_roundg (xs.length - (j + 1 + 1))
        case measure => have := hg.out; omega
        case rel => exact ⟨j + 1 + 1, by omega, rfl, by go_num, bdn hb0 _⟩
    · go_wp2_with fail
      go_ret
      exact ⟨rfl, hb0⟩
end Go.Proofs.Ytfhociekhffjhaa
