/-
  Zones: codes of the reference; the level by contract.
-/
import Derived.Test.YtckkmgbclefljaaZon3
namespace Go.Proofs.Ytckkmgbclefljaa
open Go.RowKit

set_option maxRecDepth 100000 in
set_option maxHeartbeats 4000000 in
theorem l09Code_any (x : TZ) (A : Option Addr) (c : Nat) (A2 : Option Addr) (c2 : Nat) (b : Nat) (zone tick : Int) (w : World) (hs : Small_Zoned x) (c0 : w.cell? ⟨b, 0, none⟩ = some (.int .i64 x.z)) (c1 : w.cell? ⟨b, 1, none⟩ = some (.slice A x.of.length c)) (c3 : w.cell? ⟨b, 2, none⟩ = some (.slice A2 x.ch.length c2))
    (h1 : RdI w w.heap.size A x.of) (h2 : Rd3 w w.heap.size A2 x.ch) :
    Calls Try.prog 68 #[.pointer (some ⟨b, 0, none⟩), .int .i64 zone, .int .i64 tick] w fun e w' => e = .returned (.int .i64 (codeZ x zone tick)) ∧ Below w.heap.size w w' := by
  have HV := hide (l09Ok_any x A c A2 c2 b w hs c0 c1 c3 h1 h2)
  have hbl := World.block_lt_of_cell? w _ c0
  have C0 := hide c0
  clear h1 h2 c0 c1 c3
  cases hv : vZoned x
  · rw [hv] at HV
    have HR := hide (show codeZ x zone tick = 1 by simp [codeZ, hv])
    clear hv
    go_enter Try.func68, Try.ntmps68
    go_wp2_with (go_at_call 63; refine (HV.out).mono ?_; rintro e w1 ⟨rfl, hb1⟩)
    go_ret
    exact ⟨by rw [HR.out]; rfl, hb1⟩
  rw [hv] at HV
  have hz := (vZoned_iff hv).1
  obtain ⟨hz1, hz2⟩ := hz
  by_cases g1 : 0 ≤ zone ∧ zone ≤ x.z - 1
  case neg =>
    have g1' : zone < 0 ∨ x.z - 1 < zone := by omega
    have HR := hide (show codeZ x zone tick = 2 by simp only [codeZ, hv, if_true]; exact if_neg (by omega))
    clear hv g1
    go_enter Try.func68, Try.ntmps68
    go_wp2_with (first | (go_at_call 75; first | (refine (l00In_t _ _ _ _ (by omega)).mono ?_; rintro e w' ⟨rfl, rfl⟩) | (refine (l00In_f _ _ _ _ (by omega)).mono ?_; rintro e w' ⟨rfl, rfl⟩)) | (go_at_call 63; refine (HV.out).mono ?_; rintro e w1 ⟨rfl, hb1⟩; have kk := (hb1.cell (p := ⟨b, 0, none⟩) hbl).trans C0.out))
    go_ret
    exact ⟨by rw [HR.out]; rfl, hb1⟩
  by_cases g2 : 0 ≤ tick ∧ tick ≤ 10000
  case neg =>
    have HT := hide fun W => l09Tick_any tick W
    rw [show inB 0 10000 tick = false from inB_f (by omega)] at HT
    have HR := hide (show codeZ x zone tick = 2 by simp only [codeZ, hv, if_true]; exact if_neg (by omega))
    obtain ⟨g1a, g1b⟩ := g1
    clear hv g2
    go_enter Try.func68, Try.ntmps68
    go_wp2_with (first | (go_at_call 75; first | (refine (l00In_t _ _ _ _ (by omega)).mono ?_; rintro e w' ⟨rfl, rfl⟩) | (refine (l00In_f _ _ _ _ (by omega)).mono ?_; rintro e w' ⟨rfl, rfl⟩)) | (go_at_call 87; refine (HT.out _).mono ?_; rintro e w' ⟨rfl, rfl⟩) | (go_at_call 63; refine (HV.out).mono ?_; rintro e w1 ⟨rfl, hb1⟩; have kk := (hb1.cell (p := ⟨b, 0, none⟩) hbl).trans C0.out))
    go_ret
    exact ⟨by rw [HR.out]; rfl, hb1⟩
  have HT := hide fun W => l09Tick_any tick W
  rw [show inB 0 10000 tick = true from inB_t g2] at HT
  have HR := hide (show codeZ x zone tick = 0 by simp only [codeZ, hv, if_true]; exact if_pos ⟨g1, g2⟩)
  obtain ⟨g1a, g1b⟩ := g1
  clear hv g2
  go_enter Try.func68, Try.ntmps68
  go_wp2_with (first | (go_at_call 75; first | (refine (l00In_t _ _ _ _ (by omega)).mono ?_; rintro e w' ⟨rfl, rfl⟩) | (refine (l00In_f _ _ _ _ (by omega)).mono ?_; rintro e w' ⟨rfl, rfl⟩)) | (go_at_call 87; refine (HT.out _).mono ?_; rintro e w' ⟨rfl, rfl⟩) | (go_at_call 63; refine (HV.out).mono ?_; rintro e w1 ⟨rfl, hb1⟩; have kk := (hb1.cell (p := ⟨b, 0, none⟩) hbl).trans C0.out))
  go_ret
  exact ⟨by rw [HR.out]; rfl, hb1⟩
theorem codeZ_ok {x : TZ} {zone tick : Int} (h : codeZ x zone tick = 0) : vZoned x = true ∧ (0 ≤ zone ∧ zone ≤ x.z - 1) ∧ (0 ≤ tick ∧ tick ≤ 10000) := by
  unfold codeZ at h
  split at h
  · split at h
    · rename_i h1 h2; exact ⟨h1, h2⟩
    · omega
  · omega
def levelAt (x : TZ) (zone tick : Int) : Int × Int := if codeZ x zone tick = 0 then (lvl x.ch zone tick, 0) else (0, codeZ x zone tick)
set_option maxRecDepth 100000 in
set_option maxHeartbeats 4000000 in
theorem P_LevelAt (x : TZ) (v : Value) (zone tick : Int) (w : World) (hs : Small_Zoned x) (hf : Fit_Zoned x) (h : R_Zoned w w.heap.size v x) (_ : -9223372036854775808 ≤ zone) (_ : zone ≤ 9223372036854775807) (_ : -9223372036854775808 ≤ tick) (_ : tick ≤ 9223372036854775807) :
    Calls Try.prog 33 #[v, .int .i64 zone, .int .i64 tick] w fun e w' => e = .returned (.tuple #[.int .i64 (levelAt x zone tick).1, .int .i64 (levelAt x zone tick).2]) ∧ Below w.heap.size w w' := by
  have h0 := h
  obtain ⟨A, c, A2, c2, rfl, h1, h2⟩ := h0
  have b0 : Below w.heap.size w (w.alloc (.cells #[.int .i64 x.z, .slice A x.of.length c, .slice A2 x.ch.length c2] 36)) := (by repeat (first | exact Below.refl _ _ | assumption | (refine Below.alloc ?_ (by simp <;> omega) _) | refine Below.drew ?_ | refine bdn ?_ _))
  have HV := hide (zoneCode_any x _ zone tick _ hs hf ((h.below b0).more b0.size))
  have HL := hide fun W (hW : Below w.heap.size w W) => levelAt_any x (.agg #[.int .i64 x.z, .slice A x.of.length c, .slice A2 x.ch.length c2]) zone tick W hs ((h.below hW).more hW.size)
  have X0 := hide (BoxAt.new w #[.int .i64 x.z, .slice A x.of.length c, .slice A2 x.ch.length c2] 36)
  have z0 : w.heap.size + 1 ≤ (w.alloc (.cells #[.int .i64 x.z, .slice A x.of.length c, .slice A2 x.ch.length c2] 36)).heap.size := by simp
  clear h h1 h2
  by_cases hc : codeZ x zone tick = 0
  · have HR := hide (show levelAt x zone tick = (lvl x.ch zone tick, 0) by simp [levelAt, hc])
    rw [hc] at HV
    clear hc
    go_enter Try.func33, Try.ntmps33
    go_wp2_with (first | (go_at_call 70; refine (HV.out).mono ?_; rintro e w1 ⟨rfl, hb1⟩; have hb2 := b0.trans (hb1.mono b0.size); have X1 := X0.out.below hb1 z0; have k0 := X1.cell 0; have k1 := X1.cell 1; have k2 := X1.cell 2; simp only [List.getElem?_cons_succ, List.getElem?_cons_zero] at k0 k1 k2) | (go_at_call 71; refine (HL.out _ hb2).mono ?_; rintro e w2 ⟨rfl, hb3⟩))
    go_ret2
    exact ⟨by rw [HR.out]; rfl, hb2.trans (hb3.mono hb2.size)⟩
  · have HR := hide (show levelAt x zone tick = (0, codeZ x zone tick) by simp [levelAt, hc])
    have hne : (codeZ x zone tick != 0) = true := by simp [hc]
    generalize codeZ x zone tick = cd at *
    go_enter Try.func33, Try.ntmps33
    go_wp2_with (go_at_call 70; refine (HV.out).mono ?_; rintro e w1 ⟨rfl, hb1⟩)
    go_ret2
    exact ⟨by rw [HR.out]; rfl, b0.trans (hb1.mono b0.size)⟩
end Go.Proofs.Ytckkmgbclefljaa
