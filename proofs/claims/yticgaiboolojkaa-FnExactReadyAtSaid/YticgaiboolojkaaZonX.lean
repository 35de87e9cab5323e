/-
  Zones and the tubes of a way: the codes, and how often a way comes into another zone; in the program and in the reference.
-/
import Derived.Test.YticgaiboolojkaaZon4
namespace Go.Proofs.Yticgaiboolojkaa
open Go.RowKit

def wayIn (x : TZ) (way : List Int) : Bool := way.all (inB 0 ((x.of.length : Int) - 1))
def codeW (x : TZ) (way : List Int) : Int := if vZoned x = true then (if wayIn x way = true ∧ way.length ≤ 24 then 0 else 2) else 1
def codeWT (x : TZ) (way : List Int) (tick : Int) : Int := if codeW x way = 0 then (if 0 ≤ tick ∧ tick ≤ 10000 then 0 else 2) else codeW x way
theorem codeW_ok {x : TZ} {way : List Int} (h : codeW x way = 0) : vZoned x = true ∧ way.length ≤ 24 ∧ ∀ z ∈ way, 0 ≤ z ∧ z ≤ (x.of.length : Int) - 1 := by
  unfold codeW at h
  split at h
  · split at h
    · rename_i h1 h2
      refine ⟨h1, h2.2, fun z hz => ?_⟩
      have := List.all_eq_true.1 h2.1 z hz
      exact inB_iff.1 this
    · omega
  · omega
set_option maxRecDepth 100000 in
set_option maxHeartbeats 4000000 in
theorem l09Way_any (x : TZ) (way : List Int) (A : Option Addr) (c : Nat) (A2 : Option Addr) (c2 : Nat) (A3 : Option Addr) (c3 : Nat) (b : Nat) (w : World) (hs : Small_Zoned x) (hwl : way.length ≤ 1048576) (c0 : w.cell? ⟨b, 0, none⟩ = some (.int .i64 x.z)) (c1 : w.cell? ⟨b, 1, none⟩ = some (.slice A x.of.length c)) (cc : w.cell? ⟨b, 2, none⟩ = some (.slice A2 x.ch.length c2))
    (h1 : RdI w w.heap.size A x.of) (h2 : Rd3 w w.heap.size A2 x.ch) (h3 : RdI w w.heap.size A3 way) :
    Calls Try.prog 75 #[.pointer (some ⟨b, 0, none⟩), .slice A3 way.length c3] w fun e w' => e = .returned (.int .i64 (codeW x way)) ∧ Below w.heap.size w w' := by
  have HV := hide (l09Ok_any x A c A2 c2 b w hs c0 c1 cc h1 h2)
  have hbl := World.block_lt_of_cell? w _ c0
  have C1 := hide c1
  have HX := hide h3
  clear h1 h2 h3 c0 c1 cc
  cases hv : vZoned x
  · rw [hv] at HV
    have HR := hide (show codeW x way = 1 by simp [codeW, hv])
    clear hv
    go_enter Try.func75, Try.ntmps75
    go_wp2_with (go_at_call 112; refine (HV.out).mono ?_; rintro e w1 ⟨rfl, hb1⟩)
    go_ret
    exact ⟨by rw [HR.out]; rfl, hb1⟩
  rw [hv] at HV
  have hof := (vZoned_iff hv).2.1
  have HW := hide (show codeW x way = if way.all (inB 0 ((x.of.length : Int) - 1)) = true ∧ way.length ≤ 24 then 0 else 2 by simp only [codeW, hv, if_true]; rfl)
  clear hv
  go_enter Try.func75, Try.ntmps75
  go_wp2_with (go_at_call 112; refine (HV.out).mono ?_; rintro e w1 ⟨rfl, hb1⟩)
  go_loopg [5] way.length (fun g i wr => ∃ k : Nat, k ≤ way.length ∧ Hid (g = way.length - k) ∧ i = .int .i64 k ∧ Hid (way.all (inB 0 ((x.of.length : Int) - 1)) = (way.drop k).all (inB 0 ((x.of.length : Int) - 1))) ∧ Below w.heap.size w wr)
  case atStart => exact ⟨0, by omega, by simp [Hid], rfl, by simp [Hid], hb1⟩
  case round =>
    obtain ⟨k, hk, hg, rfl, HS, hb⟩ := hrel
    clear hb1
    have k1 := (hb.cell (p := ⟨b, 1, none⟩) hbl).trans C1.out
    by_cases hlt : k < way.length
    · obtain ⟨b1, o1, z1, rfl, _, hz1, hca⟩ := (HX.out.below hb).at_ hlt
      have HS' := HS.out; rw [all_drop _ _ _ _ hz1] at HS'
      have HQ := hide HS'; clear HS' hz1
      have hwr : IntKind.i64.wrap ((x.of.length : Int) - 1) = (x.of.length : Int) - 1 := by rw [IntKind.wrap_i64] <;> omega
      by_cases hz : 0 ≤ z1 ∧ z1 ≤ (x.of.length : Int) - 1
      · have HB := hide (inB_t hz)
        obtain ⟨hz0, hz9⟩ := hz
        go_wp2_with fail
        go_quiet ((go_at_call 66; first | exact ql (l00In_t _ _ _ _ (by omega)) | exact ql (l00In_f _ _ _ _ (by omega)) | exact qla (l00In_t _ _ _ _ (by omega)) | exact qla (l00In_f _ _ _ _ (by omega))))
        go_wp2_with fail
        go_roundg (way.length - (k + 1))
        case measure => have := hg.out; omega
        case rel => exact ⟨k + 1, by omega, rfl, by go_num, hide (by have := HQ.out; rw [HB.out] at this; simpa using this), bdn hb _⟩
      · have hz' : z1 < 0 ∨ (x.of.length : Int) - 1 < z1 := by omega
        have HB := hide (inB_f hz')
        clear hz
        go_wp2_with fail
        go_quiet ((go_at_call 66; first | exact ql (l00In_t _ _ _ _ (by omega)) | exact ql (l00In_f _ _ _ _ (by omega)) | exact qla (l00In_t _ _ _ _ (by omega)) | exact qla (l00In_f _ _ _ _ (by omega))))
        go_wp2_with fail
        go_ret
        exact ⟨by rw [HW.out, HQ.out, HB.out]; rfl, bdn hb _⟩
    · have HA : Hid (way.all (inB 0 ((x.of.length : Int) - 1)) = true) := by
        have := HS.out; rw [List.drop_eq_nil_of_le (by omega)] at this; exact this
      by_cases h24 : way.length ≤ 24
      · have HQ := hide (show codeW x way = 0 by rw [HW.out]; exact if_pos ⟨HA.out, h24⟩)
        go_wp2_with fail
        go_ret
        exact ⟨by rw [HQ.out]; rfl, hb⟩
      · have HQ := hide (show codeW x way = 2 by rw [HW.out]; exact if_neg (fun h => h24 h.2))
        go_wp2_with fail
        go_ret
        exact ⟨by rw [HQ.out]; rfl, hb⟩
set_option maxRecDepth 100000 in
set_option maxHeartbeats 4000000 in
theorem zonedCode_any (x : TZ) (v : Value) (way : List Int) (A3 : Option Addr) (c3 : Nat) (tick : Int) (w : World) (hs : Small_Zoned x) (hf : Fit_Zoned x) (h : R_Zoned w w.heap.size v x) (hwl : way.length ≤ 1048576) (h3 : RdI w w.heap.size A3 way) :
    Calls Try.prog 79 #[v, .slice A3 way.length c3, .int .i64 tick] w fun e w' => e = .returned (.int .i64 (codeWT x way tick)) ∧ Below w.heap.size w w' := by
  have h0 := h
  obtain ⟨A, c, A2, c2, rfl, h1, h2⟩ := h0
  have b0 : Below w.heap.size w (w.alloc (.cells #[.int .i64 x.z, .slice A x.of.length c, .slice A2 x.ch.length c2] 50)) := (by repeat (first | exact Below.refl _ _ | assumption | (refine Below.alloc ?_ (by simp <;> omega) _) | refine Below.drew ?_ | refine bdn ?_ _))
  have HV := hide (P_ValidZoned x _ _ hs hf ((h.below b0).more b0.size))
  have X0 := hide (BoxAt.new w #[.int .i64 x.z, .slice A x.of.length c, .slice A2 x.ch.length c2] 50)
  have z0 : w.heap.size + 1 ≤ (w.alloc (.cells #[.int .i64 x.z, .slice A x.of.length c, .slice A2 x.ch.length c2] 50)).heap.size := by simp
  have HO := hide fun W (hW : Below w.heap.size w W) => outside_any way 0 ((x.of.length : Int) - 1) A3 c3 W (by omega) ((h3.below hW).more hW.size)
  rw [any_not_all] at HO
  clear h h1 h2 h3
  cases hv : vZoned x
  · rw [hv] at HV
    have HR := hide (show codeWT x way tick = 1 by simp [codeWT, codeW, hv])
    clear hv
    go_enter Try.func79, Try.ntmps79
    go_wp2_with (go_at_call 115; refine (HV.out).mono ?_; rintro e w1 ⟨rfl, hb1⟩)
    go_ret
    exact ⟨by rw [HR.out]; rfl, b0.trans (hb1.mono b0.size)⟩
  rw [hv] at HV
  have hof := (vZoned_iff hv).2.1
  have hwr : IntKind.i64.wrap ((x.of.length : Int) - 1) = (x.of.length : Int) - 1 := by rw [IntKind.wrap_i64] <;> omega
  by_cases h24 : way.length ≤ 24
  case neg =>
    have HR := hide (show codeWT x way tick = 2 by simp [codeWT, codeW, hv, h24])
    clear hv
    go_enter Try.func79, Try.ntmps79
    go_wp2_with (go_at_call 115; refine (HV.out).mono ?_; rintro e w1 ⟨rfl, hb1⟩)
    go_ret
    exact ⟨by rw [HR.out]; rfl, b0.trans (hb1.mono b0.size)⟩
  cases hw : way.all (inB 0 ((x.of.length : Int) - 1))
  · rw [hw] at HO
    have HR := hide (show codeWT x way tick = 2 by simp [codeWT, codeW, wayIn, hv, hw])
    clear hv hw
    go_enter Try.func79, Try.ntmps79
    go_wp2_with (first | (go_at_call 107; refine (HO.out _ hb2).mono ?_; rintro e w2 ⟨rfl, hb3⟩) | (go_at_call 115; refine (HV.out).mono ?_; rintro e w1 ⟨rfl, hb1⟩; have hb2 := b0.trans (hb1.mono b0.size); have kk := (X0.out.below hb1 z0).cell 1; simp only [List.getElem?_cons_succ, List.getElem?_cons_zero] at kk))
    go_ret
    exact ⟨by rw [HR.out]; rfl, hb2.trans (hb3.mono hb2.size)⟩
  rw [hw] at HO
  have HT := hide fun W => isTick_any tick W
  have hcw : codeW x way = 0 := by simp [codeW, wayIn, hv, hw, h24]
  by_cases g2 : 0 ≤ tick ∧ tick ≤ 10000
  · rw [inB_t g2] at HT
    have HR := hide (show codeWT x way tick = 0 by simp only [codeWT, hcw, if_true]; exact if_pos g2)
    clear hv hw g2 hcw
    go_enter Try.func79, Try.ntmps79
    go_wp2_with (first | (go_at_call 116; refine (HT.out _).mono ?_; rintro e w' ⟨rfl, rfl⟩) | (go_at_call 107; refine (HO.out _ hb2).mono ?_; rintro e w2 ⟨rfl, hb3⟩) | (go_at_call 115; refine (HV.out).mono ?_; rintro e w1 ⟨rfl, hb1⟩; have hb2 := b0.trans (hb1.mono b0.size); have kk := (X0.out.below hb1 z0).cell 1; simp only [List.getElem?_cons_succ, List.getElem?_cons_zero] at kk))
    go_ret
    exact ⟨by rw [HR.out]; rfl, hb2.trans (hb3.mono hb2.size)⟩
  · rw [show inB 0 10000 tick = false from inB_f (by omega)] at HT
    have HR := hide (show codeWT x way tick = 2 by simp only [codeWT, hcw, if_true]; exact if_neg g2)
    clear hv hw g2 hcw
    go_enter Try.func79, Try.ntmps79
    go_wp2_with (first | (go_at_call 116; refine (HT.out _).mono ?_; rintro e w' ⟨rfl, rfl⟩) | (go_at_call 107; refine (HO.out _ hb2).mono ?_; rintro e w2 ⟨rfl, hb3⟩) | (go_at_call 115; refine (HV.out).mono ?_; rintro e w1 ⟨rfl, hb1⟩; have hb2 := b0.trans (hb1.mono b0.size); have kk := (X0.out.below hb1 z0).cell 1; simp only [List.getElem?_cons_succ, List.getElem?_cons_zero] at kk))
    go_ret
    exact ⟨by rw [HR.out]; rfl, hb2.trans (hb3.mono hb2.size)⟩
/-- How often neighbours of a way lie in different zones. -/
def atD (of : List Int) (a : Int) : Int := (of[a.toNat]?).getD 0
def crossGo (of : List Int) : List Int → Int
  | [] => 0
  | a :: r => (match r with | [] => 0 | b :: _ => if atD of a = atD of b then 0 else 1) + crossGo of r
theorem crossGo_two (of : List Int) (a b : Int) (r : List Int) : crossGo of (a :: b :: r) = (if atD of a = atD of b then 0 else 1) + crossGo of (b :: r) := rfl
theorem crossGo_short (of : List Int) {xs : List Int} (h : xs.length ≤ 1) : crossGo of xs = 0 := by
  match xs, h with
  | [], _ => rfl
  | [a], _ => rfl
def zonesCrossed (x : TZ) (way : List Int) : Int × Int := if codeW x way = 0 then (crossGo x.of way, 0) else (0, codeW x way)
end Go.Proofs.Yticgaiboolojkaa
