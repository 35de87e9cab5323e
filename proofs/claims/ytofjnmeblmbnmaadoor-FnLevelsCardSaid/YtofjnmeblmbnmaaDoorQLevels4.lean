/-
  Zones: the level of a zone at a tick; the codes; in the program and in the reference.
  Zones: codes of the reference; the level by contract.
  Zones: at how many ticks a level is great enough; in the program and in the reference.
-/
import Derived.Test.YtofjnmeblmbnmaaDoorQLevels3
namespace Go.Proofs.YtofjnmeblmbnmaaDoor
open Go.RowKit

/-- The level behind these changes, in the order of the row. -/
def lvlGo (zone tick : Int) : Int → List T3 → Int
  | acc, [] => acc
  | acc, c :: cs => lvlGo zone tick (if c.b = zone ∧ c.a ≤ tick then c.c else acc) cs
def lvl (cs : List T3) (zone tick : Int) : Int := lvlGo zone tick 0 cs
theorem lvlGo_late {zone tick : Int} : ∀ {cs : List T3} {acc : Int}, (∀ c ∈ cs, tick < c.a) → lvlGo zone tick acc cs = acc := by
  intro cs
  induction cs with
  | nil => intro acc _; rfl
  | cons c cs ih =>
    intro acc h
    have h1 := h c (List.mem_cons_self ..)
    rw [lvlGo, if_neg (by omega)]
    exact ih fun d hd => h d (List.mem_cons_of_mem _ hd)
theorem lvlGo_drop {zone tick acc : Int} {cs : List T3} {k : Nat} {c : T3} (h : cs[k]? = some c) : lvlGo zone tick acc (cs.drop k) = lvlGo zone tick (if c.b = zone ∧ c.a ≤ tick then c.c else acc) (cs.drop (k + 1)) := by rw [drop_cons h, lvlGo]
theorem ltC_iff {a b : T3} : ltC a b = true ↔ a.a < b.a ∨ (a.a = b.a ∧ a.b < b.b) := by simp [ltC]
theorem chOk_all {n : Int} : ∀ {cs : List T3} {a : T3}, chOk n (some a) cs = true → ∀ c ∈ cs, ltC a c = true := by
  intro cs
  induction cs with
  | nil => intro a _ c hc; cases hc
  | cons d ds ih =>
    intro a h c hc
    rw [chOk] at h
    simp only [okNext, Bool.and_eq_true] at h
    rcases List.mem_cons.1 hc with rfl | hc
    · exact h.2.1
    · have h1 := ltC_iff.1 h.2.1
      have h2 := ltC_iff.1 (ih h.2.2 c hc)
      rw [ltC_iff]; omega
theorem chOk_drop {n : Int} {cs : List T3} (h : chOk n none cs = true) : ∀ k, k ≤ cs.length → chOk n (prevOf cs k) (cs.drop k) = true := by
  intro k
  induction k with
  | zero => intro _; simpa [prevOf] using h
  | succ k ih =>
    intro hk
    have h1 := ih (by omega)
    obtain ⟨c, hc⟩ : ∃ c, cs[k]? = some c := ⟨_, List.getElem?_eq_getElem (by omega)⟩
    rw [chOk_step hc] at h1
    simp only [Bool.and_eq_true] at h1
    exact h1.2.2
theorem chOk_at {n : Int} {cs : List T3} (h : chOk n none cs = true) {k : Nat} {c : T3} (hc : cs[k]? = some c) : okC n c = true ∧ ∀ d ∈ cs.drop (k + 1), ltC c d = true := by
  have h1 := chOk_drop h k (by have := lt_of_get hc; omega)
  rw [chOk_step hc] at h1
  simp only [Bool.and_eq_true] at h1
  refine ⟨h1.1, ?_⟩
  have h2 := h1.2.2
  have : prevOf cs (k + 1) = some c := hc
  rw [this] at h2
  exact chOk_all h2
theorem vZoned_iff {x : TZ} (h : vZoned x = true) : (1 ≤ x.z ∧ x.z ≤ 8) ∧ x.of.length ≤ 24 ∧ x.ch.length ≤ 60 ∧ (∀ z ∈ x.of, 0 ≤ z ∧ z ≤ x.z - 1) ∧ chOk x.z none x.ch = true := by
  unfold vZoned at h
  simp only [Bool.and_eq_true, inB_iff, decide_eq_true_eq, List.all_eq_true] at h
  exact ⟨h.1, h.2.1, h.2.2.1, h.2.2.2.1, h.2.2.2.2⟩

set_option maxRecDepth 100000 in
set_option maxHeartbeats 4000000 in
theorem levelAt_any (x : TZ) (v : Value) (zone tick : Int) (w : World) (hs : Small_Zoned x) (h : R_Zoned w w.heap.size v x) :
    Calls Tryd.prog 74 #[v, .int .i64 zone, .int .i64 tick] w fun e w' => e = .returned (.int .i64 (lvl x.ch zone tick)) ∧ Below w.heap.size w w' := by
  obtain ⟨A, c, A2, c2, rfl, h1, h2⟩ := h
  obtain ⟨hs1, hs2⟩ := hs
  have HM := hide h2
  clear h1 h2
  have b0 : Below w.heap.size w (w.alloc (.cells #[.int .i64 x.z, .slice A x.of.length c, .slice A2 x.ch.length c2] 47)) := (by repeat (first | exact Below.refl _ _ | assumption | (refine Below.alloc ?_ (by simp <;> omega) _) | refine Below.drew ?_ | refine bdn ?_ _))
  go_enter Tryd.func74, Tryd.ntmps74
  go_wp2_with fail
  go_loopg [7, 13] x.ch.length (fun g l i wr => ∃ (k : Nat) (acc : Int), k ≤ x.ch.length ∧ Hid (g = x.ch.length - k) ∧ i = .int .i64 k ∧ l = .int .i64 acc ∧ Hid (lvl x.ch zone tick = lvlGo zone tick acc (x.ch.drop k)) ∧ Below w.heap.size w wr)
  case atStart => exact ⟨0, 0, by omega, by simp [Hid], rfl, rfl, by simp [Hid, lvl], b0⟩
  case round =>
    obtain ⟨k, acc, hk, hg, rfl, rfl, HS, hb⟩ := hrel
    have hsz := hb.size
    clear b0
    by_cases hlt : k < x.ch.length
    · obtain ⟨b1, o1, z1, rfl, hb1, hz1, hca, hcb, hcc⟩ := (HM.out.below hb).at_ hlt
      have HS' := HS.out; rw [lvlGo_drop hz1] at HS'
      clear hz1
      by_cases hzo : z1.b = zone
      · by_cases hti : z1.a ≤ tick
        · have HQ := hide (HS'.trans (by rw [if_pos ⟨hzo, hti⟩])); clear HS' HS
          go_wp2_with fail
          go_roundg (x.ch.length - (k + 1))
          case measure => have := hg.out; omega
          case rel => exact ⟨k + 1, z1.c, by omega, rfl, by go_num, rfl, HQ, hb.alloc hsz _⟩
        · have HQ := hide (HS'.trans (by rw [if_neg (fun h => hti h.2)])); clear HS' HS
          have htf : decide (z1.a ≤ tick) = false := decide_eq_false hti
          go_wp2_with fail
          go_roundg (x.ch.length - (k + 1))
          case measure => have := hg.out; omega
          case rel => exact ⟨k + 1, acc, by omega, rfl, by go_num, rfl, HQ, hb.alloc hsz _⟩
      · have HQ := hide (HS'.trans (by rw [if_neg (fun h => hzo h.1)])); clear HS' HS
        have hzf : decide (z1.b = zone) = false := decide_eq_false hzo
        go_wp2_with fail
        go_roundg (x.ch.length - (k + 1))
        case measure => have := hg.out; omega
        case rel => exact ⟨k + 1, acc, by omega, rfl, by go_num, rfl, HQ, hb.alloc hsz _⟩
    · have HQ := hide (HS.out.trans (by rw [List.drop_eq_nil_of_le (by omega), lvlGo]))
      go_wp2_with fail
      go_ret
      exact ⟨by rw [HQ.out]; rfl, hb⟩
set_option maxRecDepth 100000 in
set_option maxHeartbeats 4000000 in
theorem l09Level_any (x : TZ) (A2 : Option Addr) (c2 : Nat) (b : Nat) (zone tick : Int) (w : World) (hv : vZoned x = true) (k3 : w.cell? ⟨b, 2, none⟩ = some (.slice A2 x.ch.length c2)) (h2 : Rd3 w w.heap.size A2 x.ch) :
    Calls Tryd.prog 76 #[.pointer (some ⟨b, 0, none⟩), .int .i64 zone, .int .i64 tick] w fun e w' => e = .returned (.int .i64 (lvl x.ch zone tick)) ∧ w = w' := by
  obtain ⟨_, _, hs2, _, hch⟩ := vZoned_iff hv
  have HM := hide h2
  have HC := hide hch
  clear h2 hv hch
  go_enter Tryd.func76, Tryd.ntmps76
  go_wp2_with fail
  go_loopg [7, 8] x.ch.length (fun g l i wr => ∃ (k : Nat) (acc : Int), k ≤ x.ch.length ∧ Hid (g = x.ch.length - k) ∧ i = .int .i64 k ∧ l = .int .i64 acc ∧ Hid (lvl x.ch zone tick = lvlGo zone tick acc (x.ch.drop k)) ∧ w = wr)
  case atStart => exact ⟨0, 0, by omega, by simp [Hid], rfl, rfl, by simp [Hid, lvl], rfl⟩
  case round =>
    obtain ⟨k, acc, hk, hg, rfl, rfl, HS, rfl⟩ := hrel
    by_cases hlt : k < x.ch.length
    · obtain ⟨b1, o1, z1, rfl, hb1, hz1, hca, hcb, hcc⟩ := HM.out.at_ hlt
      have HS' := HS.out; rw [lvlGo_drop hz1] at HS'
      have HL := hide (chOk_at HC.out hz1).2
      clear hz1
      by_cases hti : z1.a ≤ tick
      · by_cases hzo : z1.b = zone
        · have HQ := hide (HS'.trans (by rw [if_pos ⟨hzo, hti⟩])); clear HS' HS
          go_wp2_with fail
          go_roundg (x.ch.length - (k + 1))
          case measure => have := hg.out; omega
          case rel => exact ⟨k + 1, z1.c, by omega, rfl, by go_num, rfl, HQ, rfl⟩
        · have HQ := hide (HS'.trans (by rw [if_neg (fun h => hzo h.1)])); clear HS' HS
          go_wp2_with fail
          go_roundg (x.ch.length - (k + 1))
          case measure => have := hg.out; omega
          case rel => exact ⟨k + 1, acc, by omega, rfl, by go_num, rfl, HQ, rfl⟩
      · have HQ := hide (HS'.trans (show lvlGo zone tick (if z1.b = zone ∧ z1.a ≤ tick then z1.c else acc) (x.ch.drop (k + 1)) = acc by rw [if_neg (fun h => hti h.2)]; exact lvlGo_late fun d hd => by have := ltC_iff.1 (HL.out d hd); omega)); clear HS' HS
        go_wp2_with fail
        go_ret
        exact ⟨by rw [HQ.out]; rfl, rfl⟩
    · have HQ := hide (HS.out.trans (by rw [List.drop_eq_nil_of_le (by omega), lvlGo]))
      go_wp2_with fail
      go_ret
      exact ⟨by rw [HQ.out]; rfl, rfl⟩

def codeZ (x : TZ) (zone tick : Int) : Int := if vZoned x = true then (if (0 ≤ zone ∧ zone ≤ x.z - 1) ∧ (0 ≤ tick ∧ tick ≤ 10000) then 0 else 2) else 1
set_option maxRecDepth 100000 in
theorem isTick_any (n : Int) (w : World) : Calls Tryd.prog 107 #[.int .i64 n] w fun e w' => e = .returned (.bool (inB 0 10000 n)) ∧ w = w' := by
  go_enter Tryd.func107, Tryd.ntmps107
  go_wp2_with (go_at_call 60; refine (within_any _ _ _ _).mono ?_; rintro e w' ⟨rfl, rfl⟩)
  go_ret
  exact ⟨rfl, rfl⟩
set_option maxRecDepth 100000 in
theorem l09Tick_any (n : Int) (w : World) : Calls Tryd.prog 108 #[.int .i64 n] w fun e w' => e = .returned (.bool (inB 0 10000 n)) ∧ w = w' := by
  go_enter Tryd.func108, Tryd.ntmps108
  go_wp2_with (go_at_call 64; refine (l00In_any _ _ _ _).mono ?_; rintro e w' ⟨rfl, rfl⟩)
  go_ret
  exact ⟨rfl, rfl⟩
set_option maxRecDepth 100000 in
set_option maxHeartbeats 4000000 in
theorem zoneCode_any (x : TZ) (v : Value) (zone tick : Int) (w : World) (hs : Small_Zoned x) (hf : Fit_Zoned x) (h : R_Zoned w w.heap.size v x) :
    Calls Tryd.prog 73 #[v, .int .i64 zone, .int .i64 tick] w fun e w' => e = .returned (.int .i64 (codeZ x zone tick)) ∧ Below w.heap.size w w' := by
  have h0 := h
  obtain ⟨A, c, A2, c2, rfl, h1, h2⟩ := h0
  have b0 : Below w.heap.size w (w.alloc (.cells #[.int .i64 x.z, .slice A x.of.length c, .slice A2 x.ch.length c2] 47)) := (by repeat (first | exact Below.refl _ _ | assumption | (refine Below.alloc ?_ (by simp <;> omega) _) | refine Below.drew ?_ | refine bdn ?_ _))
  have HV := hide (P_ValidZoned x _ _ hs hf ((h.below b0).more b0.size))
  have X0 := hide (BoxAt.new w #[.int .i64 x.z, .slice A x.of.length c, .slice A2 x.ch.length c2] 47)
  have z0 : w.heap.size + 1 ≤ (w.alloc (.cells #[.int .i64 x.z, .slice A x.of.length c, .slice A2 x.ch.length c2] 47)).heap.size := by simp
  clear h h1 h2
  cases hv : vZoned x
  · rw [hv] at HV
    have HR := hide (show codeZ x zone tick = 1 by simp [codeZ, hv])
    clear hv
    go_enter Tryd.func73, Tryd.ntmps73
    go_wp2_with (go_at_call 40; refine (HV.out).mono ?_; rintro e w1 ⟨rfl, hb1⟩)
    go_ret
    exact ⟨by rw [HR.out]; rfl, b0.trans (hb1.mono b0.size)⟩
  rw [hv] at HV
  have hz := (vZoned_iff hv).1
  obtain ⟨hz1, hz2⟩ := hz
  by_cases g1 : 0 ≤ zone ∧ zone ≤ x.z - 1
  case neg =>
    have g1' : zone < 0 ∨ x.z - 1 < zone := by omega
    have HR := hide (show codeZ x zone tick = 2 by simp only [codeZ, hv, if_true]; exact if_neg (by omega))
    clear hv g1
    go_enter Tryd.func73, Tryd.ntmps73
    go_wp2_with (first | (go_at_call 60; first | (refine (within_t _ _ _ _ (by omega)).mono ?_; rintro e w' ⟨rfl, rfl⟩) | (refine (within_f _ _ _ _ (by omega)).mono ?_; rintro e w' ⟨rfl, rfl⟩)) | (go_at_call 40; refine (HV.out).mono ?_; rintro e w1 ⟨rfl, hb1⟩; have kk := (X0.out.below hb1 z0).cell 0; simp only [List.getElem?_cons_succ, List.getElem?_cons_zero] at kk))
    go_ret
    exact ⟨by rw [HR.out]; rfl, b0.trans (hb1.mono b0.size)⟩
  by_cases g2 : 0 ≤ tick ∧ tick ≤ 10000
  case neg =>
    have HT := hide fun W => isTick_any tick W
    rw [show inB 0 10000 tick = false from inB_f (by omega)] at HT
    have HR := hide (show codeZ x zone tick = 2 by simp only [codeZ, hv, if_true]; exact if_neg (by omega))
    obtain ⟨g1a, g1b⟩ := g1
    clear hv g2
    go_enter Tryd.func73, Tryd.ntmps73
    go_wp2_with (first | (go_at_call 60; first | (refine (within_t _ _ _ _ (by omega)).mono ?_; rintro e w' ⟨rfl, rfl⟩) | (refine (within_f _ _ _ _ (by omega)).mono ?_; rintro e w' ⟨rfl, rfl⟩)) | (go_at_call 107; refine (HT.out _).mono ?_; rintro e w' ⟨rfl, rfl⟩) | (go_at_call 40; refine (HV.out).mono ?_; rintro e w1 ⟨rfl, hb1⟩; have kk := (X0.out.below hb1 z0).cell 0; simp only [List.getElem?_cons_succ, List.getElem?_cons_zero] at kk))
    go_ret
    exact ⟨by rw [HR.out]; rfl, b0.trans (hb1.mono b0.size)⟩
  have HT := hide fun W => isTick_any tick W
  rw [show inB 0 10000 tick = true from inB_t g2] at HT
  have HR := hide (show codeZ x zone tick = 0 by simp only [codeZ, hv, if_true]; exact if_pos ⟨g1, g2⟩)
  obtain ⟨g1a, g1b⟩ := g1
  clear hv g2
  go_enter Tryd.func73, Tryd.ntmps73
  go_wp2_with (first | (go_at_call 60; first | (refine (within_t _ _ _ _ (by omega)).mono ?_; rintro e w' ⟨rfl, rfl⟩) | (refine (within_f _ _ _ _ (by omega)).mono ?_; rintro e w' ⟨rfl, rfl⟩)) | (go_at_call 107; refine (HT.out _).mono ?_; rintro e w' ⟨rfl, rfl⟩) | (go_at_call 40; refine (HV.out).mono ?_; rintro e w1 ⟨rfl, hb1⟩; have kk := (X0.out.below hb1 z0).cell 0; simp only [List.getElem?_cons_succ, List.getElem?_cons_zero] at kk))
  go_ret
  exact ⟨by rw [HR.out]; rfl, b0.trans (hb1.mono b0.size)⟩
end Go.Proofs.YtofjnmeblmbnmaaDoor
namespace Go.Proofs.YtofjnmeblmbnmaaDoor
open Go.RowKit

set_option maxRecDepth 100000 in
set_option maxHeartbeats 4000000 in
theorem l09Code_any (x : TZ) (A : Option Addr) (c : Nat) (A2 : Option Addr) (c2 : Nat) (b : Nat) (zone tick : Int) (w : World) (hs : Small_Zoned x) (c0 : w.cell? ⟨b, 0, none⟩ = some (.int .i64 x.z)) (c1 : w.cell? ⟨b, 1, none⟩ = some (.slice A x.of.length c)) (c3 : w.cell? ⟨b, 2, none⟩ = some (.slice A2 x.ch.length c2))
    (h1 : RdI w w.heap.size A x.of) (h2 : Rd3 w w.heap.size A2 x.ch) :
    Calls Tryd.prog 75 #[.pointer (some ⟨b, 0, none⟩), .int .i64 zone, .int .i64 tick] w fun e w' => e = .returned (.int .i64 (codeZ x zone tick)) ∧ Below w.heap.size w w' := by
  have HV := hide (l09Ok_any x A c A2 c2 b w hs c0 c1 c3 h1 h2)
  have hbl := World.block_lt_of_cell? w _ c0
  have C0 := hide c0
  clear h1 h2 c0 c1 c3
  cases hv : vZoned x
  · rw [hv] at HV
    have HR := hide (show codeZ x zone tick = 1 by simp [codeZ, hv])
    clear hv
    go_enter Tryd.func75, Tryd.ntmps75
    go_wp2_with (go_at_call 88; refine (HV.out).mono ?_; rintro e w1 ⟨rfl, hb1⟩)
    go_ret
    exact ⟨by rw [HR.out]; rfl, hb1⟩
  rw [hv] at HV
  have hz := (vZoned_iff hv).1
  obtain ⟨hz1, hz2⟩ := hz
  by_cases g1 : 0 ≤ zone ∧ zone ≤ x.z - 1
  case neg =>
    have g1' : zone < 0 ∨ x.z - 1 < zone := by omega
    have HR := hide (show codeZ x zone tick = 2 by simp only [codeZ, hv, if_true]; exact if_neg (by omega))
    clear hv g1
    go_enter Tryd.func75, Tryd.ntmps75
    go_wp2_with (first | (go_at_call 64; first | (refine (l00In_t _ _ _ _ (by omega)).mono ?_; rintro e w' ⟨rfl, rfl⟩) | (refine (l00In_f _ _ _ _ (by omega)).mono ?_; rintro e w' ⟨rfl, rfl⟩)) | (go_at_call 88; refine (HV.out).mono ?_; rintro e w1 ⟨rfl, hb1⟩; have kk := (hb1.cell (p := ⟨b, 0, none⟩) hbl).trans C0.out))
    go_ret
    exact ⟨by rw [HR.out]; rfl, hb1⟩
  by_cases g2 : 0 ≤ tick ∧ tick ≤ 10000
  case neg =>
    have HT := hide fun W => l09Tick_any tick W
    rw [show inB 0 10000 tick = false from inB_f (by omega)] at HT
    have HR := hide (show codeZ x zone tick = 2 by simp only [codeZ, hv, if_true]; exact if_neg (by omega))
    obtain ⟨g1a, g1b⟩ := g1
    clear hv g2
    go_enter Tryd.func75, Tryd.ntmps75
    go_wp2_with (first | (go_at_call 64; first | (refine (l00In_t _ _ _ _ (by omega)).mono ?_; rintro e w' ⟨rfl, rfl⟩) | (refine (l00In_f _ _ _ _ (by omega)).mono ?_; rintro e w' ⟨rfl, rfl⟩)) | (go_at_call 108; refine (HT.out _).mono ?_; rintro e w' ⟨rfl, rfl⟩) | (go_at_call 88; refine (HV.out).mono ?_; rintro e w1 ⟨rfl, hb1⟩; have kk := (hb1.cell (p := ⟨b, 0, none⟩) hbl).trans C0.out))
    go_ret
    exact ⟨by rw [HR.out]; rfl, hb1⟩
  have HT := hide fun W => l09Tick_any tick W
  rw [show inB 0 10000 tick = true from inB_t g2] at HT
  have HR := hide (show codeZ x zone tick = 0 by simp only [codeZ, hv, if_true]; exact if_pos ⟨g1, g2⟩)
  obtain ⟨g1a, g1b⟩ := g1
  clear hv g2
  go_enter Tryd.func75, Tryd.ntmps75
  go_wp2_with (first | (go_at_call 64; first | (refine (l00In_t _ _ _ _ (by omega)).mono ?_; rintro e w' ⟨rfl, rfl⟩) | (refine (l00In_f _ _ _ _ (by omega)).mono ?_; rintro e w' ⟨rfl, rfl⟩)) | (go_at_call 108; refine (HT.out _).mono ?_; rintro e w' ⟨rfl, rfl⟩) | (go_at_call 88; refine (HV.out).mono ?_; rintro e w1 ⟨rfl, hb1⟩; have kk := (hb1.cell (p := ⟨b, 0, none⟩) hbl).trans C0.out))
  go_ret
  exact ⟨by rw [HR.out]; rfl, hb1⟩
theorem codeZ_ok {x : TZ} {zone tick : Int} (h : codeZ x zone tick = 0) : vZoned x = true ∧ (0 ≤ zone ∧ zone ≤ x.z - 1) ∧ (0 ≤ tick ∧ tick ≤ 10000) := by
  unfold codeZ at h
  split at h
  · split at h
    · rename_i h1 h2; exact ⟨h1, h2⟩
    · omega
  · omega
def levelAt (x : TZ) (zone tick : Int) : Int × Int := if codeZ x zone tick = 0 then (lvl x.ch zone tick, 0) else (0, codeZ x zone tick)
set_option maxRecDepth 100000 in
set_option maxHeartbeats 4000000 in
theorem P_LevelAt (x : TZ) (v : Value) (zone tick : Int) (w : World) (hs : Small_Zoned x) (hf : Fit_Zoned x) (h : R_Zoned w w.heap.size v x) (_ : -9223372036854775808 ≤ zone) (_ : zone ≤ 9223372036854775807) (_ : -9223372036854775808 ≤ tick) (_ : tick ≤ 9223372036854775807) :
    Calls Tryd.prog 25 #[v, .int .i64 zone, .int .i64 tick] w fun e w' => e = .returned (.tuple #[.int .i64 (levelAt x zone tick).1, .int .i64 (levelAt x zone tick).2]) ∧ Below w.heap.size w w' := by
  have h0 := h
  obtain ⟨A, c, A2, c2, rfl, h1, h2⟩ := h0
  have b0 : Below w.heap.size w (w.alloc (.cells #[.int .i64 x.z, .slice A x.of.length c, .slice A2 x.ch.length c2] 47)) := (by repeat (first | exact Below.refl _ _ | assumption | (refine Below.alloc ?_ (by simp <;> omega) _) | refine Below.drew ?_ | refine bdn ?_ _))
  have HV := hide (zoneCode_any x _ zone tick _ hs hf ((h.below b0).more b0.size))
  have HL := hide fun W (hW : Below w.heap.size w W) => levelAt_any x (.agg #[.int .i64 x.z, .slice A x.of.length c, .slice A2 x.ch.length c2]) zone tick W hs ((h.below hW).more hW.size)
  have X0 := hide (BoxAt.new w #[.int .i64 x.z, .slice A x.of.length c, .slice A2 x.ch.length c2] 47)
  have z0 : w.heap.size + 1 ≤ (w.alloc (.cells #[.int .i64 x.z, .slice A x.of.length c, .slice A2 x.ch.length c2] 47)).heap.size := by simp
  clear h h1 h2
  by_cases hc : codeZ x zone tick = 0
  · have HR := hide (show levelAt x zone tick = (lvl x.ch zone tick, 0) by simp [levelAt, hc])
    rw [hc] at HV
    clear hc
    go_enter Tryd.func25, Tryd.ntmps25
    go_wp2_with (first | (go_at_call 73; refine (HV.out).mono ?_; rintro e w1 ⟨rfl, hb1⟩; have hb2 := b0.trans (hb1.mono b0.size); have X1 := X0.out.below hb1 z0; have k0 := X1.cell 0; have k1 := X1.cell 1; have k2 := X1.cell 2; simp only [List.getElem?_cons_succ, List.getElem?_cons_zero] at k0 k1 k2) | (go_at_call 74; refine (HL.out _ hb2).mono ?_; rintro e w2 ⟨rfl, hb3⟩))
    go_ret2
    exact ⟨by rw [HR.out]; rfl, hb2.trans (hb3.mono hb2.size)⟩
  · have HR := hide (show levelAt x zone tick = (0, codeZ x zone tick) by simp [levelAt, hc])
    have hne : (codeZ x zone tick != 0) = true := by simp [hc]
    generalize codeZ x zone tick = cd at *
    go_enter Tryd.func25, Tryd.ntmps25
    go_wp2_with (go_at_call 73; refine (HV.out).mono ?_; rintro e w1 ⟨rfl, hb1⟩)
    go_ret2
    exact ⟨by rw [HR.out]; rfl, b0.trans (hb1.mono b0.size)⟩
end Go.Proofs.YtofjnmeblmbnmaaDoor
namespace Go.Proofs.YtofjnmeblmbnmaaDoor
open Go.RowKit

theorem chOk_sorted {n : Int} : ∀ {cs : List T3} {p : Option T3}, chOk n p cs = true → cs.Pairwise (fun a b => a.a ≤ b.a) ∧ ∀ c ∈ cs, okC n c = true := by
  intro cs
  induction cs with
  | nil => intro p _; exact ⟨List.Pairwise.nil, fun c hc => by cases hc⟩
  | cons d ds ih =>
    intro p h
    rw [chOk] at h
    simp only [Bool.and_eq_true] at h
    obtain ⟨i1, i2⟩ := ih h.2.2
    refine ⟨List.pairwise_cons.2 ⟨fun c hc => ?_, i1⟩, fun c hc => ?_⟩
    · have := ltC_iff.1 (chOk_all h.2.2 c hc); omega
    · rcases List.mem_cons.1 hc with rfl | hc
      · exact h.1
      · exact i2 c hc
def geB (least a : Int) : Bool := decide (least ≤ a)
theorem geB_t {least a : Int} (h : least ≤ a) : geB least a = true := decide_eq_true h
theorem geB_f {least a : Int} (h : ¬ least ≤ a) : geB least a = false := decide_eq_false h
/-- At how many of the first ticks p holds. -/
def cntAt (p : Int → Bool) : Nat → Int
  | 0 => 0
  | n + 1 => cntAt p n + if p n then 1 else 0
theorem cntAt_bd (p : Int → Bool) : ∀ n, 0 ≤ cntAt p n ∧ cntAt p n ≤ n := by
  intro n
  induction n with
  | zero => simp [cntAt]
  | succ n ih => rw [cntAt]; split <;> omega
theorem cntAt_congr {p q : Int → Bool} : ∀ {n : Nat}, (∀ t : Int, 0 ≤ t → t < n → p t = q t) → cntAt p n = cntAt q n := by
  intro n
  induction n with
  | zero => intro _; rfl
  | succ n ih =>
    intro h
    rw [cntAt, cntAt, ih fun t h1 h2 => h t h1 (by omega), h n (by omega) (by omega)]
theorem cntAt_from {p : Int → Bool} {b : Bool} {m : Nat} : ∀ {n : Nat}, m ≤ n → (∀ t : Int, (m : Int) ≤ t → t < n → p t = b) → cntAt p n = cntAt p m + if b then (n : Int) - m else 0 := by
  intro n
  induction n with
  | zero => intro h _; obtain rfl : m = 0 := by omega
            simp
  | succ n ih =>
    intro h hp
    by_cases hm : m = n + 1
    · subst hm; simp
    · rw [cntAt, ih (by omega) fun t h1 h2 => hp t h1 (by omega), hp n (by omega) (by omega)]
      cases b
      · simp
      · simp; omega
/-- The ticks between the changes, told from change to change. -/
def taGo (zone least e : Int) : List T3 → Int → Int → Int → Int
  | [], n, fr, lv => if least ≤ lv then n + (e - fr) else n
  | c :: cs, n, fr, lv => if c.b = zone ∧ c.a < e then taGo zone least e cs (if least ≤ lv then n + (c.a - fr) else n) c.a c.c else taGo zone least e cs n fr lv
theorem taGo_cnt (zone least : Int) (e : Nat) : ∀ (cs : List T3) (n lv : Int) (fr : Nat) (g : Int → Int), cs.Pairwise (fun a b => a.a ≤ b.a) → (∀ c ∈ cs, (fr : Int) ≤ c.a) → fr ≤ e →
    (∀ t : Int, (fr : Int) ≤ t → t < e → g t = lv) → n = cntAt (fun t => geB least (g t)) fr →
    taGo zone least e cs n fr lv = cntAt (fun t => geB least (lvlGo zone t (g t) cs)) e := by
  intro cs
  induction cs with
  | nil =>
    intro n lv fr g _ _ hfe h1 h2
    simp only [taGo, lvlGo]
    rw [cntAt_from (b := geB least lv) hfe fun t a b => by rw [h1 t a b], ← h2]
    by_cases h : least ≤ lv
    · rw [geB_t h, if_pos h, if_pos rfl]
    · rw [geB_f h, if_neg h]; simp
  | cons c cs ih =>
    intro n lv fr g hp hle hfe h1 h2
    obtain ⟨hp1, hp2⟩ := List.pairwise_cons.1 hp
    have hca := hle c (List.mem_cons_self ..)
    simp only [taGo, lvlGo]
    by_cases hz : c.b = zone
    · by_cases ht : c.a < e
      · rw [if_pos ⟨hz, ht⟩]
        obtain ⟨m, hm⟩ := Int.eq_ofNat_of_zero_le (show 0 ≤ c.a by omega)
        rw [hm] at hca ht ⊢
        rw [ih _ c.c m (fun t => if (m : Int) ≤ t then c.c else g t) hp2 (fun d hd => by have := hp1 d hd; omega) (by omega) (fun t a b => if_pos a) ?_]
        · exact cntAt_congr fun t _ _ => by simp only [hz, true_and]
        · rw [cntAt_congr (q := fun t => geB least (g t)) fun t _ b => by rw [if_neg (by omega)],
            cntAt_from (b := geB least lv) (show fr ≤ m by omega) fun t a b => by rw [h1 t a (by omega)], ← h2]
          by_cases h : least ≤ lv
          · rw [geB_t h, if_pos h, if_pos rfl]
          · rw [geB_f h, if_neg h]; simp
      · rw [if_neg fun h => ht h.2]
        rw [ih n lv fr (fun t => if c.a ≤ t then c.c else g t) hp2 (fun d hd => hle d (List.mem_cons_of_mem _ hd)) hfe (fun t a b => by rw [if_neg (by omega)]; exact h1 t a b) ?_]
        · exact cntAt_congr fun t _ _ => by simp only [hz, true_and]
        · rw [h2]; exact cntAt_congr fun t _ b => by rw [if_neg (by omega)]
    · rw [if_neg fun h => hz h.1]
      rw [ih n lv fr g hp2 (fun d hd => hle d (List.mem_cons_of_mem _ hd)) hfe h1 h2]
      exact cntAt_congr fun t _ _ => by rw [if_neg fun h => hz h.1]
theorem taGo_eq {x : TZ} (hv : vZoned x = true) (zone least : Int) (e : Nat) : taGo zone least e x.ch 0 0 0 = cntAt (fun t => geB least (lvl x.ch zone t)) e := by
  obtain ⟨h1, h2⟩ := chOk_sorted (vZoned_iff hv).2.2.2.2
  have := taGo_cnt zone least e x.ch 0 0 0 (fun _ => 0) h1 (fun c hc => by have := (okC_iff.1 (h2 c hc)).1.1; simpa using this) (by omega) (fun _ _ _ => rfl) rfl
  simpa [lvl] using this
theorem taGo_drop {zone least e n fr lv : Int} {cs : List T3} {k : Nat} {c : T3} (h : cs[k]? = some c) : taGo zone least e (cs.drop k) n fr lv = if c.b = zone ∧ c.a < e then taGo zone least e (cs.drop (k + 1)) (if least ≤ lv then n + (c.a - fr) else n) c.a c.c else taGo zone least e (cs.drop (k + 1)) n fr lv := by rw [drop_cons h, taGo]
def ticksAbove (x : TZ) (zone least e : Int) : Int × Int := if codeZ x zone e = 0 then (if -100 ≤ least ∧ least ≤ 100 then (cntAt (fun t => geB least (lvl x.ch zone t)) e.toNat, 0) else (0, 2)) else (0, codeZ x zone e)
set_option maxRecDepth 100000 in
theorem l09Least_any (n : Int) (w : World) : Calls Tryd.prog 79 #[.int .i64 n] w fun e w' => e = .returned (.bool (inB (-100) 100 n)) ∧ w = w' := by
  go_enter Tryd.func79, Tryd.ntmps79
  go_wp2_with (go_at_call 64; refine (l00In_any _ _ _ _).mono ?_; rintro e w' ⟨rfl, rfl⟩)
  go_ret
  exact ⟨rfl, rfl⟩
set_option maxRecDepth 100000 in
theorem isLevel_any (n : Int) (w : World) : Calls Tryd.prog 78 #[.int .i64 n] w fun e w' => e = .returned (.bool (inB (-100) 100 n)) ∧ w = w' := by
  go_enter Tryd.func78, Tryd.ntmps78
  go_wp2_with (go_at_call 60; refine (within_any _ _ _ _).mono ?_; rintro e w' ⟨rfl, rfl⟩)
  go_ret
  exact ⟨rfl, rfl⟩
set_option maxRecDepth 100000 in
set_option maxHeartbeats 4000000 in
theorem S_TicksAbove (x : TZ) (v : Value) (zone least e : Int) (w : World) (hs : Small_Zoned x) (hf : Fit_Zoned x) (h : R_Zoned w w.heap.size v x) (_ : -9223372036854775808 ≤ zone) (_ : zone ≤ 9223372036854775807) (_ : -9223372036854775808 ≤ least) (_ : least ≤ 9223372036854775807) (_ : -9223372036854775808 ≤ e) (_ : e ≤ 9223372036854775807) :
    Calls Tryd.prog 29 #[v, .int .i64 zone, .int .i64 least, .int .i64 e] w fun r w' => r = .returned (.tuple #[.int .i64 (ticksAbove x zone least e).1, .int .i64 (ticksAbove x zone least e).2]) ∧ Below w.heap.size w w' := by
  have h0 := h
  obtain ⟨A, c, A2, c2, rfl, h1, h2⟩ := h0
  have b0 : Below w.heap.size w (w.alloc (.cells #[.int .i64 x.z, .slice A x.of.length c, .slice A2 x.ch.length c2] 47)) := (by repeat (first | exact Below.refl _ _ | assumption | (refine Below.alloc ?_ (by simp <;> omega) _) | refine Below.drew ?_ | refine bdn ?_ _))
  have HC := hide (l09Code_any x A c A2 c2 w.heap.size zone e (w.alloc (.cells #[.int .i64 x.z, .slice A x.of.length c, .slice A2 x.ch.length c2] 47)) hs (by simp [go_sem]) (by simp [go_sem]) (by simp [go_sem]) ((h1.below b0).more b0.size) ((h2.below b0).more b0.size))
  have z0 : w.heap.size + 1 ≤ (w.alloc (.cells #[.int .i64 x.z, .slice A x.of.length c, .slice A2 x.ch.length c2] 47)).heap.size := by simp
  have X0 := hide (BoxAt.new w #[.int .i64 x.z, .slice A x.of.length c, .slice A2 x.ch.length c2] 47)
  have HM := hide h2
  clear h h1 h2
  by_cases hc : codeZ x zone e = 0
  case neg =>
    have HR := hide (show ticksAbove x zone least e = (0, codeZ x zone e) by simp [ticksAbove, hc])
    have hne : (codeZ x zone e != 0) = true := by simp [hc]
    have hnf : (codeZ x zone e == 0) = false := by simp [hc]
    generalize codeZ x zone e = cd at *
    go_enter Tryd.func29, Tryd.ntmps29
    go_wp2_with (go_at_call 75; refine (HC.out).mono ?_; rintro e w1 ⟨rfl, hb1⟩)
    go_ret2
    exact ⟨by rw [HR.out]; rfl, b0.trans (hb1.mono b0.size)⟩
  obtain ⟨hv, hz, he⟩ := codeZ_ok hc
  have HI := hide fun W => l09Least_any least W
  by_cases hl : -100 ≤ least ∧ least ≤ 100
  case neg =>
    have HR := hide (show ticksAbove x zone least e = (0, 2) by simp only [ticksAbove, hc, if_true]; exact if_neg hl)
    rw [hc] at HC
    rw [show inB (-100) 100 least = false from inB_f (by omega)] at HI
    clear hc hv hl
    go_enter Tryd.func29, Tryd.ntmps29
    go_wp2_with (first | (go_at_call 75; refine (HC.out).mono ?_; rintro e w1 ⟨rfl, hb1⟩) | (go_at_call 79; refine (HI.out _).mono ?_; rintro e w' ⟨rfl, rfl⟩))
    go_ret2
    exact ⟨by rw [HR.out]; rfl, b0.trans (hb1.mono b0.size)⟩
  have HR := hide (show ticksAbove x zone least e = (cntAt (fun t => geB least (lvl x.ch zone t)) e.toNat, 0) by simp only [ticksAbove, hc, if_true]; exact if_pos hl)
  rw [hc] at HC
  rw [inB_t hl] at HI
  obtain ⟨hl1, hl2⟩ := hl
  obtain ⟨he1, he2⟩ := he
  have HE := hide (show taGo zone least e x.ch 0 0 0 = cntAt (fun t => geB least (lvl x.ch zone t)) e.toNat by obtain ⟨m, rfl⟩ := Int.eq_ofNat_of_zero_le he1; exact taGo_eq hv zone least m)
  have HO := hide (chOk_sorted (vZoned_iff hv).2.2.2.2).2
  have h60 := (vZoned_iff hv).2.2.1
  clear hc hv
  go_enter Tryd.func29, Tryd.ntmps29
  go_wp2_with (first | (go_at_call 75; refine (HC.out).mono ?_; rintro e w1 ⟨rfl, hb1⟩) | (go_at_call 79; refine (HI.out _).mono ?_; rintro e w' ⟨rfl, rfl⟩))
  have hb2 : Below (w.heap.size + 1) (w.alloc (.cells #[.int .i64 x.z, .slice A x.of.length c, .slice A2 x.ch.length c2] 47)) w1 := hb1.mono z0
  go_loopg [11, 12, 13, 14] (x.ch.length) (fun g s1 s2 s3 i wr => ∃ (k : Nat) (n fr lv : Int), k ≤ x.ch.length ∧ Hid (g = x.ch.length - k) ∧ i = .int .i64 k ∧ s1 = .int .i64 n ∧ s2 = .int .i64 fr ∧ s3 = .int .i64 lv ∧
    -10000 * (k : Int) ≤ n ∧ n ≤ 10000 * (k : Int) ∧ 0 ≤ fr ∧ fr ≤ 10000 ∧ -100 ≤ lv ∧ lv ≤ 100 ∧ Hid (taGo zone least e x.ch 0 0 0 = taGo zone least e (x.ch.drop k) n fr lv) ∧ Below (w.heap.size + 1) (w.alloc (.cells #[.int .i64 x.z, .slice A x.of.length c, .slice A2 x.ch.length c2] 47)) wr)
  case atStart => exact ⟨0, 0, 0, 0, by omega, by simp [Hid], rfl, rfl, rfl, rfl, by omega, by omega, by omega, by omega, by omega, by omega, by simp [Hid], hb2⟩
  case round =>
    obtain ⟨k, n, fr, lv, hk, hg, rfl, rfl, rfl, rfl, hn1, hn2, hf1, hf2, hv1, hv2, HS, hb⟩ := hrel
    clear hb2 hb1
    have hsz : w.heap.size + 1 ≤ wr.heap.size := by have := hb.size; omega
    have X1 := X0.out.below hb (by omega)
    have hxl := X1.lt
    have k2 := X1.cell 2
    simp only [List.getElem?_cons_succ, List.getElem?_cons_zero] at k2
    have bw : Below w.heap.size w wr := b0.trans (hb.mono (by omega))
    by_cases hlt : k < x.ch.length
    · obtain ⟨b1, o1, z1, rfl, hbb, hz1, hca, hcb, hcc⟩ := (HM.out.below bw).at_ hlt
      have hok := okC_iff.1 (HO.out z1 (List.mem_of_getElem? hz1))
      obtain ⟨⟨ha1, ha2⟩, _, ⟨hc1, hc2⟩⟩ := hok
      have HS' := HS.out
      rw [taGo_drop hz1] at HS'
      clear hz1 HS
      by_cases gz : z1.b = zone
      case neg =>
        have HQ := hide (HS'.trans (if_neg fun h => gz h.1))
        have hB : (z1.b != zone) = true := by simp [gz]
        clear HS' gz
        go_wp2_with fail
        go_roundg (x.ch.length - (k + 1))
        case measure => have := hg.out; omega
        case rel => exact ⟨k + 1, n, fr, lv, by omega, rfl, by go_num, rfl, rfl, rfl, by omega, by omega, hf1, hf2, hv1, hv2, HQ, hb.alloc hsz _⟩
      have hB : (z1.b != zone) = false := by simp [gz]
      by_cases ga : z1.a < e
      case neg =>
        have HQ := hide (HS'.trans (if_neg fun h => ga h.2))
        clear HS' gz
        go_wp2_with fail
        go_roundg (x.ch.length - (k + 1))
        case measure => have := hg.out; omega
        case rel => exact ⟨k + 1, n, fr, lv, by omega, rfl, by go_num, rfl, rfl, rfl, by omega, by omega, hf1, hf2, hv1, hv2, HQ, hb.alloc hsz _⟩
      rw [if_pos ⟨gz, ga⟩] at HS'
      clear gz
      by_cases gl : least ≤ lv
      · rw [if_pos gl] at HS'
        have HQ := hide HS'
        clear HS'
        go_wp2_with fail
        go_roundg (x.ch.length - (k + 1))
        case measure => have := hg.out; omega
        case rel => exact ⟨k + 1, n + (z1.a - fr), z1.a, z1.c, by omega, rfl, by go_num, by go_num, rfl, rfl, by omega, by omega, ha1, ha2, hc1, hc2, HQ, hb.alloc hsz _⟩
      · rw [if_neg gl] at HS'
        have HQ := hide HS'
        clear HS'
        go_wp2_with fail
        go_roundg (x.ch.length - (k + 1))
        case measure => have := hg.out; omega
        case rel => exact ⟨k + 1, n, z1.a, z1.c, by omega, rfl, by go_num, rfl, rfl, rfl, by omega, by omega, ha1, ha2, hc1, hc2, HQ, hb.alloc hsz _⟩
    · have HQ := hide (HE.out.symm.trans (HS.out.trans (show taGo zone least e (x.ch.drop k) n fr lv = if least ≤ lv then n + (e - fr) else n by rw [List.drop_eq_nil_of_le (by omega), taGo])))
      clear HS HE
      by_cases gl : least ≤ lv
      · have HQ' := hide (HQ.out.trans (if_pos gl))
        clear HQ
        go_wp2_with fail
        go_ret2
        exact ⟨by rw [HR.out, HQ'.out]; congr 4, bw⟩
      · have HQ' := hide (HQ.out.trans (if_neg gl))
        clear HQ
        go_wp2_with fail
        go_ret2
        exact ⟨by rw [HR.out, HQ'.out]; rfl, bw⟩
set_option maxRecDepth 100000 in
set_option maxHeartbeats 4000000 in
theorem P_TicksAbove (x : TZ) (v : Value) (zone least e : Int) (w : World) (hs : Small_Zoned x) (hf : Fit_Zoned x) (h : R_Zoned w w.heap.size v x) (_ : -9223372036854775808 ≤ zone) (_ : zone ≤ 9223372036854775807) (_ : -9223372036854775808 ≤ least) (_ : least ≤ 9223372036854775807) (_ : -9223372036854775808 ≤ e) (_ : e ≤ 9223372036854775807) :
    Calls Tryd.prog 28 #[v, .int .i64 zone, .int .i64 least, .int .i64 e] w fun r w' => r = .returned (.tuple #[.int .i64 (ticksAbove x zone least e).1, .int .i64 (ticksAbove x zone least e).2]) ∧ Below w.heap.size w w' := by
  have h0 := h
  obtain ⟨A, c, A2, c2, rfl, h1, h2⟩ := h0
  have b0 : Below w.heap.size w (w.alloc (.cells #[.int .i64 x.z, .slice A x.of.length c, .slice A2 x.ch.length c2] 47)) := (by repeat (first | exact Below.refl _ _ | assumption | (refine Below.alloc ?_ (by simp <;> omega) _) | refine Below.drew ?_ | refine bdn ?_ _))
  have HC := hide (zoneCode_any x _ zone e _ hs hf ((h.below b0).more b0.size))
  have z0 : w.heap.size + 1 ≤ (w.alloc (.cells #[.int .i64 x.z, .slice A x.of.length c, .slice A2 x.ch.length c2] 47)).heap.size := by simp
  have X0 := hide (BoxAt.new w #[.int .i64 x.z, .slice A x.of.length c, .slice A2 x.ch.length c2] 47)
  have HM := hide h2
  have HL := hide fun tick W (hW : Below w.heap.size w W) => levelAt_any x (.agg #[.int .i64 x.z, .slice A x.of.length c, .slice A2 x.ch.length c2]) zone tick W hs ((h.below hW).more hW.size)
  clear h h1 h2
  by_cases hc : codeZ x zone e = 0
  case neg =>
    have HR := hide (show ticksAbove x zone least e = (0, codeZ x zone e) by simp [ticksAbove, hc])
    have hne : (codeZ x zone e != 0) = true := by simp [hc]
    have hnf : (codeZ x zone e == 0) = false := by simp [hc]
    generalize codeZ x zone e = cd at *
    go_enter Tryd.func28, Tryd.ntmps28
    go_wp2_with (go_at_call 73; refine (HC.out).mono ?_; rintro e w1 ⟨rfl, hb1⟩)
    go_ret2
    exact ⟨by rw [HR.out]; rfl, b0.trans (hb1.mono b0.size)⟩
  obtain ⟨hv, hz, he⟩ := codeZ_ok hc
  have HI := hide fun W => isLevel_any least W
  by_cases hl : -100 ≤ least ∧ least ≤ 100
  case neg =>
    have HR := hide (show ticksAbove x zone least e = (0, 2) by simp only [ticksAbove, hc, if_true]; exact if_neg hl)
    rw [hc] at HC
    rw [show inB (-100) 100 least = false from inB_f (by omega)] at HI
    clear hc hv hl
    go_enter Tryd.func28, Tryd.ntmps28
    go_wp2_with (first | (go_at_call 73; refine (HC.out).mono ?_; rintro e w1 ⟨rfl, hb1⟩) | (go_at_call 78; refine (HI.out _).mono ?_; rintro e w' ⟨rfl, rfl⟩))
    go_ret2
    exact ⟨by rw [HR.out]; rfl, b0.trans (hb1.mono b0.size)⟩
  have HR := hide (show ticksAbove x zone least e = (cntAt (fun t => geB least (lvl x.ch zone t)) e.toNat, 0) by simp only [ticksAbove, hc, if_true]; exact if_pos hl)
  rw [hc] at HC
  rw [inB_t hl] at HI
  obtain ⟨hl1, hl2⟩ := hl
  obtain ⟨he1, he2⟩ := he
  clear hc hv
  obtain ⟨m, rfl⟩ := Int.eq_ofNat_of_zero_le he1
  go_enter Tryd.func28, Tryd.ntmps28
  go_wp2_with (first | (go_at_call 73; refine (HC.out).mono ?_; rintro e w1 ⟨rfl, hb1⟩) | (go_at_call 78; refine (HI.out _).mono ?_; rintro e w' ⟨rfl, rfl⟩))
  have hb2 : Below (w.heap.size + 1) (w.alloc (.cells #[.int .i64 x.z, .slice A x.of.length c, .slice A2 x.ch.length c2] 47)) w1 := hb1.mono z0
  go_loopg [11, 28] m (fun g s i wr => ∃ (k : Nat) (n : Int), k ≤ m ∧ Hid (g = m - k) ∧ i = .int .i64 k ∧ s = .int .i64 n ∧ 0 ≤ n ∧ n ≤ k ∧ Hid (cntAt (fun t => geB least (lvl x.ch zone t)) k = n) ∧ Below (w.heap.size + 1) (w.alloc (.cells #[.int .i64 x.z, .slice A x.of.length c, .slice A2 x.ch.length c2] 47)) wr)
  case atStart => exact ⟨0, 0, by omega, by simp [Hid], rfl, rfl, by omega, by omega, by simp [Hid, cntAt], hb2⟩
  case round =>
    obtain ⟨k, n, hk, hg, rfl, rfl, hn1, hn2, HS, hb⟩ := hrel
    clear hb2 hb1
    have hsz : w.heap.size + 1 ≤ wr.heap.size := by have := hb.size; omega
    have X1 := X0.out.below hb (by omega)
    have k0 := X1.cell 0
    have k1 := X1.cell 1
    have k2 := X1.cell 2
    simp only [List.getElem?_cons_succ, List.getElem?_cons_zero] at k0 k1 k2
    have bw : Below w.heap.size w wr := b0.trans (hb.mono (by omega))
    by_cases hlt : k < m
    · have HQ := hide (HL.out (k : Int) wr bw)
      have HS' : Hid (cntAt (fun t => geB least (lvl x.ch zone t)) (k + 1) = n + if geB least (lvl x.ch zone k) then 1 else 0) := by have := HS.out; unfold Hid; rw [cntAt, this]
      clear HS
      generalize lvl x.ch zone k = lv at *
      by_cases gl : least ≤ lv
      · have HS2 := hide (HS'.out.trans (by rw [geB_t gl, if_pos rfl] : _ = n + 1))
        go_wp2_with (go_at_call 74; refine (HQ.out).mono ?_; rintro e w2 ⟨rfl, hb5⟩)
        go_roundg (m - (k + 1))
        case measure => have := hg.out; omega
        case rel => exact ⟨k + 1, n + 1, by omega, rfl, by go_num, by go_num, by omega, by omega, HS2, hb.trans (hb5.mono hsz)⟩
      · have HS2 := hide (HS'.out.trans (by rw [geB_f gl]; simp : _ = n))
        go_wp2_with (go_at_call 74; refine (HQ.out).mono ?_; rintro e w2 ⟨rfl, hb5⟩)
        go_roundg (m - (k + 1))
        case measure => have := hg.out; omega
        case rel => exact ⟨k + 1, n, by omega, rfl, by go_num, rfl, by omega, by omega, HS2, hb.trans (hb5.mono hsz)⟩
    · obtain rfl : k = m := by omega
      go_wp2_with fail
      go_ret2
      exact ⟨by rw [HR.out, ← HS.out]; rfl, bw⟩
end Go.Proofs.YtofjnmeblmbnmaaDoor
