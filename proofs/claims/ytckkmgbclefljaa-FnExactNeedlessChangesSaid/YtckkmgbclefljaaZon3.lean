/-
  Zones: the level of a zone at a tick; the codes; in the program and in the reference.
-/
import Derived.Test.YtckkmgbclefljaaZon2
namespace Go.Proofs.Ytckkmgbclefljaa
open Go.RowKit

/-- The level behind these changes, in the order of the row. -/
def lvlGo (zone tick : Int) : Int → List T3 → Int
  | acc, [] => acc
  | acc, c :: cs => lvlGo zone tick (if c.b = zone ∧ c.a ≤ tick then c.c else acc) cs
def lvl (cs : List T3) (zone tick : Int) : Int := lvlGo zone tick 0 cs
theorem lvlGo_late {zone tick : Int} : ∀ {cs : List T3} {acc : Int}, (∀ c ∈ cs, tick < c.a) → lvlGo zone tick acc cs = acc := by
  intro cs
  induction cs with
  | nil => intro acc _; rfl
  | cons c cs ih =>
    intro acc h
    have h1 := h c (List.mem_cons_self ..)
    rw [lvlGo, if_neg (by omega)]
    exact ih fun d hd => h d (List.mem_cons_of_mem _ hd)
theorem lvlGo_drop {zone tick acc : Int} {cs : List T3} {k : Nat} {c : T3} (h : cs[k]? = some c) : lvlGo zone tick acc (cs.drop k) = lvlGo zone tick (if c.b = zone ∧ c.a ≤ tick then c.c else acc) (cs.drop (k + 1)) := by rw [drop_cons h, lvlGo]
theorem ltC_iff {a b : T3} : ltC a b = true ↔ a.a < b.a ∨ (a.a = b.a ∧ a.b < b.b) := by simp [ltC]
theorem chOk_all {n : Int} : ∀ {cs : List T3} {a : T3}, chOk n (some a) cs = true → ∀ c ∈ cs, ltC a c = true := by
  intro cs
  induction cs with
  | nil => intro a _ c hc; cases hc
  | cons d ds ih =>
    intro a h c hc
    rw [chOk] at h
    simp only [okNext, Bool.and_eq_true] at h
    rcases List.mem_cons.1 hc with rfl | hc
    · exact h.2.1
    · have h1 := ltC_iff.1 h.2.1
      have h2 := ltC_iff.1 (ih h.2.2 c hc)
      rw [ltC_iff]; omega
theorem chOk_drop {n : Int} {cs : List T3} (h : chOk n none cs = true) : ∀ k, k ≤ cs.length → chOk n (prevOf cs k) (cs.drop k) = true := by
  intro k
  induction k with
  | zero => intro _; simpa [prevOf] using h
  | succ k ih =>
    intro hk
    have h1 := ih (by omega)
    obtain ⟨c, hc⟩ : ∃ c, cs[k]? = some c := ⟨_, List.getElem?_eq_getElem (by omega)⟩
    rw [chOk_step hc] at h1
    simp only [Bool.and_eq_true] at h1
    exact h1.2.2
theorem chOk_at {n : Int} {cs : List T3} (h : chOk n none cs = true) {k : Nat} {c : T3} (hc : cs[k]? = some c) : okC n c = true ∧ ∀ d ∈ cs.drop (k + 1), ltC c d = true := by
  have h1 := chOk_drop h k (by have := lt_of_get hc; omega)
  rw [chOk_step hc] at h1
  simp only [Bool.and_eq_true] at h1
  refine ⟨h1.1, ?_⟩
  have h2 := h1.2.2
  have : prevOf cs (k + 1) = some c := hc
  rw [this] at h2
  exact chOk_all h2
theorem vZoned_iff {x : TZ} (h : vZoned x = true) : (1 ≤ x.z ∧ x.z ≤ 8) ∧ x.of.length ≤ 24 ∧ x.ch.length ≤ 60 ∧ (∀ z ∈ x.of, 0 ≤ z ∧ z ≤ x.z - 1) ∧ chOk x.z none x.ch = true := by
  unfold vZoned at h
  simp only [Bool.and_eq_true, inB_iff, decide_eq_true_eq, List.all_eq_true] at h
  exact ⟨h.1, h.2.1, h.2.2.1, h.2.2.2.1, h.2.2.2.2⟩

set_option maxRecDepth 100000 in
set_option maxHeartbeats 4000000 in
theorem levelAt_any (x : TZ) (v : Value) (zone tick : Int) (w : World) (hs : Small_Zoned x) (h : R_Zoned w w.heap.size v x) :
    Calls Try.prog 71 #[v, .int .i64 zone, .int .i64 tick] w fun e w' => e = .returned (.int .i64 (lvl x.ch zone tick)) ∧ Below w.heap.size w w' := by
  obtain ⟨A, c, A2, c2, rfl, h1, h2⟩ := h
  obtain ⟨hs1, hs2⟩ := hs
  have HM := hide h2
  clear h1 h2
  have b0 : Below w.heap.size w (w.alloc (.cells #[.int .i64 x.z, .slice A x.of.length c, .slice A2 x.ch.length c2] 36)) := (by repeat (first | exact Below.refl _ _ | assumption | (refine Below.alloc ?_ (by simp <;> omega) _) | refine Below.drew ?_ | refine bdn ?_ _))
  go_enter Try.func71, Try.ntmps71
  go_wp2_with fail
  go_loopg [7, 13] x.ch.length (fun g l i wr => ∃ (k : Nat) (acc : Int), k ≤ x.ch.length ∧ Hid (g = x.ch.length - k) ∧ i = .int .i64 k ∧ l = .int .i64 acc ∧ Hid (lvl x.ch zone tick = lvlGo zone tick acc (x.ch.drop k)) ∧ Below w.heap.size w wr)
  case atStart => exact ⟨0, 0, by omega, by simp [Hid], rfl, rfl, by simp [Hid, lvl], b0⟩
  case round =>
    obtain ⟨k, acc, hk, hg, rfl, rfl, HS, hb⟩ := hrel
    have hsz := hb.size
    clear b0
    by_cases hlt : k < x.ch.length
    · obtain ⟨b1, o1, z1, rfl, hb1, hz1, hca, hcb, hcc⟩ := (HM.out.below hb).at_ hlt
      have HS' := HS.out; rw [lvlGo_drop hz1] at HS'
      clear hz1
      by_cases hzo : z1.b = zone
      · by_cases hti : z1.a ≤ tick
        · have HQ := hide (HS'.trans (by rw [if_pos ⟨hzo, hti⟩])); clear HS' HS
          go_wp2_with fail
          go_roundg (x.ch.length - (k + 1))
          case measure => have := hg.out; omega
          case rel => exact ⟨k + 1, z1.c, by omega, rfl, by go_num, rfl, HQ, hb.alloc hsz _⟩
        · have HQ := hide (HS'.trans (by rw [if_neg (fun h => hti h.2)])); clear HS' HS
          have htf : decide (z1.a ≤ tick) = false := decide_eq_false hti
          go_wp2_with fail
          go_roundg (x.ch.length - (k + 1))
          case measure => have := hg.out; omega
          case rel => exact ⟨k + 1, acc, by omega, rfl, by go_num, rfl, HQ, hb.alloc hsz _⟩
      · have HQ := hide (HS'.trans (by rw [if_neg (fun h => hzo h.1)])); clear HS' HS
        have hzf : decide (z1.b = zone) = false := decide_eq_false hzo
        go_wp2_with fail
        go_roundg (x.ch.length - (k + 1))
        case measure => have := hg.out; omega
        case rel => exact ⟨k + 1, acc, by omega, rfl, by go_num, rfl, HQ, hb.alloc hsz _⟩
    · have HQ := hide (HS.out.trans (by rw [List.drop_eq_nil_of_le (by omega), lvlGo]))
      go_wp2_with fail
      go_ret
      exact ⟨by rw [HQ.out]; rfl, hb⟩
set_option maxRecDepth 100000 in
set_option maxHeartbeats 4000000 in
theorem l09Level_any (x : TZ) (A2 : Option Addr) (c2 : Nat) (b : Nat) (zone tick : Int) (w : World) (hv : vZoned x = true) (k3 : w.cell? ⟨b, 2, none⟩ = some (.slice A2 x.ch.length c2)) (h2 : Rd3 w w.heap.size A2 x.ch) :
    Calls Try.prog 69 #[.pointer (some ⟨b, 0, none⟩), .int .i64 zone, .int .i64 tick] w fun e w' => e = .returned (.int .i64 (lvl x.ch zone tick)) ∧ w = w' := by
  obtain ⟨_, _, hs2, _, hch⟩ := vZoned_iff hv
  have HM := hide h2
  have HC := hide hch
  clear h2 hv hch
  go_enter Try.func69, Try.ntmps69
  go_wp2_with fail
  go_loopg [7, 8] x.ch.length (fun g l i wr => ∃ (k : Nat) (acc : Int), k ≤ x.ch.length ∧ Hid (g = x.ch.length - k) ∧ i = .int .i64 k ∧ l = .int .i64 acc ∧ Hid (lvl x.ch zone tick = lvlGo zone tick acc (x.ch.drop k)) ∧ w = wr)
  case atStart => exact ⟨0, 0, by omega, by simp [Hid], rfl, rfl, by simp [Hid, lvl], rfl⟩
  case round =>
    obtain ⟨k, acc, hk, hg, rfl, rfl, HS, rfl⟩ := hrel
    by_cases hlt : k < x.ch.length
    · obtain ⟨b1, o1, z1, rfl, hb1, hz1, hca, hcb, hcc⟩ := HM.out.at_ hlt
      have HS' := HS.out; rw [lvlGo_drop hz1] at HS'
      have HL := hide (chOk_at HC.out hz1).2
      clear hz1
      by_cases hti : z1.a ≤ tick
      · by_cases hzo : z1.b = zone
        · have HQ := hide (HS'.trans (by rw [if_pos ⟨hzo, hti⟩])); clear HS' HS
          go_wp2_with fail
          go_roundg (x.ch.length - (k + 1))
          case measure => have := hg.out; omega
          case rel => exact ⟨k + 1, z1.c, by omega, rfl, by go_num, rfl, HQ, rfl⟩
        · have HQ := hide (HS'.trans (by rw [if_neg (fun h => hzo h.1)])); clear HS' HS
          go_wp2_with fail
          go_roundg (x.ch.length - (k + 1))
          case measure => have := hg.out; omega
          case rel => exact ⟨k + 1, acc, by omega, rfl, by go_num, rfl, HQ, rfl⟩
      · have HQ := hide (HS'.trans (show lvlGo zone tick (if z1.b = zone ∧ z1.a ≤ tick then z1.c else acc) (x.ch.drop (k + 1)) = acc by rw [if_neg (fun h => hti h.2)]; exact lvlGo_late fun d hd => by have := ltC_iff.1 (HL.out d hd); omega)); clear HS' HS
        go_wp2_with fail
        go_ret
        exact ⟨by rw [HQ.out]; rfl, rfl⟩
    · have HQ := hide (HS.out.trans (by rw [List.drop_eq_nil_of_le (by omega), lvlGo]))
      go_wp2_with fail
      go_ret
      exact ⟨by rw [HQ.out]; rfl, rfl⟩

def codeZ (x : TZ) (zone tick : Int) : Int := if vZoned x = true then (if (0 ≤ zone ∧ zone ≤ x.z - 1) ∧ (0 ≤ tick ∧ tick ≤ 10000) then 0 else 2) else 1
set_option maxRecDepth 100000 in
theorem isTick_any (n : Int) (w : World) : Calls Try.prog 86 #[.int .i64 n] w fun e w' => e = .returned (.bool (inB 0 10000 n)) ∧ w = w' := by
  go_enter Try.func86, Try.ntmps86
  go_wp2_with (go_at_call 58; refine (within_any _ _ _ _).mono ?_; rintro e w' ⟨rfl, rfl⟩)
  go_ret
  exact ⟨rfl, rfl⟩
set_option maxRecDepth 100000 in
theorem l09Tick_any (n : Int) (w : World) : Calls Try.prog 87 #[.int .i64 n] w fun e w' => e = .returned (.bool (inB 0 10000 n)) ∧ w = w' := by
  go_enter Try.func87, Try.ntmps87
  go_wp2_with (go_at_call 75; refine (l00In_any _ _ _ _).mono ?_; rintro e w' ⟨rfl, rfl⟩)
  go_ret
  exact ⟨rfl, rfl⟩
set_option maxRecDepth 100000 in
set_option maxHeartbeats 4000000 in
theorem zoneCode_any (x : TZ) (v : Value) (zone tick : Int) (w : World) (hs : Small_Zoned x) (hf : Fit_Zoned x) (h : R_Zoned w w.heap.size v x) :
    Calls Try.prog 70 #[v, .int .i64 zone, .int .i64 tick] w fun e w' => e = .returned (.int .i64 (codeZ x zone tick)) ∧ Below w.heap.size w w' := by
  have h0 := h
  obtain ⟨A, c, A2, c2, rfl, h1, h2⟩ := h0
  have b0 : Below w.heap.size w (w.alloc (.cells #[.int .i64 x.z, .slice A x.of.length c, .slice A2 x.ch.length c2] 36)) := (by repeat (first | exact Below.refl _ _ | assumption | (refine Below.alloc ?_ (by simp <;> omega) _) | refine Below.drew ?_ | refine bdn ?_ _))
  have HV := hide (P_ValidZoned x _ _ hs hf ((h.below b0).more b0.size))
  have X0 := hide (BoxAt.new w #[.int .i64 x.z, .slice A x.of.length c, .slice A2 x.ch.length c2] 36)
  have z0 : w.heap.size + 1 ≤ (w.alloc (.cells #[.int .i64 x.z, .slice A x.of.length c, .slice A2 x.ch.length c2] 36)).heap.size := by simp
  clear h h1 h2
  cases hv : vZoned x
  · rw [hv] at HV
    have HR := hide (show codeZ x zone tick = 1 by simp [codeZ, hv])
    clear hv
    go_enter Try.func70, Try.ntmps70
    go_wp2_with (go_at_call 29; refine (HV.out).mono ?_; rintro e w1 ⟨rfl, hb1⟩)
    go_ret
    exact ⟨by rw [HR.out]; rfl, b0.trans (hb1.mono b0.size)⟩
  rw [hv] at HV
  have hz := (vZoned_iff hv).1
  obtain ⟨hz1, hz2⟩ := hz
  by_cases g1 : 0 ≤ zone ∧ zone ≤ x.z - 1
  case neg =>
    have g1' : zone < 0 ∨ x.z - 1 < zone := by omega
    have HR := hide (show codeZ x zone tick = 2 by simp only [codeZ, hv, if_true]; exact if_neg (by omega))
    clear hv g1
    go_enter Try.func70, Try.ntmps70
    go_wp2_with (first | (go_at_call 58; first | (refine (within_t _ _ _ _ (by omega)).mono ?_; rintro e w' ⟨rfl, rfl⟩) | (refine (within_f _ _ _ _ (by omega)).mono ?_; rintro e w' ⟨rfl, rfl⟩)) | (go_at_call 29; refine (HV.out).mono ?_; rintro e w1 ⟨rfl, hb1⟩; have kk := (X0.out.below hb1 z0).cell 0; simp only [List.getElem?_cons_succ, List.getElem?_cons_zero] at kk))
    go_ret
    exact ⟨by rw [HR.out]; rfl, b0.trans (hb1.mono b0.size)⟩
  by_cases g2 : 0 ≤ tick ∧ tick ≤ 10000
  case neg =>
    have HT := hide fun W => isTick_any tick W
    rw [show inB 0 10000 tick = false from inB_f (by omega)] at HT
    have HR := hide (show codeZ x zone tick = 2 by simp only [codeZ, hv, if_true]; exact if_neg (by omega))
    obtain ⟨g1a, g1b⟩ := g1
    clear hv g2
    go_enter Try.func70, Try.ntmps70
    go_wp2_with (first | (go_at_call 58; first | (refine (within_t _ _ _ _ (by omega)).mono ?_; rintro e w' ⟨rfl, rfl⟩) | (refine (within_f _ _ _ _ (by omega)).mono ?_; rintro e w' ⟨rfl, rfl⟩)) | (go_at_call 86; refine (HT.out _).mono ?_; rintro e w' ⟨rfl, rfl⟩) | (go_at_call 29; refine (HV.out).mono ?_; rintro e w1 ⟨rfl, hb1⟩; have kk := (X0.out.below hb1 z0).cell 0; simp only [List.getElem?_cons_succ, List.getElem?_cons_zero] at kk))
    go_ret
    exact ⟨by rw [HR.out]; rfl, b0.trans (hb1.mono b0.size)⟩
  have HT := hide fun W => isTick_any tick W
  rw [show inB 0 10000 tick = true from inB_t g2] at HT
  have HR := hide (show codeZ x zone tick = 0 by simp only [codeZ, hv, if_true]; exact if_pos ⟨g1, g2⟩)
  obtain ⟨g1a, g1b⟩ := g1
  clear hv g2
  go_enter Try.func70, Try.ntmps70
  go_wp2_with (first | (go_at_call 58; first | (refine (within_t _ _ _ _ (by omega)).mono ?_; rintro e w' ⟨rfl, rfl⟩) | (refine (within_f _ _ _ _ (by omega)).mono ?_; rintro e w' ⟨rfl, rfl⟩)) | (go_at_call 86; refine (HT.out _).mono ?_; rintro e w' ⟨rfl, rfl⟩) | (go_at_call 29; refine (HV.out).mono ?_; rintro e w1 ⟨rfl, hb1⟩; have kk := (X0.out.below hb1 z0).cell 0; simp only [List.getElem?_cons_succ, List.getElem?_cons_zero] at kk))
  go_ret
  exact ⟨by rw [HR.out]; rfl, b0.trans (hb1.mono b0.size)⟩
end Go.Proofs.Ytckkmgbclefljaa
