/-
  Zones: the level of a zone at a tick; the codes; in the program and in the reference.
  Zones: codes of the reference; the level by contract.
  Zones and the tubes of a way: the codes, and how often a way comes into another zone; in the program and in the reference.
-/
import Derived.Test.YtklfjekpeoigoaaQPressed5
namespace Go.Proofs.Ytklfjekpeoigoaa
open Go.RowKit

/-- The level behind these changes, in the order of the row. -/
def lvlGo (zone tick : Int) : Int → List T3 → Int
  | acc, [] => acc
  | acc, c :: cs => lvlGo zone tick (if c.b = zone ∧ c.a ≤ tick then c.c else acc) cs
def lvl (cs : List T3) (zone tick : Int) : Int := lvlGo zone tick 0 cs
theorem lvlGo_late {zone tick : Int} : ∀ {cs : List T3} {acc : Int}, (∀ c ∈ cs, tick < c.a) → lvlGo zone tick acc cs = acc := by
  intro cs
  induction cs with
  | nil => intro acc _; rfl
  | cons c cs ih =>
    intro acc h
    have h1 := h c (List.mem_cons_self ..)
    rw [lvlGo, if_neg (by omega)]
    exact ih fun d hd => h d (List.mem_cons_of_mem _ hd)
theorem lvlGo_drop {zone tick acc : Int} {cs : List T3} {k : Nat} {c : T3} (h : cs[k]? = some c) : lvlGo zone tick acc (cs.drop k) = lvlGo zone tick (if c.b = zone ∧ c.a ≤ tick then c.c else acc) (cs.drop (k + 1)) := by rw [drop_cons h, lvlGo]
theorem ltC_iff {a b : T3} : ltC a b = true ↔ a.a < b.a ∨ (a.a = b.a ∧ a.b < b.b) := by simp [ltC]
theorem chOk_all {n : Int} : ∀ {cs : List T3} {a : T3}, chOk n (some a) cs = true → ∀ c ∈ cs, ltC a c = true := by
  intro cs
  induction cs with
  | nil => intro a _ c hc; cases hc
  | cons d ds ih =>
    intro a h c hc
    rw [chOk] at h
    simp only [okNext, Bool.and_eq_true] at h
    rcases List.mem_cons.1 hc with rfl | hc
    · exact h.2.1
    · have h1 := ltC_iff.1 h.2.1
      have h2 := ltC_iff.1 (ih h.2.2 c hc)
      rw [ltC_iff]; omega
theorem chOk_drop {n : Int} {cs : List T3} (h : chOk n none cs = true) : ∀ k, k ≤ cs.length → chOk n (prevOf cs k) (cs.drop k) = true := by
  intro k
  induction k with
  | zero => intro _; simpa [prevOf] using h
  | succ k ih =>
    intro hk
    have h1 := ih (by omega)
    obtain ⟨c, hc⟩ : ∃ c, cs[k]? = some c := ⟨_, List.getElem?_eq_getElem (by omega)⟩
    rw [chOk_step hc] at h1
    simp only [Bool.and_eq_true] at h1
    exact h1.2.2
theorem chOk_at {n : Int} {cs : List T3} (h : chOk n none cs = true) {k : Nat} {c : T3} (hc : cs[k]? = some c) : okC n c = true ∧ ∀ d ∈ cs.drop (k + 1), ltC c d = true := by
  have h1 := chOk_drop h k (by have := lt_of_get hc; omega)
  rw [chOk_step hc] at h1
  simp only [Bool.and_eq_true] at h1
  refine ⟨h1.1, ?_⟩
  have h2 := h1.2.2
  have : prevOf cs (k + 1) = some c := hc
  rw [this] at h2
  exact chOk_all h2
theorem vZoned_iff {x : TZ} (h : vZoned x = true) : (1 ≤ x.z ∧ x.z ≤ 8) ∧ x.of.length ≤ 24 ∧ x.ch.length ≤ 60 ∧ (∀ z ∈ x.of, 0 ≤ z ∧ z ≤ x.z - 1) ∧ chOk x.z none x.ch = true := by
  unfold vZoned at h
  simp only [Bool.and_eq_true, inB_iff, decide_eq_true_eq, List.all_eq_true] at h
  exact ⟨h.1, h.2.1, h.2.2.1, h.2.2.2.1, h.2.2.2.2⟩

set_option maxRecDepth 100000 in
set_option maxHeartbeats 4000000 in
theorem levelAt_any (x : TZ) (v : Value) (zone tick : Int) (w : World) (hs : Small_Zoned x) (h : R_Zoned w w.heap.size v x) :
    Calls Try.prog 222 #[v, .int .i64 zone, .int .i64 tick] w fun e w' => e = .returned (.int .i64 (lvl x.ch zone tick)) ∧ Below w.heap.size w w' := by
  obtain ⟨A, c, A2, c2, rfl, h1, h2⟩ := h
  obtain ⟨hs1, hs2⟩ := hs
  have HM := hide h2
  clear h1 h2
  have b0 : Below w.heap.size w (w.alloc (.cells #[.int .i64 x.z, .slice A x.of.length c, .slice A2 x.ch.length c2] 114)) := (by repeat (first | exact Below.refl _ _ | assumption | (refine Below.alloc ?_ (by simp <;> omega) _) | refine Below.drew ?_ | refine bdn ?_ _))
  go_enter Try.func222, Try.ntmps222
  go_wp2_with fail
  go_loopg [7, 13] x.ch.length (fun g l i wr => ∃ (k : Nat) (acc : Int), k ≤ x.ch.length ∧ Hid (g = x.ch.length - k) ∧ i = .int .i64 k ∧ l = .int .i64 acc ∧ Hid (lvl x.ch zone tick = lvlGo zone tick acc (x.ch.drop k)) ∧ Below w.heap.size w wr)
  case atStart => exact ⟨0, 0, by omega, by simp [Hid], rfl, rfl, by simp [Hid, lvl], b0⟩
  case round =>
    obtain ⟨k, acc, hk, hg, rfl, rfl, HS, hb⟩ := hrel
    have hsz := hb.size
    clear b0
    by_cases hlt : k < x.ch.length
    · obtain ⟨b1, o1, z1, rfl, hb1, hz1, hca, hcb, hcc⟩ := (HM.out.below hb).at_ hlt
      have HS' := HS.out; rw [lvlGo_drop hz1] at HS'
      clear hz1
      by_cases hzo : z1.b = zone
      · by_cases hti : z1.a ≤ tick
        · have HQ := hide (HS'.trans (by rw [if_pos ⟨hzo, hti⟩])); clear HS' HS
          go_wp2_with fail
          go_roundg (x.ch.length - (k + 1))
          case measure => have := hg.out; omega
          case rel => exact ⟨k + 1, z1.c, by omega, rfl, by go_num, rfl, HQ, hb.alloc hsz _⟩
        · have HQ := hide (HS'.trans (by rw [if_neg (fun h => hti h.2)])); clear HS' HS
          have htf : decide (z1.a ≤ tick) = false := decide_eq_false hti
          go_wp2_with fail
          go_roundg (x.ch.length - (k + 1))
          case measure => have := hg.out; omega
          case rel => exact ⟨k + 1, acc, by omega, rfl, by go_num, rfl, HQ, hb.alloc hsz _⟩
      · have HQ := hide (HS'.trans (by rw [if_neg (fun h => hzo h.1)])); clear HS' HS
        have hzf : decide (z1.b = zone) = false := decide_eq_false hzo
        go_wp2_with fail
        go_roundg (x.ch.length - (k + 1))
        case measure => have := hg.out; omega
        case rel => exact ⟨k + 1, acc, by omega, rfl, by go_num, rfl, HQ, hb.alloc hsz _⟩
    · have HQ := hide (HS.out.trans (by rw [List.drop_eq_nil_of_le (by omega), lvlGo]))
      go_wp2_with fail
      go_ret
      exact ⟨by rw [HQ.out]; rfl, hb⟩
set_option maxRecDepth 100000 in
set_option maxHeartbeats 4000000 in
theorem l09Level_any (x : TZ) (A2 : Option Addr) (c2 : Nat) (b : Nat) (zone tick : Int) (w : World) (hv : vZoned x = true) (k3 : w.cell? ⟨b, 2, none⟩ = some (.slice A2 x.ch.length c2)) (h2 : Rd3 w w.heap.size A2 x.ch) :
    Calls Try.prog 225 #[.pointer (some ⟨b, 0, none⟩), .int .i64 zone, .int .i64 tick] w fun e w' => e = .returned (.int .i64 (lvl x.ch zone tick)) ∧ w = w' := by
  obtain ⟨_, _, hs2, _, hch⟩ := vZoned_iff hv
  have HM := hide h2
  have HC := hide hch
  clear h2 hv hch
  go_enter Try.func225, Try.ntmps225
  go_wp2_with fail
  go_loopg [7, 8] x.ch.length (fun g l i wr => ∃ (k : Nat) (acc : Int), k ≤ x.ch.length ∧ Hid (g = x.ch.length - k) ∧ i = .int .i64 k ∧ l = .int .i64 acc ∧ Hid (lvl x.ch zone tick = lvlGo zone tick acc (x.ch.drop k)) ∧ w = wr)
  case atStart => exact ⟨0, 0, by omega, by simp [Hid], rfl, rfl, by simp [Hid, lvl], rfl⟩
  case round =>
    obtain ⟨k, acc, hk, hg, rfl, rfl, HS, rfl⟩ := hrel
    by_cases hlt : k < x.ch.length
    · obtain ⟨b1, o1, z1, rfl, hb1, hz1, hca, hcb, hcc⟩ := HM.out.at_ hlt
      have HS' := HS.out; rw [lvlGo_drop hz1] at HS'
      have HL := hide (chOk_at HC.out hz1).2
      clear hz1
      by_cases hti : z1.a ≤ tick
      · by_cases hzo : z1.b = zone
        · have HQ := hide (HS'.trans (by rw [if_pos ⟨hzo, hti⟩])); clear HS' HS
          go_wp2_with fail
          go_roundg (x.ch.length - (k + 1))
          case measure => have := hg.out; omega
          case rel => exact ⟨k + 1, z1.c, by omega, rfl, by go_num, rfl, HQ, rfl⟩
        · have HQ := hide (HS'.trans (by rw [if_neg (fun h => hzo h.1)])); clear HS' HS
          go_wp2_with fail
          go_roundg (x.ch.length - (k + 1))
          case measure => have := hg.out; omega
          case rel => exact ⟨k + 1, acc, by omega, rfl, by go_num, rfl, HQ, rfl⟩
      · have HQ := hide (HS'.trans (show lvlGo zone tick (if z1.b = zone ∧ z1.a ≤ tick then z1.c else acc) (x.ch.drop (k + 1)) = acc by rw [if_neg (fun h => hti h.2)]; exact lvlGo_late fun d hd => by have := ltC_iff.1 (HL.out d hd); omega)); clear HS' HS
        go_wp2_with fail
        go_ret
        exact ⟨by rw [HQ.out]; rfl, rfl⟩
    · have HQ := hide (HS.out.trans (by rw [List.drop_eq_nil_of_le (by omega), lvlGo]))
      go_wp2_with fail
      go_ret
      exact ⟨by rw [HQ.out]; rfl, rfl⟩

def codeZ (x : TZ) (zone tick : Int) : Int := if vZoned x = true then (if (0 ≤ zone ∧ zone ≤ x.z - 1) ∧ (0 ≤ tick ∧ tick ≤ 10000) then 0 else 2) else 1
set_option maxRecDepth 100000 in
theorem isTick_any (n : Int) (w : World) : Calls Try.prog 268 #[.int .i64 n] w fun e w' => e = .returned (.bool (inB 0 10000 n)) ∧ w = w' := by
  go_enter Try.func268, Try.ntmps268
  go_wp2_with (go_at_call 186; refine (within_any _ _ _ _).mono ?_; rintro e w' ⟨rfl, rfl⟩)
  go_ret
  exact ⟨rfl, rfl⟩
set_option maxRecDepth 100000 in
theorem l09Tick_any (n : Int) (w : World) : Calls Try.prog 231 #[.int .i64 n] w fun e w' => e = .returned (.bool (inB 0 10000 n)) ∧ w = w' := by
  go_enter Try.func231, Try.ntmps231
  go_wp2_with (go_at_call 148; refine (l00In_any _ _ _ _).mono ?_; rintro e w' ⟨rfl, rfl⟩)
  go_ret
  exact ⟨rfl, rfl⟩
set_option maxRecDepth 100000 in
set_option maxHeartbeats 4000000 in
theorem zoneCode_any (x : TZ) (v : Value) (zone tick : Int) (w : World) (hs : Small_Zoned x) (hf : Fit_Zoned x) (h : R_Zoned w w.heap.size v x) :
    Calls Try.prog 220 #[v, .int .i64 zone, .int .i64 tick] w fun e w' => e = .returned (.int .i64 (codeZ x zone tick)) ∧ Below w.heap.size w w' := by
  have h0 := h
  obtain ⟨A, c, A2, c2, rfl, h1, h2⟩ := h0
  have b0 : Below w.heap.size w (w.alloc (.cells #[.int .i64 x.z, .slice A x.of.length c, .slice A2 x.ch.length c2] 114)) := (by repeat (first | exact Below.refl _ _ | assumption | (refine Below.alloc ?_ (by simp <;> omega) _) | refine Below.drew ?_ | refine bdn ?_ _))
  have HV := hide (P_ValidZoned x _ _ hs hf ((h.below b0).more b0.size))
  have X0 := hide (BoxAt.new w #[.int .i64 x.z, .slice A x.of.length c, .slice A2 x.ch.length c2] 114)
  have z0 : w.heap.size + 1 ≤ (w.alloc (.cells #[.int .i64 x.z, .slice A x.of.length c, .slice A2 x.ch.length c2] 114)).heap.size := by simp
  clear h h1 h2
  cases hv : vZoned x
  · rw [hv] at HV
    have HR := hide (show codeZ x zone tick = 1 by simp [codeZ, hv])
    clear hv
    go_enter Try.func220, Try.ntmps220
    go_wp2_with (go_at_call 206; refine (HV.out).mono ?_; rintro e w1 ⟨rfl, hb1⟩)
    go_ret
    exact ⟨by rw [HR.out]; rfl, b0.trans (hb1.mono b0.size)⟩
  rw [hv] at HV
  have hz := (vZoned_iff hv).1
  obtain ⟨hz1, hz2⟩ := hz
  by_cases g1 : 0 ≤ zone ∧ zone ≤ x.z - 1
  case neg =>
    have g1' : zone < 0 ∨ x.z - 1 < zone := by omega
    have HR := hide (show codeZ x zone tick = 2 by simp only [codeZ, hv, if_true]; exact if_neg (by omega))
    clear hv g1
    go_enter Try.func220, Try.ntmps220
    go_wp2_with (first | (go_at_call 186; first | (refine (within_t _ _ _ _ (by omega)).mono ?_; rintro e w' ⟨rfl, rfl⟩) | (refine (within_f _ _ _ _ (by omega)).mono ?_; rintro e w' ⟨rfl, rfl⟩)) | (go_at_call 206; refine (HV.out).mono ?_; rintro e w1 ⟨rfl, hb1⟩; have kk := (X0.out.below hb1 z0).cell 0; simp only [List.getElem?_cons_succ, List.getElem?_cons_zero] at kk))
    go_ret
    exact ⟨by rw [HR.out]; rfl, b0.trans (hb1.mono b0.size)⟩
  by_cases g2 : 0 ≤ tick ∧ tick ≤ 10000
  case neg =>
    have HT := hide fun W => isTick_any tick W
    rw [show inB 0 10000 tick = false from inB_f (by omega)] at HT
    have HR := hide (show codeZ x zone tick = 2 by simp only [codeZ, hv, if_true]; exact if_neg (by omega))
    obtain ⟨g1a, g1b⟩ := g1
    clear hv g2
    go_enter Try.func220, Try.ntmps220
    go_wp2_with (first | (go_at_call 186; first | (refine (within_t _ _ _ _ (by omega)).mono ?_; rintro e w' ⟨rfl, rfl⟩) | (refine (within_f _ _ _ _ (by omega)).mono ?_; rintro e w' ⟨rfl, rfl⟩)) | (go_at_call 268; refine (HT.out _).mono ?_; rintro e w' ⟨rfl, rfl⟩) | (go_at_call 206; refine (HV.out).mono ?_; rintro e w1 ⟨rfl, hb1⟩; have kk := (X0.out.below hb1 z0).cell 0; simp only [List.getElem?_cons_succ, List.getElem?_cons_zero] at kk))
    go_ret
    exact ⟨by rw [HR.out]; rfl, b0.trans (hb1.mono b0.size)⟩
  have HT := hide fun W => isTick_any tick W
  rw [show inB 0 10000 tick = true from inB_t g2] at HT
  have HR := hide (show codeZ x zone tick = 0 by simp only [codeZ, hv, if_true]; exact if_pos ⟨g1, g2⟩)
  obtain ⟨g1a, g1b⟩ := g1
  clear hv g2
  go_enter Try.func220, Try.ntmps220
  go_wp2_with (first | (go_at_call 186; first | (refine (within_t _ _ _ _ (by omega)).mono ?_; rintro e w' ⟨rfl, rfl⟩) | (refine (within_f _ _ _ _ (by omega)).mono ?_; rintro e w' ⟨rfl, rfl⟩)) | (go_at_call 268; refine (HT.out _).mono ?_; rintro e w' ⟨rfl, rfl⟩) | (go_at_call 206; refine (HV.out).mono ?_; rintro e w1 ⟨rfl, hb1⟩; have kk := (X0.out.below hb1 z0).cell 0; simp only [List.getElem?_cons_succ, List.getElem?_cons_zero] at kk))
  go_ret
  exact ⟨by rw [HR.out]; rfl, b0.trans (hb1.mono b0.size)⟩
end Go.Proofs.Ytklfjekpeoigoaa
namespace Go.Proofs.Ytklfjekpeoigoaa
open Go.RowKit

set_option maxRecDepth 100000 in
set_option maxHeartbeats 4000000 in
theorem l09Code_any (x : TZ) (A : Option Addr) (c : Nat) (A2 : Option Addr) (c2 : Nat) (b : Nat) (zone tick : Int) (w : World) (hs : Small_Zoned x) (c0 : w.cell? ⟨b, 0, none⟩ = some (.int .i64 x.z)) (c1 : w.cell? ⟨b, 1, none⟩ = some (.slice A x.of.length c)) (c3 : w.cell? ⟨b, 2, none⟩ = some (.slice A2 x.ch.length c2))
    (h1 : RdI w w.heap.size A x.of) (h2 : Rd3 w w.heap.size A2 x.ch) :
    Calls Try.prog 223 #[.pointer (some ⟨b, 0, none⟩), .int .i64 zone, .int .i64 tick] w fun e w' => e = .returned (.int .i64 (codeZ x zone tick)) ∧ Below w.heap.size w w' := by
  have HV := hide (l09Ok_any x A c A2 c2 b w hs c0 c1 c3 h1 h2)
  have hbl := World.block_lt_of_cell? w _ c0
  have C0 := hide c0
  clear h1 h2 c0 c1 c3
  cases hv : vZoned x
  · rw [hv] at HV
    have HR := hide (show codeZ x zone tick = 1 by simp [codeZ, hv])
    clear hv
    go_enter Try.func223, Try.ntmps223
    go_wp2_with (go_at_call 202; refine (HV.out).mono ?_; rintro e w1 ⟨rfl, hb1⟩)
    go_ret
    exact ⟨by rw [HR.out]; rfl, hb1⟩
  rw [hv] at HV
  have hz := (vZoned_iff hv).1
  obtain ⟨hz1, hz2⟩ := hz
  by_cases g1 : 0 ≤ zone ∧ zone ≤ x.z - 1
  case neg =>
    have g1' : zone < 0 ∨ x.z - 1 < zone := by omega
    have HR := hide (show codeZ x zone tick = 2 by simp only [codeZ, hv, if_true]; exact if_neg (by omega))
    clear hv g1
    go_enter Try.func223, Try.ntmps223
    go_wp2_with (first | (go_at_call 148; first | (refine (l00In_t _ _ _ _ (by omega)).mono ?_; rintro e w' ⟨rfl, rfl⟩) | (refine (l00In_f _ _ _ _ (by omega)).mono ?_; rintro e w' ⟨rfl, rfl⟩)) | (go_at_call 202; refine (HV.out).mono ?_; rintro e w1 ⟨rfl, hb1⟩; have kk := (hb1.cell (p := ⟨b, 0, none⟩) hbl).trans C0.out))
    go_ret
    exact ⟨by rw [HR.out]; rfl, hb1⟩
  by_cases g2 : 0 ≤ tick ∧ tick ≤ 10000
  case neg =>
    have HT := hide fun W => l09Tick_any tick W
    rw [show inB 0 10000 tick = false from inB_f (by omega)] at HT
    have HR := hide (show codeZ x zone tick = 2 by simp only [codeZ, hv, if_true]; exact if_neg (by omega))
    obtain ⟨g1a, g1b⟩ := g1
    clear hv g2
    go_enter Try.func223, Try.ntmps223
    go_wp2_with (first | (go_at_call 148; first | (refine (l00In_t _ _ _ _ (by omega)).mono ?_; rintro e w' ⟨rfl, rfl⟩) | (refine (l00In_f _ _ _ _ (by omega)).mono ?_; rintro e w' ⟨rfl, rfl⟩)) | (go_at_call 231; refine (HT.out _).mono ?_; rintro e w' ⟨rfl, rfl⟩) | (go_at_call 202; refine (HV.out).mono ?_; rintro e w1 ⟨rfl, hb1⟩; have kk := (hb1.cell (p := ⟨b, 0, none⟩) hbl).trans C0.out))
    go_ret
    exact ⟨by rw [HR.out]; rfl, hb1⟩
  have HT := hide fun W => l09Tick_any tick W
  rw [show inB 0 10000 tick = true from inB_t g2] at HT
  have HR := hide (show codeZ x zone tick = 0 by simp only [codeZ, hv, if_true]; exact if_pos ⟨g1, g2⟩)
  obtain ⟨g1a, g1b⟩ := g1
  clear hv g2
  go_enter Try.func223, Try.ntmps223
  go_wp2_with (first | (go_at_call 148; first | (refine (l00In_t _ _ _ _ (by omega)).mono ?_; rintro e w' ⟨rfl, rfl⟩) | (refine (l00In_f _ _ _ _ (by omega)).mono ?_; rintro e w' ⟨rfl, rfl⟩)) | (go_at_call 231; refine (HT.out _).mono ?_; rintro e w' ⟨rfl, rfl⟩) | (go_at_call 202; refine (HV.out).mono ?_; rintro e w1 ⟨rfl, hb1⟩; have kk := (hb1.cell (p := ⟨b, 0, none⟩) hbl).trans C0.out))
  go_ret
  exact ⟨by rw [HR.out]; rfl, hb1⟩
theorem codeZ_ok {x : TZ} {zone tick : Int} (h : codeZ x zone tick = 0) : vZoned x = true ∧ (0 ≤ zone ∧ zone ≤ x.z - 1) ∧ (0 ≤ tick ∧ tick ≤ 10000) := by
  unfold codeZ at h
  split at h
  · split at h
    · rename_i h1 h2; exact ⟨h1, h2⟩
    · omega
  · omega
def levelAt (x : TZ) (zone tick : Int) : Int × Int := if codeZ x zone tick = 0 then (lvl x.ch zone tick, 0) else (0, codeZ x zone tick)
end Go.Proofs.Ytklfjekpeoigoaa
namespace Go.Proofs.Ytklfjekpeoigoaa
open Go.RowKit

def wayIn (x : TZ) (way : List Int) : Bool := way.all (inB 0 ((x.of.length : Int) - 1))
def codeW (x : TZ) (way : List Int) : Int := if vZoned x = true then (if wayIn x way = true ∧ way.length ≤ 24 then 0 else 2) else 1
def codeWT (x : TZ) (way : List Int) (tick : Int) : Int := if codeW x way = 0 then (if 0 ≤ tick ∧ tick ≤ 10000 then 0 else 2) else codeW x way
theorem codeW_ok {x : TZ} {way : List Int} (h : codeW x way = 0) : vZoned x = true ∧ way.length ≤ 24 ∧ ∀ z ∈ way, 0 ≤ z ∧ z ≤ (x.of.length : Int) - 1 := by
  unfold codeW at h
  split at h
  · split at h
    · rename_i h1 h2
      refine ⟨h1, h2.2, fun z hz => ?_⟩
      have := List.all_eq_true.1 h2.1 z hz
      exact inB_iff.1 this
    · omega
  · omega
set_option maxRecDepth 100000 in
set_option maxHeartbeats 4000000 in
theorem l09Way_any (x : TZ) (way : List Int) (A : Option Addr) (c : Nat) (A2 : Option Addr) (c2 : Nat) (A3 : Option Addr) (c3 : Nat) (b : Nat) (w : World) (hs : Small_Zoned x) (hwl : way.length ≤ 1048576) (c0 : w.cell? ⟨b, 0, none⟩ = some (.int .i64 x.z)) (c1 : w.cell? ⟨b, 1, none⟩ = some (.slice A x.of.length c)) (cc : w.cell? ⟨b, 2, none⟩ = some (.slice A2 x.ch.length c2))
    (h1 : RdI w w.heap.size A x.of) (h2 : Rd3 w w.heap.size A2 x.ch) (h3 : RdI w w.heap.size A3 way) :
    Calls Try.prog 230 #[.pointer (some ⟨b, 0, none⟩), .slice A3 way.length c3] w fun e w' => e = .returned (.int .i64 (codeW x way)) ∧ Below w.heap.size w w' := by
  have HV := hide (l09Ok_any x A c A2 c2 b w hs c0 c1 cc h1 h2)
  have hbl := World.block_lt_of_cell? w _ c0
  have C1 := hide c1
  have HX := hide h3
  clear h1 h2 h3 c0 c1 cc
  cases hv : vZoned x
  · rw [hv] at HV
    have HR := hide (show codeW x way = 1 by simp [codeW, hv])
    clear hv
    go_enter Try.func230, Try.ntmps230
    go_wp2_with (go_at_call 202; refine (HV.out).mono ?_; rintro e w1 ⟨rfl, hb1⟩)
    go_ret
    exact ⟨by rw [HR.out]; rfl, hb1⟩
  rw [hv] at HV
  have hof := (vZoned_iff hv).2.1
  have HW := hide (show codeW x way = if way.all (inB 0 ((x.of.length : Int) - 1)) = true ∧ way.length ≤ 24 then 0 else 2 by simp only [codeW, hv, if_true]; rfl)
  clear hv
  go_enter Try.func230, Try.ntmps230
  go_wp2_with (go_at_call 202; refine (HV.out).mono ?_; rintro e w1 ⟨rfl, hb1⟩)
  go_loopg [5] way.length (fun g i wr => ∃ k : Nat, k ≤ way.length ∧ Hid (g = way.length - k) ∧ i = .int .i64 k ∧ Hid (way.all (inB 0 ((x.of.length : Int) - 1)) = (way.drop k).all (inB 0 ((x.of.length : Int) - 1))) ∧ Below w.heap.size w wr)
  case atStart => exact ⟨0, by omega, by simp [Hid], rfl, by simp [Hid], hb1⟩
  case round =>
    obtain ⟨k, hk, hg, rfl, HS, hb⟩ := hrel
    clear hb1
    have k1 := (hb.cell (p := ⟨b, 1, none⟩) hbl).trans C1.out
    by_cases hlt : k < way.length
    · obtain ⟨b1, o1, z1, rfl, _, hz1, hca⟩ := (HX.out.below hb).at_ hlt
      have HS' := HS.out; rw [all_drop _ _ _ _ hz1] at HS'
      have HQ := hide HS'; clear HS' hz1
      have hwr : IntKind.i64.wrap ((x.of.length : Int) - 1) = (x.of.length : Int) - 1 := by rw [IntKind.wrap_i64] <;> omega
      by_cases hz : 0 ≤ z1 ∧ z1 ≤ (x.of.length : Int) - 1
      · have HB := hide (inB_t hz)
        obtain ⟨hz0, hz9⟩ := hz
        go_wp2_with fail
        go_quiet ((go_at_call 148; first | exact ql (l00In_t _ _ _ _ (by omega)) | exact ql (l00In_f _ _ _ _ (by omega)) | exact qla (l00In_t _ _ _ _ (by omega)) | exact qla (l00In_f _ _ _ _ (by omega))))
        go_wp2_with fail
        go_roundg (way.length - (k + 1))
        case measure => have := hg.out; omega
        case rel => exact ⟨k + 1, by omega, rfl, by go_num, hide (by have := HQ.out; rw [HB.out] at this; simpa using this), bdn hb _⟩
      · have hz' : z1 < 0 ∨ (x.of.length : Int) - 1 < z1 := by omega
        have HB := hide (inB_f hz')
        clear hz
        go_wp2_with fail
        go_quiet ((go_at_call 148; first | exact ql (l00In_t _ _ _ _ (by omega)) | exact ql (l00In_f _ _ _ _ (by omega)) | exact qla (l00In_t _ _ _ _ (by omega)) | exact qla (l00In_f _ _ _ _ (by omega))))
        go_wp2_with fail
        go_ret
        exact ⟨by rw [HW.out, HQ.out, HB.out]; rfl, bdn hb _⟩
    · have HA : Hid (way.all (inB 0 ((x.of.length : Int) - 1)) = true) := by
        have := HS.out; rw [List.drop_eq_nil_of_le (by omega)] at this; exact this
      by_cases h24 : way.length ≤ 24
      · have HQ := hide (show codeW x way = 0 by rw [HW.out]; exact if_pos ⟨HA.out, h24⟩)
        go_wp2_with fail
        go_ret
        exact ⟨by rw [HQ.out]; rfl, hb⟩
      · have HQ := hide (show codeW x way = 2 by rw [HW.out]; exact if_neg (fun h => h24 h.2))
        go_wp2_with fail
        go_ret
        exact ⟨by rw [HQ.out]; rfl, hb⟩
set_option maxRecDepth 100000 in
set_option maxHeartbeats 4000000 in
theorem zonedCode_any (x : TZ) (v : Value) (way : List Int) (A3 : Option Addr) (c3 : Nat) (tick : Int) (w : World) (hs : Small_Zoned x) (hf : Fit_Zoned x) (h : R_Zoned w w.heap.size v x) (hwl : way.length ≤ 1048576) (h3 : RdI w w.heap.size A3 way) :
    Calls Try.prog 227 #[v, .slice A3 way.length c3, .int .i64 tick] w fun e w' => e = .returned (.int .i64 (codeWT x way tick)) ∧ Below w.heap.size w w' := by
  have h0 := h
  obtain ⟨A, c, A2, c2, rfl, h1, h2⟩ := h0
  have b0 : Below w.heap.size w (w.alloc (.cells #[.int .i64 x.z, .slice A x.of.length c, .slice A2 x.ch.length c2] 114)) := (by repeat (first | exact Below.refl _ _ | assumption | (refine Below.alloc ?_ (by simp <;> omega) _) | refine Below.drew ?_ | refine bdn ?_ _))
  have HV := hide (P_ValidZoned x _ _ hs hf ((h.below b0).more b0.size))
  have X0 := hide (BoxAt.new w #[.int .i64 x.z, .slice A x.of.length c, .slice A2 x.ch.length c2] 114)
  have z0 : w.heap.size + 1 ≤ (w.alloc (.cells #[.int .i64 x.z, .slice A x.of.length c, .slice A2 x.ch.length c2] 114)).heap.size := by simp
  have HO := hide fun W (hW : Below w.heap.size w W) => outside_any way 0 ((x.of.length : Int) - 1) A3 c3 W (by omega) ((h3.below hW).more hW.size)
  rw [any_not_all] at HO
  clear h h1 h2 h3
  cases hv : vZoned x
  · rw [hv] at HV
    have HR := hide (show codeWT x way tick = 1 by simp [codeWT, codeW, hv])
    clear hv
    go_enter Try.func227, Try.ntmps227
    go_wp2_with (go_at_call 206; refine (HV.out).mono ?_; rintro e w1 ⟨rfl, hb1⟩)
    go_ret
    exact ⟨by rw [HR.out]; rfl, b0.trans (hb1.mono b0.size)⟩
  rw [hv] at HV
  have hof := (vZoned_iff hv).2.1
  have hwr : IntKind.i64.wrap ((x.of.length : Int) - 1) = (x.of.length : Int) - 1 := by rw [IntKind.wrap_i64] <;> omega
  by_cases h24 : way.length ≤ 24
  case neg =>
    have HR := hide (show codeWT x way tick = 2 by simp [codeWT, codeW, hv, h24])
    clear hv
    go_enter Try.func227, Try.ntmps227
    go_wp2_with (go_at_call 206; refine (HV.out).mono ?_; rintro e w1 ⟨rfl, hb1⟩)
    go_ret
    exact ⟨by rw [HR.out]; rfl, b0.trans (hb1.mono b0.size)⟩
  cases hw : way.all (inB 0 ((x.of.length : Int) - 1))
  · rw [hw] at HO
    have HR := hide (show codeWT x way tick = 2 by simp [codeWT, codeW, wayIn, hv, hw])
    clear hv hw
    go_enter Try.func227, Try.ntmps227
    go_wp2_with (first | (go_at_call 147; refine (HO.out _ hb2).mono ?_; rintro e w2 ⟨rfl, hb3⟩) | (go_at_call 206; refine (HV.out).mono ?_; rintro e w1 ⟨rfl, hb1⟩; have hb2 := b0.trans (hb1.mono b0.size); have kk := (X0.out.below hb1 z0).cell 1; simp only [List.getElem?_cons_succ, List.getElem?_cons_zero] at kk))
    go_ret
    exact ⟨by rw [HR.out]; rfl, hb2.trans (hb3.mono hb2.size)⟩
  rw [hw] at HO
  have HT := hide fun W => isTick_any tick W
  have hcw : codeW x way = 0 := by simp [codeW, wayIn, hv, hw, h24]
  by_cases g2 : 0 ≤ tick ∧ tick ≤ 10000
  · rw [inB_t g2] at HT
    have HR := hide (show codeWT x way tick = 0 by simp only [codeWT, hcw, if_true]; exact if_pos g2)
    clear hv hw g2 hcw
    go_enter Try.func227, Try.ntmps227
    go_wp2_with (first | (go_at_call 268; refine (HT.out _).mono ?_; rintro e w' ⟨rfl, rfl⟩) | (go_at_call 147; refine (HO.out _ hb2).mono ?_; rintro e w2 ⟨rfl, hb3⟩) | (go_at_call 206; refine (HV.out).mono ?_; rintro e w1 ⟨rfl, hb1⟩; have hb2 := b0.trans (hb1.mono b0.size); have kk := (X0.out.below hb1 z0).cell 1; simp only [List.getElem?_cons_succ, List.getElem?_cons_zero] at kk))
    go_ret
    exact ⟨by rw [HR.out]; rfl, hb2.trans (hb3.mono hb2.size)⟩
  · rw [show inB 0 10000 tick = false from inB_f (by omega)] at HT
    have HR := hide (show codeWT x way tick = 2 by simp only [codeWT, hcw, if_true]; exact if_neg g2)
    clear hv hw g2 hcw
    go_enter Try.func227, Try.ntmps227
    go_wp2_with (first | (go_at_call 268; refine (HT.out _).mono ?_; rintro e w' ⟨rfl, rfl⟩) | (go_at_call 147; refine (HO.out _ hb2).mono ?_; rintro e w2 ⟨rfl, hb3⟩) | (go_at_call 206; refine (HV.out).mono ?_; rintro e w1 ⟨rfl, hb1⟩; have hb2 := b0.trans (hb1.mono b0.size); have kk := (X0.out.below hb1 z0).cell 1; simp only [List.getElem?_cons_succ, List.getElem?_cons_zero] at kk))
    go_ret
    exact ⟨by rw [HR.out]; rfl, hb2.trans (hb3.mono hb2.size)⟩
/-- How often neighbours of a way lie in different zones. -/
def atD (of : List Int) (a : Int) : Int := (of[a.toNat]?).getD 0
def crossGo (of : List Int) : List Int → Int
  | [] => 0
  | a :: r => (match r with | [] => 0 | b :: _ => if atD of a = atD of b then 0 else 1) + crossGo of r
theorem crossGo_two (of : List Int) (a b : Int) (r : List Int) : crossGo of (a :: b :: r) = (if atD of a = atD of b then 0 else 1) + crossGo of (b :: r) := rfl
theorem crossGo_short (of : List Int) {xs : List Int} (h : xs.length ≤ 1) : crossGo of xs = 0 := by
  match xs, h with
  | [], _ => rfl
  | [a], _ => rfl
def zonesCrossed (x : TZ) (way : List Int) : Int × Int := if codeW x way = 0 then (crossGo x.of way, 0) else (0, codeW x way)
set_option maxRecDepth 100000 in
set_option maxHeartbeats 4000000 in
theorem S_ZonesCrossed (x : TZ) (v : Value) (way : List Int) (u : Value) (w : World) (hs : Small_Zoned x) (hf : Fit_Zoned x) (h : R_Zoned w w.heap.size v x) (hwl : way.length ≤ 1048576) (_ : ∀ z ∈ way, -9223372036854775808 ≤ z ∧ z ≤ 9223372036854775807) (k : R_Int64S w w.heap.size u way) :
    Calls Try.prog 115 #[v, u] w fun e w' => e = .returned (.tuple #[.int .i64 (zonesCrossed x way).1, .int .i64 (zonesCrossed x way).2]) ∧ Below w.heap.size w w' := by
  have h0 := h
  obtain ⟨A, c, A2, c2, rfl, h1, h2⟩ := h0
  obtain ⟨A3, c3, rfl, h3⟩ := k
  have b0 : Below w.heap.size w (w.alloc (.cells #[.int .i64 x.z, .slice A x.of.length c, .slice A2 x.ch.length c2] 114)) := (by repeat (first | exact Below.refl _ _ | assumption | (refine Below.alloc ?_ (by simp <;> omega) _) | refine Below.drew ?_ | refine bdn ?_ _))
  have HC := hide (l09Way_any x way A c A2 c2 A3 c3 w.heap.size (w.alloc (.cells #[.int .i64 x.z, .slice A x.of.length c, .slice A2 x.ch.length c2] 114)) hs hwl (by simp [go_sem]) (by simp [go_sem]) (by simp [go_sem]) ((h1.below b0).more b0.size) ((h2.below b0).more b0.size) ((h3.below b0).more b0.size))
  have z0 : w.heap.size + 1 ≤ (w.alloc (.cells #[.int .i64 x.z, .slice A x.of.length c, .slice A2 x.ch.length c2] 114)).heap.size := by simp
  have X0 := hide (BoxAt.new w #[.int .i64 x.z, .slice A x.of.length c, .slice A2 x.ch.length c2] 114)
  have HX := hide h1
  have HY := hide h3
  clear h h1 h2 h3
  by_cases hc : codeW x way = 0
  case neg =>
    have HR := hide (show zonesCrossed x way = (0, codeW x way) by simp [zonesCrossed, hc])
    have hne : (codeW x way != 0) = true := by simp [hc]
    generalize codeW x way = cd at *
    go_enter Try.func115, Try.ntmps115
    go_wp2_with (go_at_call 230; refine (HC.out).mono ?_; rintro e w1 ⟨rfl, hb1⟩)
    go_ret2
    exact ⟨by rw [HR.out]; rfl, b0.trans (hb1.mono b0.size)⟩
  obtain ⟨hv, hw24, hin⟩ := codeW_ok hc
  have hof := (vZoned_iff hv).2.1
  have HN := hide hin
  have HR := hide (show zonesCrossed x way = (crossGo x.of way, 0) by simp [zonesCrossed, hc])
  rw [hc] at HC
  clear hc hv hin
  go_enter Try.func115, Try.ntmps115
  go_wp2_with (go_at_call 230; refine (HC.out).mono ?_; rintro e w1 ⟨rfl, hb1⟩)
  have hb2 : Below (w.heap.size + 1) (w.alloc (.cells #[.int .i64 x.z, .slice A x.of.length c, .slice A2 x.ch.length c2] 114)) w1 := hb1.mono z0
  go_loopg [7, 8] (way.length) (fun g s i wr => ∃ (j : Nat) (acc : Int), j ≤ way.length ∧ Hid (g = way.length - j) ∧ i = .int .i64 ((j : Int) + 1) ∧ s = .int .i64 acc ∧ 0 ≤ acc ∧ acc ≤ j ∧
    Hid (crossGo x.of way = acc + crossGo x.of (way.drop j)) ∧ Below (w.heap.size + 1) (w.alloc (.cells #[.int .i64 x.z, .slice A x.of.length c, .slice A2 x.ch.length c2] 114)) wr)
  case atStart => exact ⟨0, 0, by omega, by simp [Hid], by simp, rfl, by omega, by omega, by simp [Hid], hb2⟩
  case round =>
    obtain ⟨j, acc, hj, hg, rfl, rfl, ha0, ha1, HS, hb⟩ := hrel
    clear hb2 hb1
    have X1 := X0.out.below hb (by omega)
    have k1 := X1.cell 1
    simp only [List.getElem?_cons_succ, List.getElem?_cons_zero] at k1
    have bw : Below w.heap.size w wr := b0.trans (hb.mono (by omega))
    by_cases hlt : j + 1 < way.length
    · obtain ⟨b1, o1, z1, rfl, _, hz1, hca⟩ := (HY.out.below bw).at_ (show j < way.length by omega)
      obtain ⟨b2, o2, z2, he, _, hz2, hcb⟩ := (HY.out.below bw).at_ hlt
      cases he
      have hi1 := HN.out z1 (List.mem_of_getElem? hz1)
      have hi2 := HN.out z2 (List.mem_of_getElem? hz2)
      obtain ⟨n1, rfl⟩ := Int.eq_ofNat_of_zero_le hi1.1
      obtain ⟨n2, rfl⟩ := Int.eq_ofNat_of_zero_le hi2.1
      obtain ⟨b3, o3, u1, rfl, _, hu1, hcc⟩ := (HX.out.below bw).at_ (show n1 < x.of.length by omega)
      obtain ⟨b4, o4, u2, he, _, hu2, hcd⟩ := (HX.out.below bw).at_ (show n2 < x.of.length by omega)
      cases he
      have HS' := HS.out
      rw [drop_cons hz1, drop_cons hz2, crossGo_two, show atD x.of (n1 : Int) = u1 by simp [atD, hu1], show atD x.of (n2 : Int) = u2 by simp [atD, hu2], ← drop_cons hz2] at HS'
      have HQ := hide HS'
      clear HS' HS hz1 hz2 hu1 hu2
      have hl1 : (n1 : Int) < x.of.length := by omega
      have hl2 : (n2 : Int) < x.of.length := by omega
      have hp1 : IntKind.i64.wrap (j : Int) = (j : Int) := by rw [IntKind.wrap_i64] <;> omega
      have hp3 : (0 : Int) ≤ (j : Int) := by omega
      have hp4 : (j : Int) < (way.length : Int) := by omega
      have hp5 : (j : Int) + 1 < (way.length : Int) := by omega
      have hp6 : (0 : Int) ≤ (j : Int) + 1 := by omega
      have hcb' : wr.cell? ⟨b1, o1 + ((j : Int) + 1).toNat, none⟩ = _ := hcb
      clear hi1 hi2
      by_cases he : u1 = u2
      · have hB : (u1 != u2) = false := by simp [he]
        have HQ' := hide (show crossGo x.of way = acc + crossGo x.of (way.drop (j + 1)) by have := HQ.out; rw [if_pos he] at this; omega)
        clear HQ he
        go_wp2_with fail
        go_quiet (fail)
        go_wp2_with fail
        go_roundg (way.length - (j + 1))
        case measure => have := hg.out; omega
        case rel => exact ⟨j + 1, acc, by omega, rfl, by go_num, rfl, ha0, by omega, HQ', bdn hb _⟩
      · have hB : (u1 != u2) = true := by simp [he]
        have HQ' := hide (show crossGo x.of way = (acc + 1) + crossGo x.of (way.drop (j + 1)) by have := HQ.out; rw [if_neg he] at this; omega)
        clear HQ he
        go_wp2_with fail
        go_quiet (fail)
        go_wp2_with fail
        go_roundg (way.length - (j + 1))
        case measure => have := hg.out; omega
        case rel => exact ⟨j + 1, acc + 1, by omega, rfl, by go_num, by go_num, by omega, by omega, HQ', bdn hb _⟩
    · have HQ := hide (show crossGo x.of way = acc by have := HS.out; rw [crossGo_short x.of (show (way.drop j).length ≤ 1 by rw [List.length_drop]; omega)] at this; omega)
      go_wp2_with fail
      go_ret2
      exact ⟨by rw [HR.out, HQ.out]; rfl, bw⟩
set_option maxRecDepth 100000 in
set_option maxHeartbeats 4000000 in
theorem P_ZonesCrossed (x : TZ) (v : Value) (way : List Int) (u : Value) (w : World) (hs : Small_Zoned x) (hf : Fit_Zoned x) (h : R_Zoned w w.heap.size v x) (hwl : way.length ≤ 1048576) (_ : ∀ z ∈ way, -9223372036854775808 ≤ z ∧ z ≤ 9223372036854775807) (k : R_Int64S w w.heap.size u way) :
    Calls Try.prog 114 #[v, u] w fun e w' => e = .returned (.tuple #[.int .i64 (zonesCrossed x way).1, .int .i64 (zonesCrossed x way).2]) ∧ Below w.heap.size w w' := by
  have h0 := h
  obtain ⟨A, c, A2, c2, rfl, h1, h2⟩ := h0
  obtain ⟨A3, c3, rfl, h3⟩ := k
  have b0 : Below w.heap.size w (w.alloc (.cells #[.int .i64 x.z, .slice A x.of.length c, .slice A2 x.ch.length c2] 114)) := (by repeat (first | exact Below.refl _ _ | assumption | (refine Below.alloc ?_ (by simp <;> omega) _) | refine Below.drew ?_ | refine bdn ?_ _))
  have HC := hide (show _ from (by have := zonedCode_any x _ way A3 c3 0 _ hs hf ((h.below b0).more b0.size) hwl ((h3.below b0).more b0.size); rwa [show codeWT x way 0 = codeW x way by unfold codeWT; split <;> simp_all] at this : Calls Try.prog 227 #[.agg #[.int .i64 x.z, .slice A x.of.length c, .slice A2 x.ch.length c2], .slice A3 way.length c3, .int .i64 0] (w.alloc (.cells #[.int .i64 x.z, .slice A x.of.length c, .slice A2 x.ch.length c2] 114)) fun e w' => e = .returned (.int .i64 (codeW x way)) ∧ Below (w.alloc (.cells #[.int .i64 x.z, .slice A x.of.length c, .slice A2 x.ch.length c2] 114)).heap.size (w.alloc (.cells #[.int .i64 x.z, .slice A x.of.length c, .slice A2 x.ch.length c2] 114)) w'))
  have z0 : w.heap.size + 1 ≤ (w.alloc (.cells #[.int .i64 x.z, .slice A x.of.length c, .slice A2 x.ch.length c2] 114)).heap.size := by simp
  have X0 := hide (BoxAt.new w #[.int .i64 x.z, .slice A x.of.length c, .slice A2 x.ch.length c2] 114)
  have HX := hide h1
  have HY := hide h3
  clear h h1 h2 h3
  by_cases hc : codeW x way = 0
  case neg =>
    have HR := hide (show zonesCrossed x way = (0, codeW x way) by simp [zonesCrossed, hc])
    have hne : (codeW x way != 0) = true := by simp [hc]
    generalize codeW x way = cd at *
    go_enter Try.func114, Try.ntmps114
    go_wp2_with (go_at_call 227; refine (HC.out).mono ?_; rintro e w1 ⟨rfl, hb1⟩)
    go_ret2
    exact ⟨by rw [HR.out]; rfl, b0.trans (hb1.mono b0.size)⟩
  obtain ⟨hv, hw24, hin⟩ := codeW_ok hc
  have hof := (vZoned_iff hv).2.1
  have HN := hide hin
  have HR := hide (show zonesCrossed x way = (crossGo x.of way, 0) by simp [zonesCrossed, hc])
  rw [hc] at HC
  clear hc hv hin
  go_enter Try.func114, Try.ntmps114
  go_wp2_with (go_at_call 227; refine (HC.out).mono ?_; rintro e w1 ⟨rfl, hb1⟩)
  have hb2 : Below (w.heap.size + 1) (w.alloc (.cells #[.int .i64 x.z, .slice A x.of.length c, .slice A2 x.ch.length c2] 114)) w1 := hb1.mono z0
  go_loopg [7, 8] (way.length) (fun g s i wr => ∃ (j : Nat) (acc : Int), j ≤ way.length ∧ Hid (g = way.length - j) ∧ i = .int .i64 ((j : Int) + 1) ∧ s = .int .i64 acc ∧ 0 ≤ acc ∧ acc ≤ j ∧
    Hid (crossGo x.of way = acc + crossGo x.of (way.drop j)) ∧ Below (w.heap.size + 1) (w.alloc (.cells #[.int .i64 x.z, .slice A x.of.length c, .slice A2 x.ch.length c2] 114)) wr)
  case atStart => exact ⟨0, 0, by omega, by simp [Hid], by simp, rfl, by omega, by omega, by simp [Hid], hb2⟩
  case round =>
    obtain ⟨j, acc, hj, hg, rfl, rfl, ha0, ha1, HS, hb⟩ := hrel
    clear hb2 hb1
    have X1 := X0.out.below hb (by omega)
    have k1 := X1.cell 1
    simp only [List.getElem?_cons_succ, List.getElem?_cons_zero] at k1
    have bw : Below w.heap.size w wr := b0.trans (hb.mono (by omega))
    by_cases hlt : j + 1 < way.length
    · obtain ⟨b1, o1, z1, rfl, _, hz1, hca⟩ := (HY.out.below bw).at_ (show j < way.length by omega)
      obtain ⟨b2, o2, z2, he, _, hz2, hcb⟩ := (HY.out.below bw).at_ hlt
      cases he
      have hi1 := HN.out z1 (List.mem_of_getElem? hz1)
      have hi2 := HN.out z2 (List.mem_of_getElem? hz2)
      obtain ⟨n1, rfl⟩ := Int.eq_ofNat_of_zero_le hi1.1
      obtain ⟨n2, rfl⟩ := Int.eq_ofNat_of_zero_le hi2.1
      obtain ⟨b3, o3, u1, rfl, _, hu1, hcc⟩ := (HX.out.below bw).at_ (show n1 < x.of.length by omega)
      obtain ⟨b4, o4, u2, he, _, hu2, hcd⟩ := (HX.out.below bw).at_ (show n2 < x.of.length by omega)
      cases he
      have HS' := HS.out
      rw [drop_cons hz1, drop_cons hz2, crossGo_two, show atD x.of (n1 : Int) = u1 by simp [atD, hu1], show atD x.of (n2 : Int) = u2 by simp [atD, hu2], ← drop_cons hz2] at HS'
      have HQ := hide HS'
      clear HS' HS hz1 hz2 hu1 hu2
      have hl1 : (n1 : Int) < x.of.length := by omega
      have hl2 : (n2 : Int) < x.of.length := by omega
      have hp1 : IntKind.i64.wrap (j : Int) = (j : Int) := by rw [IntKind.wrap_i64] <;> omega
      have hp3 : (0 : Int) ≤ (j : Int) := by omega
      have hp4 : (j : Int) < (way.length : Int) := by omega
      have hp5 : (j : Int) + 1 < (way.length : Int) := by omega
      have hp6 : (0 : Int) ≤ (j : Int) + 1 := by omega
      have hcb' : wr.cell? ⟨b1, o1 + ((j : Int) + 1).toNat, none⟩ = _ := hcb
      clear hi1 hi2
      by_cases he : u1 = u2
      · have hB : (u1 != u2) = false := by simp [he]
        have HQ' := hide (show crossGo x.of way = acc + crossGo x.of (way.drop (j + 1)) by have := HQ.out; rw [if_pos he] at this; omega)
        clear HQ he
        go_wp2_with fail
        go_quiet (fail)
        go_wp2_with fail
        go_roundg (way.length - (j + 1))
        case measure => have := hg.out; omega
        case rel => exact ⟨j + 1, acc, by omega, rfl, by go_num, rfl, ha0, by omega, HQ', bdn hb _⟩
      · have hB : (u1 != u2) = true := by simp [he]
        have HQ' := hide (show crossGo x.of way = (acc + 1) + crossGo x.of (way.drop (j + 1)) by have := HQ.out; rw [if_neg he] at this; omega)
        clear HQ he
        go_wp2_with fail
        go_quiet (fail)
        go_wp2_with fail
        go_roundg (way.length - (j + 1))
        case measure => have := hg.out; omega
        case rel => exact ⟨j + 1, acc + 1, by omega, rfl, by go_num, by go_num, by omega, by omega, HQ', bdn hb _⟩
    · have HQ := hide (show crossGo x.of way = acc by have := HS.out; rw [crossGo_short x.of (show (way.drop j).length ≤ 1 by rw [List.length_drop]; omega)] at this; omega)
      go_wp2_with fail
      go_ret2
      exact ⟨by rw [HR.out, HQ.out]; rfl, bw⟩
end Go.Proofs.Ytklfjekpeoigoaa
