/-
  Contracts: a stock is valid, in the program and in the reference.
  Networks in the program: what is a network, and its codes.
  Least lengths in the program: lists of one number repeated.
  Lists whose elements hold a list of numbers and up to two numbers more: what a slice of them reads, and what is the call's own. Plain lemmas.
-/
import Derived.Test.YtklfjekpeoigoaaQPressed2
import Derived.Test.YtklfjekpeoigoaaQPressed10
import Derived.Test.YtklfjekpeoigoaaQPressed1
import Derived.Test.YtklfjekpeoigoaaQPressed3
import Derived.Deep.DeepCutAuto
import Derived.Shelf.Bits.Mul64
import Derived.Laws.CopyOwn
import Derived.Deep.RegionHeld3
namespace Go.Proofs.Ytklfjekpeoigoaa
open Go.RowKit

/-- A valid stock. -/
def vStock (zs : List Int) : Bool := zs.all (inB 0 200) && (inB 2 10 zs.length && decide (zs.sum ≤ 200))

set_option maxRecDepth 100000 in
set_option maxHeartbeats 1000000 in
theorem l07Ok_any (xs : List Int) (A : Option Addr) (c : Nat) (w : World) (hx : xs.length ≤ 1048576) (h1 : RdI w w.heap.size A xs) :
    Calls Try.prog 143 #[.slice A xs.length c] w fun e w' => e = .returned (.bool (vStock xs)) ∧ w = w' := by
  have HX := hide h1; clear h1
  go_enter Try.func143, Try.ntmps143
  go_wp2_with fail
  go_loopg [3] xs.length (fun g i wr => ∃ k : Nat, k ≤ xs.length ∧ Hid (g = xs.length - k) ∧ i = .int .i64 k ∧ Hid (xs.all (inB 0 200) = (xs.drop k).all (inB 0 200)) ∧ w = wr)
  case atStart => exact ⟨0, by omega, by simp [Hid], rfl, by simp [Hid], rfl⟩
  case round =>
    obtain ⟨k, hk, hg, rfl, HS, rfl⟩ := hrel
    by_cases hlt : k < xs.length
    · obtain ⟨b1, o1, z1, rfl, _, hz1, hc1⟩ := HX.out.at_ hlt
      have HS' := HS.out; rw [all_drop _ _ _ _ hz1] at HS'
      have HQ := hide HS'; clear HS' hz1
      by_cases hz : 0 ≤ z1 ∧ z1 ≤ 200
      · have HB := hide (inB_t hz)
        obtain ⟨hz0, hz9⟩ := hz
        go_wp2_with (go_at_call 148; first | (refine (l00In_t _ _ _ _ (by omega)).mono ?_; rintro e w' ⟨rfl, rfl⟩) | (refine (l00In_f _ _ _ _ (by omega)).mono ?_; rintro e w' ⟨rfl, rfl⟩))
        go_roundg (xs.length - (k + 1))
        case measure => have := hg.out; omega
        case rel => exact ⟨k + 1, by omega, rfl, by go_num, hide (by have := HQ.out; rw [HB.out] at this; simpa using this), rfl⟩
      · have hz' : z1 < 0 ∨ 200 < z1 := by omega
        have HB := hide (inB_f hz')
        clear hz
        go_wp2_with (go_at_call 148; first | (refine (l00In_t _ _ _ _ (by omega)).mono ?_; rintro e w' ⟨rfl, rfl⟩) | (refine (l00In_f _ _ _ _ (by omega)).mono ?_; rintro e w' ⟨rfl, rfl⟩))
        go_ret
        refine ⟨ret_b ?_, rfl⟩
        unfold vStock
        rw [HQ.out, HB.out]; rfl
    · have HA : Hid (xs.all (inB 0 200) = true) := by
        have := HS.out; rw [List.drop_eq_nil_of_le (by omega)] at this; exact this
      by_cases hl : 2 ≤ xs.length ∧ xs.length ≤ 10
      · have HL := hide (inB_t (lo := 2) (hi := 10) (n := (xs.length : Int)) (by omega))
        obtain ⟨hl2, hl10⟩ := hl
        have HC := hide (l00Sum_any xs A c w hx (fun z hz => by have := List.all_eq_true.1 HA.out z hz; rw [inB_iff] at this; omega) HX.out)
        go_wp2_with (first | (go_at_call 148; first | (refine (l00In_t _ _ _ _ (by omega)).mono ?_; rintro e w' ⟨rfl, rfl⟩) | (refine (l00In_f _ _ _ _ (by omega)).mono ?_; rintro e w' ⟨rfl, rfl⟩)) | (go_at_call 121; refine HC.out.mono ?_; rintro e w' ⟨rfl, rfl⟩))
        go_ret
        refine ⟨ret_b ?_, rfl⟩
        unfold vStock
        rw [HA.out, HL.out]; simp
      · have hl' : (xs.length : Int) < 2 ∨ 10 < (xs.length : Int) := by omega
        have HL := hide (inB_f hl')
        clear hl
        go_wp2_with (go_at_call 148; first | (refine (l00In_t _ _ _ _ (by omega)).mono ?_; rintro e w' ⟨rfl, rfl⟩) | (refine (l00In_f _ _ _ _ (by omega)).mono ?_; rintro e w' ⟨rfl, rfl⟩))
        go_ret
        refine ⟨ret_b ?_, rfl⟩
        unfold vStock
        rw [HA.out, HL.out]; simp
set_option maxRecDepth 100000 in
set_option maxHeartbeats 1000000 in
theorem specValidStock_any (xs : List Int) (A : Option Addr) (c : Nat) (w : World) (hx : xs.length ≤ 1048576) (h1 : RdI w w.heap.size A xs) :
    Calls Try.prog 38 #[.slice A xs.length c] w fun e w' => e = .returned (.bool (vStock xs)) ∧ w = w' := by
  have HC := hide (l07Ok_any xs A c w hx h1)
  clear h1
  go_enter Try.func38, Try.ntmps38
  go_wp2_with (go_at_call 143; refine HC.out.mono ?_; rintro e w' ⟨rfl, rfl⟩)
  go_ret
  exact ⟨rfl, rfl⟩
set_option maxRecDepth 100000 in
set_option maxHeartbeats 1000000 in
theorem isCount_any (n : Int) (w : World) :
    Calls Try.prog 146 #[.int .i64 n] w fun e w' => e = .returned (.bool (inB 2 10 n)) ∧ w = w' := by
  have HC := hide (within_any n 2 10 w)
  go_enter Try.func146, Try.ntmps146
  go_wp2_with (go_at_call 186; refine HC.out.mono ?_; rintro e w' ⟨rfl, rfl⟩)
  go_ret
  exact ⟨rfl, rfl⟩
set_option maxRecDepth 100000 in
set_option maxHeartbeats 1000000 in
theorem implValidStock_any (xs : List Int) (A : Option Addr) (c : Nat) (w : World) (hx : xs.length ≤ 1048576) (h1 : RdI w w.heap.size A xs) :
    Calls Try.prog 37 #[.slice A xs.length c] w fun e w' => e = .returned (.bool (vStock xs)) ∧ Below w.heap.size w w' := by
  have HC := hide (isCount_any (xs.length : Int))
  by_cases hl : 2 ≤ xs.length ∧ xs.length ≤ 10
  · have HL := inB_t (lo := 2) (hi := 10) (n := (xs.length : Int)) (by omega)
    rw [HL] at HC
    have HL' := hide HL; clear HL hl
    have HO := hide (outside_any xs 0 200 A c w (by omega) h1)
    cases ha : xs.all (inB 0 200)
    · rw [any_not_all, ha] at HO
      have HA := hide ha; clear ha
      have HX := hide h1; clear h1
      go_enter Try.func37, Try.ntmps37
      go_wp2_with (first | (go_at_call 146; refine (HC.out _).mono ?_; rintro e w' ⟨rfl, rfl⟩) | (go_at_call 147; refine (HO.out).mono ?_; rintro e w1 ⟨rfl, hb1⟩))
      go_ret
      exact ⟨ret_b (by unfold vStock; rw [HA.out]; rfl), hb1⟩
    · rw [any_not_all, ha] at HO
      have HA := hide ha; clear ha
      have HX := hide h1; clear h1
      have HS := hide fun W (hW : Below w.heap.size w W) => sumOf_any xs A c W hx (fun z hz => by have := List.all_eq_true.1 HA.out z hz; rw [inB_iff] at this; omega) ((HX.out.below hW).more hW.size)
      go_enter Try.func37, Try.ntmps37
      go_wp2_with (first | (go_at_call 146; refine (HC.out _).mono ?_; rintro e w' ⟨rfl, rfl⟩) | (go_at_call 147; refine (HO.out).mono ?_; rintro e w1 ⟨rfl, hb1⟩) | (go_at_call 127; refine (HS.out _ hb1).mono ?_; rintro e w' ⟨rfl, rfl⟩))
      go_ret
      exact ⟨ret_b (by unfold vStock; rw [HA.out, HL'.out]; simp), hb1⟩
  · have HL := inB_f (lo := 2) (hi := 10) (n := (xs.length : Int)) (by omega)
    rw [HL] at HC
    have HL' := hide HL; clear HL hl h1
    go_enter Try.func37, Try.ntmps37
    go_wp2_with (go_at_call 146; refine (HC.out _).mono ?_; rintro e w' ⟨rfl, rfl⟩)
    go_ret
    exact ⟨ret_b (by unfold vStock; rw [HL'.out]; simp), Below.refl _ _⟩
end Go.Proofs.Ytklfjekpeoigoaa
namespace Go.Proofs.Ytklfjekpeoigoaa
open Go.RowKit

/-- A tube of a valid network of n stations. -/
def OkTube (n : Int) (t : T3) : Prop := (0 ≤ t.a ∧ t.a ≤ n - 1) ∧ (0 ≤ t.b ∧ t.b ≤ n - 1) ∧ t.a ≠ t.b ∧ (1 ≤ t.c ∧ t.c ≤ 2000)
/-- A valid network. -/
def OkNet (n : Int) (tb : List T3) : Prop := (2 ≤ n ∧ n ≤ 10) ∧ tb.length ≤ 24 ∧ ∀ t ∈ tb, OkTube n t
def okTubeB (n : Int) (t : T3) : Bool := inB 0 (n - 1) t.a && inB 0 (n - 1) t.b && !(t.a == t.b) && inB 1 2000 t.c
theorem okTubeB_ok {n : Int} {t : T3} (h : OkTube n t) : okTubeB n t = true := by
  obtain ⟨h1, h2, h3, h4⟩ := h
  simp [okTubeB, inB_t h1, inB_t h2, inB_t h4, h3]
set_option maxRecDepth 100000 in
set_option maxHeartbeats 1000000 in
theorem isStation_any (n z : Int) (A : Option Addr) (m c : Nat) (w : World) (hn : 1 ≤ n ∧ n ≤ 10) :
    Calls Try.prog 273 #[.agg #[.int .i64 n, .slice A m c], .int .i64 z] w fun e w' => e = .returned (.bool (inB 0 (n - 1) z)) ∧ Below w.heap.size w w' := by
  obtain ⟨hn0, hn1⟩ := hn
  by_cases hz : 0 ≤ z ∧ z ≤ n - 1
  · rw [inB_t hz]
    obtain ⟨hz0, hz1⟩ := hz
    go_enter Try.func273, Try.ntmps273
    go_wp2_with (go_at_call 186; first | (refine (within_t _ _ _ _ (by omega)).mono ?_; rintro e w' ⟨rfl, rfl⟩) | (refine (within_f _ _ _ _ (by omega)).mono ?_; rintro e w' ⟨rfl, rfl⟩))
    go_ret
    exact ⟨rfl, (by repeat (first | exact Below.refl _ _ | assumption | (refine Below.alloc ?_ (by simp <;> omega) _) | refine Below.drew ?_ | refine bdn ?_ _))⟩
  · rw [inB_f (by omega)]
    have hz1 : z < 0 ∨ n - 1 < z := by omega
    clear hz
    go_enter Try.func273, Try.ntmps273
    go_wp2_with (go_at_call 186; first | (refine (within_t _ _ _ _ (by omega)).mono ?_; rintro e w' ⟨rfl, rfl⟩) | (refine (within_f _ _ _ _ (by omega)).mono ?_; rintro e w' ⟨rfl, rfl⟩))
    go_ret
    exact ⟨rfl, (by repeat (first | exact Below.refl _ _ | assumption | (refine Below.alloc ?_ (by simp <;> omega) _) | refine Below.drew ?_ | refine bdn ?_ _))⟩
set_option maxRecDepth 100000 in
set_option maxHeartbeats 2000000 in
theorem isTube_any (n : Int) (t : T3) (A : Option Addr) (m c : Nat) (w : World) (hn : 1 ≤ n ∧ n ≤ 10) :
    Calls Try.prog 248 #[.agg #[.int .i64 n, .slice A m c], .agg #[.int .i64 t.a, .int .i64 t.b, .int .i64 t.c]] w fun e w' => e = .returned (.bool (okTubeB n t)) ∧ Below w.heap.size w w' := by
  have HSA := hide fun W => isStation_any n t.a A m c W hn
  have HSB := hide fun W => isStation_any n t.b A m c W hn
  have b0 : Below w.heap.size w ((w.alloc (.cells #[.int .i64 n, .slice A m c] 59)).alloc (.cells #[.int .i64 t.a, .int .i64 t.b, .int .i64 t.c] 72)) := (by repeat (first | exact Below.refl _ _ | assumption | (refine Below.alloc ?_ (by simp <;> omega) _) | refine Below.drew ?_ | refine bdn ?_ _))
  have kn0 : ((w.alloc (.cells #[.int .i64 n, .slice A m c] 59)).alloc (.cells #[.int .i64 t.a, .int .i64 t.b, .int .i64 t.c] 72)).cell? ⟨w.heap.size, 0, none⟩ = some (.int .i64 n) := by simp [go_sem]
  have kn1 : ((w.alloc (.cells #[.int .i64 n, .slice A m c] 59)).alloc (.cells #[.int .i64 t.a, .int .i64 t.b, .int .i64 t.c] 72)).cell? ⟨w.heap.size, 1, none⟩ = some (.slice A m c) := by simp [go_sem]
  have kt0 : ((w.alloc (.cells #[.int .i64 n, .slice A m c] 59)).alloc (.cells #[.int .i64 t.a, .int .i64 t.b, .int .i64 t.c] 72)).cell? ⟨w.heap.size + 1, 0, none⟩ = some (.int .i64 t.a) := by simp [go_sem]
  have kt1 : ((w.alloc (.cells #[.int .i64 n, .slice A m c] 59)).alloc (.cells #[.int .i64 t.a, .int .i64 t.b, .int .i64 t.c] 72)).cell? ⟨w.heap.size + 1, 1, none⟩ = some (.int .i64 t.b) := by simp [go_sem]
  have kt2 : ((w.alloc (.cells #[.int .i64 n, .slice A m c] 59)).alloc (.cells #[.int .i64 t.a, .int .i64 t.b, .int .i64 t.c] 72)).cell? ⟨w.heap.size + 1, 2, none⟩ = some (.int .i64 t.c) := by simp [go_sem]
  have z0 : w.heap.size + 2 ≤ ((w.alloc (.cells #[.int .i64 n, .slice A m c] 59)).alloc (.cells #[.int .i64 t.a, .int .i64 t.b, .int .i64 t.c] 72)).heap.size := by simp
  clear hn
  by_cases h1 : 0 ≤ t.a ∧ t.a ≤ n - 1
  case neg =>
    have HR := hide (show okTubeB n t = false by simp [okTubeB, inB_f (show t.a < 0 ∨ n - 1 < t.a by omega)])
    rw [inB_f (show t.a < 0 ∨ n - 1 < t.a by omega)] at HSA
    clear h1
    go_enter Try.func248, Try.ntmps248
    go_upto_region 1 with fail
    generalize (w.alloc (.cells #[.int .i64 n, .slice A m c] 59)).alloc (.cells #[.int .i64 t.a, .int .i64 t.b, .int .i64 t.c] 72) = w0 at *
    go_wp2_with (first
      | (go_at_call 273; (with_reducible refine (HSA.out w0).mono ?_); rintro e w1 ⟨rfl, b1⟩; have q1 := (b1.cell (p := ⟨w.heap.size, 0, none⟩) (by dsimp only; omega)).trans kn0; have q2 := (b1.cell (p := ⟨w.heap.size, 1, none⟩) (by dsimp only; omega)).trans kn1; have q3 := (b1.cell (p := ⟨w.heap.size + 1, 0, none⟩) (by dsimp only; omega)).trans kt0; have q4 := (b1.cell (p := ⟨w.heap.size + 1, 1, none⟩) (by dsimp only; omega)).trans kt1; have q5 := (b1.cell (p := ⟨w.heap.size + 1, 2, none⟩) (by dsimp only; omega)).trans kt2; have z1 := b1.size)
      | (go_at_call 273; (with_reducible refine (HSB.out w1).mono ?_); rintro e w2 ⟨rfl, b2⟩; have r3 := (b2.cell (p := ⟨w.heap.size + 1, 0, none⟩) (by dsimp only; omega)).trans q3; have r4 := (b2.cell (p := ⟨w.heap.size + 1, 1, none⟩) (by dsimp only; omega)).trans q4; have r5 := (b2.cell (p := ⟨w.heap.size + 1, 2, none⟩) (by dsimp only; omega)).trans q5)
      | (go_at_call 186; first | (refine (within_t _ _ _ _ (by omega)).mono ?_; rintro e w' ⟨rfl, rfl⟩) | (refine (within_f _ _ _ _ (by omega)).mono ?_; rintro e w' ⟨rfl, rfl⟩)))
    go_ret
    have b1' := b0.trans (b1.mono b0.size)
    exact ⟨ret_b HR.out.symm, b1'⟩
  by_cases h2 : 0 ≤ t.b ∧ t.b ≤ n - 1
  case neg =>
    have HR := hide (show okTubeB n t = false by simp [okTubeB, inB_f (show t.b < 0 ∨ n - 1 < t.b by omega)])
    rw [inB_t h1] at HSA
    rw [inB_f (show t.b < 0 ∨ n - 1 < t.b by omega)] at HSB
    clear h1 h2
    go_enter Try.func248, Try.ntmps248
    go_upto_region 1 with fail
    generalize (w.alloc (.cells #[.int .i64 n, .slice A m c] 59)).alloc (.cells #[.int .i64 t.a, .int .i64 t.b, .int .i64 t.c] 72) = w0 at *
    go_wp2_with (first
      | (go_at_call 273; (with_reducible refine (HSA.out w0).mono ?_); rintro e w1 ⟨rfl, b1⟩; have q1 := (b1.cell (p := ⟨w.heap.size, 0, none⟩) (by dsimp only; omega)).trans kn0; have q2 := (b1.cell (p := ⟨w.heap.size, 1, none⟩) (by dsimp only; omega)).trans kn1; have q3 := (b1.cell (p := ⟨w.heap.size + 1, 0, none⟩) (by dsimp only; omega)).trans kt0; have q4 := (b1.cell (p := ⟨w.heap.size + 1, 1, none⟩) (by dsimp only; omega)).trans kt1; have q5 := (b1.cell (p := ⟨w.heap.size + 1, 2, none⟩) (by dsimp only; omega)).trans kt2; have z1 := b1.size)
      | (go_at_call 273; (with_reducible refine (HSB.out w1).mono ?_); rintro e w2 ⟨rfl, b2⟩; have r3 := (b2.cell (p := ⟨w.heap.size + 1, 0, none⟩) (by dsimp only; omega)).trans q3; have r4 := (b2.cell (p := ⟨w.heap.size + 1, 1, none⟩) (by dsimp only; omega)).trans q4; have r5 := (b2.cell (p := ⟨w.heap.size + 1, 2, none⟩) (by dsimp only; omega)).trans q5)
      | (go_at_call 186; first | (refine (within_t _ _ _ _ (by omega)).mono ?_; rintro e w' ⟨rfl, rfl⟩) | (refine (within_f _ _ _ _ (by omega)).mono ?_; rintro e w' ⟨rfl, rfl⟩)))
    go_ret
    have b1' := b0.trans (b1.mono b0.size)
    exact ⟨ret_b HR.out.symm, b1'.trans (b2.mono b1'.size)⟩
  rw [inB_t h1] at HSA
  rw [inB_t h2] at HSB
  by_cases h3 : t.a = t.b
  case pos =>
    have HR := hide (show okTubeB n t = false by simp [okTubeB, h3])
    have hB : (t.a != t.b) = false := by simp [h3]
    clear h1 h2 h3
    go_enter Try.func248, Try.ntmps248
    go_upto_region 1 with fail
    generalize (w.alloc (.cells #[.int .i64 n, .slice A m c] 59)).alloc (.cells #[.int .i64 t.a, .int .i64 t.b, .int .i64 t.c] 72) = w0 at *
    go_wp2_with (first
      | (go_at_call 273; (with_reducible refine (HSA.out w0).mono ?_); rintro e w1 ⟨rfl, b1⟩; have q1 := (b1.cell (p := ⟨w.heap.size, 0, none⟩) (by dsimp only; omega)).trans kn0; have q2 := (b1.cell (p := ⟨w.heap.size, 1, none⟩) (by dsimp only; omega)).trans kn1; have q3 := (b1.cell (p := ⟨w.heap.size + 1, 0, none⟩) (by dsimp only; omega)).trans kt0; have q4 := (b1.cell (p := ⟨w.heap.size + 1, 1, none⟩) (by dsimp only; omega)).trans kt1; have q5 := (b1.cell (p := ⟨w.heap.size + 1, 2, none⟩) (by dsimp only; omega)).trans kt2; have z1 := b1.size)
      | (go_at_call 273; (with_reducible refine (HSB.out w1).mono ?_); rintro e w2 ⟨rfl, b2⟩; have r3 := (b2.cell (p := ⟨w.heap.size + 1, 0, none⟩) (by dsimp only; omega)).trans q3; have r4 := (b2.cell (p := ⟨w.heap.size + 1, 1, none⟩) (by dsimp only; omega)).trans q4; have r5 := (b2.cell (p := ⟨w.heap.size + 1, 2, none⟩) (by dsimp only; omega)).trans q5)
      | (go_at_call 186; first | (refine (within_t _ _ _ _ (by omega)).mono ?_; rintro e w' ⟨rfl, rfl⟩) | (refine (within_f _ _ _ _ (by omega)).mono ?_; rintro e w' ⟨rfl, rfl⟩)))
    go_ret
    have b1' := b0.trans (b1.mono b0.size)
    exact ⟨ret_b HR.out.symm, b1'.trans (b2.mono b1'.size)⟩
  have hB : (t.a != t.b) = true := by simp [h3]
  by_cases h4 : 1 ≤ t.c ∧ t.c ≤ 2000
  case neg =>
    have HR := hide (show okTubeB n t = false by simp [okTubeB, inB_f (show t.c < 1 ∨ 2000 < t.c by omega)])
    have h5 : t.c < 1 ∨ 2000 < t.c := by omega
    clear h1 h2 h3 h4
    go_enter Try.func248, Try.ntmps248
    go_upto_region 1 with fail
    generalize (w.alloc (.cells #[.int .i64 n, .slice A m c] 59)).alloc (.cells #[.int .i64 t.a, .int .i64 t.b, .int .i64 t.c] 72) = w0 at *
    go_wp2_with (first
      | (go_at_call 273; (with_reducible refine (HSA.out w0).mono ?_); rintro e w1 ⟨rfl, b1⟩; have q1 := (b1.cell (p := ⟨w.heap.size, 0, none⟩) (by dsimp only; omega)).trans kn0; have q2 := (b1.cell (p := ⟨w.heap.size, 1, none⟩) (by dsimp only; omega)).trans kn1; have q3 := (b1.cell (p := ⟨w.heap.size + 1, 0, none⟩) (by dsimp only; omega)).trans kt0; have q4 := (b1.cell (p := ⟨w.heap.size + 1, 1, none⟩) (by dsimp only; omega)).trans kt1; have q5 := (b1.cell (p := ⟨w.heap.size + 1, 2, none⟩) (by dsimp only; omega)).trans kt2; have z1 := b1.size)
      | (go_at_call 273; (with_reducible refine (HSB.out w1).mono ?_); rintro e w2 ⟨rfl, b2⟩; have r3 := (b2.cell (p := ⟨w.heap.size + 1, 0, none⟩) (by dsimp only; omega)).trans q3; have r4 := (b2.cell (p := ⟨w.heap.size + 1, 1, none⟩) (by dsimp only; omega)).trans q4; have r5 := (b2.cell (p := ⟨w.heap.size + 1, 2, none⟩) (by dsimp only; omega)).trans q5)
      | (go_at_call 186; first | (refine (within_t _ _ _ _ (by omega)).mono ?_; rintro e w' ⟨rfl, rfl⟩) | (refine (within_f _ _ _ _ (by omega)).mono ?_; rintro e w' ⟨rfl, rfl⟩)))
    go_ret
    have b1' := b0.trans (b1.mono b0.size)
    exact ⟨ret_b HR.out.symm, b1'.trans (b2.mono b1'.size)⟩
  case pos =>
    have HR := hide (okTubeB_ok ⟨h1, h2, h3, h4⟩)
    obtain ⟨h5, h6⟩ := h4
    clear h1 h2 h3
    go_enter Try.func248, Try.ntmps248
    go_upto_region 1 with fail
    generalize (w.alloc (.cells #[.int .i64 n, .slice A m c] 59)).alloc (.cells #[.int .i64 t.a, .int .i64 t.b, .int .i64 t.c] 72) = w0 at *
    go_wp2_with (first
      | (go_at_call 273; (with_reducible refine (HSA.out w0).mono ?_); rintro e w1 ⟨rfl, b1⟩; have q1 := (b1.cell (p := ⟨w.heap.size, 0, none⟩) (by dsimp only; omega)).trans kn0; have q2 := (b1.cell (p := ⟨w.heap.size, 1, none⟩) (by dsimp only; omega)).trans kn1; have q3 := (b1.cell (p := ⟨w.heap.size + 1, 0, none⟩) (by dsimp only; omega)).trans kt0; have q4 := (b1.cell (p := ⟨w.heap.size + 1, 1, none⟩) (by dsimp only; omega)).trans kt1; have q5 := (b1.cell (p := ⟨w.heap.size + 1, 2, none⟩) (by dsimp only; omega)).trans kt2; have z1 := b1.size)
      | (go_at_call 273; (with_reducible refine (HSB.out w1).mono ?_); rintro e w2 ⟨rfl, b2⟩; have r3 := (b2.cell (p := ⟨w.heap.size + 1, 0, none⟩) (by dsimp only; omega)).trans q3; have r4 := (b2.cell (p := ⟨w.heap.size + 1, 1, none⟩) (by dsimp only; omega)).trans q4; have r5 := (b2.cell (p := ⟨w.heap.size + 1, 2, none⟩) (by dsimp only; omega)).trans q5)
      | (go_at_call 186; first | (refine (within_t _ _ _ _ (by omega)).mono ?_; rintro e w' ⟨rfl, rfl⟩) | (refine (within_f _ _ _ _ (by omega)).mono ?_; rintro e w' ⟨rfl, rfl⟩)))
    go_ret
    have b1' := b0.trans (b1.mono b0.size)
    exact ⟨ret_b HR.out.symm, b1'.trans (b2.mono b1'.size)⟩
set_option maxRecDepth 100000 in
set_option maxHeartbeats 1000000 in
theorem validNet1_any (n : Int) (t : T3) (A : Option Addr) (m c b : Nat) (w : World) (hn : 1 ≤ n ∧ n ≤ 10) (k0 : w.cell? ⟨b, 0, none⟩ = some (.int .i64 n)) (k1 : w.cell? ⟨b, 1, none⟩ = some (.slice A m c)) :
    Calls Try.prog 247 #[.agg #[.int .i64 t.a, .int .i64 t.b, .int .i64 t.c], .pointer (some ⟨b, 0, none⟩)] w fun e w' => e = .returned (.bool (!okTubeB n t)) ∧ Below w.heap.size w w' := by
  have hbl := World.block_lt_of_cell? w _ k0
  have b0 : Below w.heap.size w (w.alloc (.cells #[.int .i64 t.a, .int .i64 t.b, .int .i64 t.c] 72)) := (by repeat (first | exact Below.refl _ _ | assumption | (refine Below.alloc ?_ (by simp <;> omega) _) | refine Below.drew ?_ | refine bdn ?_ _))
  have HC := hide (isTube_any n t A m c (w.alloc (.cells #[.int .i64 t.a, .int .i64 t.b, .int .i64 t.c] 72)) hn)
  clear hn
  dsimp only at hbl
  go_enter Try.func247, Try.ntmps247
  go_wp2_with (go_at_call 248; refine (HC.out).mono ?_; rintro e w1 ⟨rfl, b1⟩)
  go_ret
  exact ⟨rfl, b0.trans (b1.mono b0.size)⟩
set_option maxRecDepth 100000 in
set_option maxHeartbeats 1000000 in
theorem validNet_any (n : Int) (tb : List T3) (A : Option Addr) (c : Nat) (w : World) (h : OkNet n tb) (hr : Rd3 w w.heap.size A tb) :
    Calls Try.prog 163 #[.agg #[.int .i64 n, .slice A tb.length c]] w fun e w' => e = .returned (.bool true) ∧ Below w.heap.size w w' := by
  obtain ⟨⟨hn0, hn1⟩, hl, ht⟩ := h
  have hcf := callFunc_gen (P := Try.prog) (F := 247) Try.func247 (by kernel_rfl) (by kernel_rfl)
  have b0 : Below w.heap.size w (w.alloc (.cells #[.int .i64 n, .slice A tb.length c] 59)) := (by repeat (first | exact Below.refl _ _ | assumption | (refine Below.alloc ?_ (by simp <;> omega) _) | refine Below.drew ?_ | refine bdn ?_ _))
  have k0 : (w.alloc (.cells #[.int .i64 n, .slice A tb.length c] 59)).cell? ⟨w.heap.size, 0, none⟩ = some (.int .i64 n) := by simp [go_sem]
  have k1 : (w.alloc (.cells #[.int .i64 n, .slice A tb.length c] 59)).cell? ⟨w.heap.size, 1, none⟩ = some (.slice A tb.length c) := by simp [go_sem]
  have z0 : w.heap.size < (w.alloc (.cells #[.int .i64 n, .slice A tb.length c] 59)).heap.size := by simp
  have hany : tb.any (fun t => !okTubeB n t) = false := by
    rw [List.any_eq_false]; intro t ht'; rw [okTubeB_ok (ht t ht')]; simp
  have HC := hide (containsFuncTube_any (fun t => !okTubeB n t) 247 #[.pointer (some ⟨w.heap.size, 0, none⟩)] tb A c (w.alloc (.cells #[.int .i64 n, .slice A tb.length c] 59)) (by omega) hcf ((hr.below b0).more b0.size) (fun t W hW => validNet1_any n t A tb.length c w.heap.size W (by omega) ((hW.cell z0).trans k0) ((hW.cell z0).trans k1)))
  rw [hany] at HC
  clear hany ht hr hcf
  go_enter Try.func163, Try.ntmps163
  go_upto_region 1 with fail
  generalize (w.alloc (.cells #[.int .i64 n, .slice A tb.length c] 59)) = w0 at *
  go_wp2_with (first | (go_at_call 186; first | (refine (within_t _ _ _ _ (by omega)).mono ?_; rintro e w' ⟨rfl, rfl⟩) | (refine (within_f _ _ _ _ (by omega)).mono ?_; rintro e w' ⟨rfl, rfl⟩)) | (go_at_call 246; refine (HC.out).mono ?_; rintro e w1 ⟨rfl, b1⟩))
  go_ret
  exact ⟨rfl, b0.trans (b1.mono b0.size)⟩
set_option maxRecDepth 100000 in
set_option maxHeartbeats 1000000 in
theorem netCode_any (n : Int) (tb : List T3) (zs : List Int) (A Az : Option Addr) (c cz : Nat) (w : World) (h : OkNet n tb) (hr : Rd3 w w.heap.size A tb) (hz : ∀ z ∈ zs, 0 ≤ z ∧ z ≤ n - 1) (hzl : zs.length ≤ 100) (hrz : RdI w w.heap.size Az zs) :
    Calls Try.prog 158 #[.agg #[.int .i64 n, .slice A tb.length c], .slice Az zs.length cz] w fun e w' => e = .returned (.int .i64 0) ∧ Below w.heap.size w w' := by
  obtain ⟨hn0, hn1⟩ := h.1
  have b0 : Below w.heap.size w (w.alloc (.cells #[.int .i64 n, .slice A tb.length c] 59)) := (by repeat (first | exact Below.refl _ _ | assumption | (refine Below.alloc ?_ (by simp <;> omega) _) | refine Below.drew ?_ | refine bdn ?_ _))
  have k0 : (w.alloc (.cells #[.int .i64 n, .slice A tb.length c] 59)).cell? ⟨w.heap.size, 0, none⟩ = some (.int .i64 n) := by simp [go_sem]
  have k1 : (w.alloc (.cells #[.int .i64 n, .slice A tb.length c] 59)).cell? ⟨w.heap.size, 1, none⟩ = some (.slice A tb.length c) := by simp [go_sem]
  have z0 : w.heap.size < (w.alloc (.cells #[.int .i64 n, .slice A tb.length c] 59)).heap.size := by simp
  have HV := hide (validNet_any n tb A c (w.alloc (.cells #[.int .i64 n, .slice A tb.length c] 59)) h ((hr.below b0).more b0.size))
  have HO := hide fun W (hW : Below w.heap.size w W) => outside_any zs 0 (n - 1) Az cz W (by omega) ((hrz.below hW).more hW.size)
  have hany : (zs.any fun z => !inB 0 (n - 1) z) = false := by
    rw [List.any_eq_false]; intro z hz'; rw [inB_t (hz z hz')]; simp
  clear h hr hz hrz
  go_enter Try.func158, Try.ntmps158
  go_upto_region 1 with fail
  generalize (w.alloc (.cells #[.int .i64 n, .slice A tb.length c] 59)) = w0 at *
  go_wp2_with (first
    | (go_at_call 163; (with_reducible refine (HV.out).mono ?_); rintro e w1 ⟨rfl, b1⟩; have q0 := (b1.cell (p := ⟨w.heap.size, 0, none⟩) z0).trans k0; have q1 := (b1.cell (p := ⟨w.heap.size, 1, none⟩) z0).trans k1; have bw1 := b0.trans (b1.mono b0.size))
    | (go_at_call 147; (with_reducible refine (HO.out _ bw1).mono ?_); rintro e w2 ⟨rfl, b2⟩; rw [hany]))
  go_ret
  exact ⟨rfl, bw1.trans (b2.mono bw1.size)⟩
end Go.Proofs.Ytklfjekpeoigoaa
namespace Go.Proofs
open Go.Shelf
end Go.Proofs
namespace Go.Proofs.Ytklfjekpeoigoaa
open Go.RowKit
theorem own_heap1 {w : World} {base : Nat} {e : TypeId} {g n : Nat} {xs : List Value} (h : w.ownsRow base e 1 (.slice (some ⟨g, 0, none⟩) n n) n xs) : w.heap[g]? = some (.cells xs.toArray e (0, 0)) := by
  rcases h.2 with ⟨e0, _⟩ | ⟨g', cap', cur, e0, hb, hg, hn, hm, hs, ht⟩
  · cases e0
  · injection e0 with e1 _ e3
    injection e1 with e1
    injection e1 with e1
    subst e1; subst e3
    rw [hg]
    have : cur.toList = xs := by rw [← ht, List.take_of_length_le]; simp [hs]
    rw [← this]
theorem heap_own1 {w : World} {base : Nat} {e : TypeId} {g n : Nat} {xs : List Value} (hl : xs.length = n) (hn : n ≤ 1048576) (hb : base ≤ g) (h : w.heap[g]? = some (.cells xs.toArray e (0, 0))) : w.ownsRow base e 1 (.slice (some ⟨g, 0, none⟩) n n) n xs :=
  ⟨by omega, .inr ⟨g, n, xs.toArray, rfl, hb, h, Nat.le_refl _, by unfold maxLen; omega, by simp [hl], by simp [← hl]⟩⟩
end Go.Proofs.Ytklfjekpeoigoaa
namespace Go.Proofs.Ytklfjekpeoigoaa
open Go.RowKit

structure TN where
  way : List Int
  p : Int
  q : Int
def TN.Fits (x : TN) : Prop := (∀ z ∈ x.way, -9223372036854775808 ≤ z ∧ z ≤ 9223372036854775807) ∧ (-9223372036854775808 ≤ x.p ∧ x.p ≤ 9223372036854775807) ∧ (-9223372036854775808 ≤ x.q ∧ x.q ≤ 9223372036854775807)
/-- The cells of an element: its slice's value, and m numbers. -/
def Nc (m : Nat) (x : Value × TN) : List Value := x.1 :: [Value.int .i64 x.2.p, .int .i64 x.2.q].take m
theorem Nc_len {m : Nat} (hm : m ≤ 2) (x : Value × TN) : (Nc m x).length = m + 1 := by simp [Nc]; omega
def WayAt (w : World) (B : Nat) (p : Value × TN) : Prop := ∃ A c, p.1 = .slice A p.2.way.length c ∧ RdI w B A p.2.way
def RN (m : Nat) (w : World) (B : Nat) (A : Option Addr) (x : List TN) : Prop := ∃ ps : List (Value × TN), ps.map (·.2) = x ∧ Rd w B A (ps.flatMap (Nc m)) ∧ ∀ p ∈ ps, WayAt w B p
section
variable {m : Nat} {w w' : World} {B B' : Nat} {A : Option Addr} {x : List TN}
theorem RN.nil (m : Nat) (w : World) (B : Nat) (A : Option Addr) : RN m w B A [] := ⟨[], rfl, Rd.nil _ _ _, fun p hp => by cases hp⟩
theorem RN.below (h : RN m w B A x) (k : Below B w w') : RN m w' B A x := by
  obtain ⟨ps, h1, h2, h3⟩ := h
  refine ⟨ps, h1, h2.below k, fun p hp => ?_⟩
  obtain ⟨A', c, e, r⟩ := h3 p hp
  exact ⟨A', c, e, r.below k⟩
theorem RN.more (h : RN m w B A x) (k : B ≤ B') : RN m w B' A x := by
  obtain ⟨ps, h1, h2, h3⟩ := h
  refine ⟨ps, h1, h2.more k, fun p hp => ?_⟩
  obtain ⟨A', c, e, r⟩ := h3 p hp
  exact ⟨A', c, e, r.more k⟩
theorem RN.at_ (hm : m ≤ 2) (h : RN m w B A x) {k : Nat} (hk : k < x.length) : ∃ b o e Aw cw, A = some ⟨b, o, none⟩ ∧ b < B ∧ x[k]? = some e ∧ RdI w B Aw e.way ∧ w.cell? ⟨b, o + k * (m + 1), none⟩ = some (.slice Aw e.way.length cw) ∧
    (1 ≤ m → w.cell? ⟨b, o + k * (m + 1) + 1, none⟩ = some (.int .i64 e.p)) ∧ (2 ≤ m → w.cell? ⟨b, o + k * (m + 1) + 2, none⟩ = some (.int .i64 e.q)) := by
  obtain ⟨ps, h1, h2, h3⟩ := h
  have hl : ps.length = x.length := by rw [← h1]; simp
  obtain ⟨b, o, p, hA, hb, hp, hc⟩ := Rd.elem (Nc m) (m + 1) (Nc_len hm) h2 (by omega) (k := k) (by omega)
  obtain ⟨Aw, cw, he, hr⟩ := h3 p (List.mem_of_getElem? hp)
  refine ⟨b, o, p.2, Aw, cw, hA, hb, by rw [← h1, List.getElem?_map, hp]; rfl, hr, ?_, fun h => ?_, fun h => ?_⟩
  · have := hc 0 (by omega); rw [Nat.add_zero] at this; rw [this, ← he]; rfl
  · have := hc 1 (by omega)
    rw [this]
    match m, h, hm with
    | 1, _, _ => rfl
    | 2, _, _ => rfl
  · have := hc 2 (by omega)
    rw [this]
    obtain rfl : m = 2 := by omega
    rfl
end
def SmallN (x : List TN) : Prop := x.length + (x.map fun e => e.way.length).sum ≤ 1048576
theorem sum_get {x : List TN} : ∀ {k : Nat} {e : TN}, x[k]? = some e → e.way.length ≤ (x.map fun e => e.way.length).sum := by
  induction x with
  | nil => intro k e h; simp at h
  | cons a x ih =>
    intro k e h
    rw [List.map_cons, List.sum_cons]
    cases k with
    | zero => simp at h; subst h; omega
    | succ k => have := ih (k := k) (by simpa using h); omega
theorem SmallN.way {x : List TN} (h : SmallN x) {k : Nat} {e : TN} (he : x[k]? = some e) : e.way.length ≤ 1048576 := by
  have := sum_get he; unfold SmallN at h; omega
theorem Only.wider {lo hi lo' hi' : Nat} {w w' : World} (h : Only lo hi w w') (h1 : lo' ≤ lo) (h2 : hi ≤ hi') : Only lo' hi' w w' :=
  ⟨h.1, h.2.1, h.2.2.1, h.2.2.2.1, fun k hk ho => h.2.2.2.2 k hk (by omega)⟩
theorem OwnV.tight {e : TypeId} {s : Nat} {w : World} {lo hi g : Nat} {v : Value} {n : Nat} {xs : List Value} (h : OwnV e s w lo hi v n xs) (hg : v.ownBlock = some g) : OwnV e s w g (g + 1) v n xs := by
  refine ⟨h.1, h.2.1, ?_⟩
  rcases h.2.2 with h0 | ⟨ho, hlt⟩
  · exact .inl h0
  · refine .inr ⟨⟨ho.1, ?_⟩, fun g' hg' => by rw [hg] at hg'; cases hg'; omega⟩
    rcases ho.2 with h0 | ⟨g', cap, cur, rfl, hb, hgg, rest⟩
    · exact .inl h0
    · simp [Value.ownBlock] at hg
      subst hg
      exact .inr ⟨g', cap, cur, rfl, Nat.le_refl _, hgg, rest⟩
/-- The elements' lists are rows of the call's own, one behind the other, none in the block. -/
def FamO (w : World) (blk : Option Nat) : Nat → Nat → List (Value × TN) → Prop
  | _, _, [] => True
  | lo, hi, p :: ps => ∃ a b, lo ≤ a ∧ a ≤ b ∧ b ≤ hi ∧ (∀ g, blk = some g → b ≤ g ∨ g < a) ∧ O_Int64S w a b p.1 p.2.way ∧ FamO w blk b hi ps
theorem FamO.kept {w w' : World} {blk : Option Nat} {lo' hi' hi : Nat} (k : Only lo' hi' w w') : ∀ {ps : List (Value × TN)} {lo : Nat}, FamO w blk lo hi ps → (hi ≤ lo' ∨ hi' ≤ lo) → FamO w' blk lo hi ps := by
  intro ps
  induction ps with
  | nil => intro lo _ _; trivial
  | cons p ps ih =>
    intro lo h hd
    obtain ⟨a, b, h1, h2, h3, h4, h5, h6⟩ := h
    exact ⟨a, b, h1, h2, h3, h4, h5.kept k (by omega), ih h6 (by omega)⟩
theorem FamO.keptB {w w' : World} {g hi : Nat} (k : Only g (g + 1) w w') : ∀ {ps : List (Value × TN)} {lo : Nat}, FamO w (some g) lo hi ps → FamO w' (some g) lo hi ps := by
  intro ps
  induction ps with
  | nil => intro lo _; trivial
  | cons p ps ih =>
    intro lo h
    obtain ⟨a, b, h1, h2, h3, h4, h5, h6⟩ := h
    exact ⟨a, b, h1, h2, h3, h4, h5.kept k (by have := h4 g rfl; omega), ih h6⟩
theorem FamO.below {w w' : World} {blk : Option Nat} {B hi : Nat} (k : Below B w w') (hB : hi ≤ B) : ∀ {ps : List (Value × TN)} {lo : Nat}, FamO w blk lo hi ps → FamO w' blk lo hi ps := by
  intro ps
  induction ps with
  | nil => intro lo _; trivial
  | cons p ps ih =>
    intro lo h
    obtain ⟨a, b, h1, h2, h3, h4, h5, h6⟩ := h
    exact ⟨a, b, h1, h2, h3, h4, h5.below k (by omega), ih h6⟩
theorem FamO.widen {w : World} {blk : Option Nat} {hi hi' : Nat} (k2 : hi ≤ hi') : ∀ {ps : List (Value × TN)} {lo lo' : Nat}, FamO w blk lo hi ps → lo' ≤ lo → FamO w blk lo' hi' ps := by
  intro ps
  induction ps with
  | nil => intro lo lo' _ _; trivial
  | cons p ps ih =>
    intro lo lo' h k1
    obtain ⟨a, b, h1, h2, h3, h4, h5, h6⟩ := h
    exact ⟨a, b, by omega, h2, by omega, h4, h5, ih h6 (Nat.le_refl _)⟩
theorem FamO.blk {w : World} {blk blk' : Option Nat} {hi : Nat} : ∀ {ps : List (Value × TN)} {lo : Nat}, FamO w blk lo hi ps → (∀ g, blk' = some g → hi ≤ g ∨ g < lo) → FamO w blk' lo hi ps := by
  intro ps
  induction ps with
  | nil => intro lo _ _; trivial
  | cons p ps ih =>
    intro lo h k
    obtain ⟨a, b, h1, h2, h3, h4, h5, h6⟩ := h
    exact ⟨a, b, h1, h2, h3, fun g hg => by have := k g hg; omega, h5, ih h6 fun g hg => by have := k g hg; omega⟩
theorem FamO.snoc {w : World} {blk : Option Nat} {mid a b hi : Nat} {p : Value × TN} (h1 : mid ≤ a) (h2 : a ≤ b) (h3 : b ≤ hi) (h4 : ∀ g, blk = some g → b ≤ g ∨ g < a) (h5 : O_Int64S w a b p.1 p.2.way) : ∀ {ps : List (Value × TN)} {lo : Nat}, lo ≤ mid → FamO w blk lo mid ps → FamO w blk lo hi (ps ++ [p]) := by
  intro ps
  induction ps with
  | nil => intro lo hl _; exact ⟨a, b, by omega, h2, h3, h4, h5, trivial⟩
  | cons p' ps ih =>
    intro lo hl h
    obtain ⟨a', b', k1, k2, k3, k4, k5, k6⟩ := h
    exact ⟨a', b', k1, k2, by omega, k4, k5, ih k3 k6⟩
theorem FamO.way {w : World} {blk : Option Nat} {hi : Nat} : ∀ {ps : List (Value × TN)} {lo : Nat}, FamO w blk lo hi ps → ∀ p ∈ ps, WayAt w w.heap.size p := by
  intro ps
  induction ps with
  | nil => intro lo _ p hp; cases hp
  | cons p ps ih =>
    intro lo h
    obtain ⟨a, b, h1, h2, h3, h4, h5, h6⟩ := h
    intro p' hp
    rcases List.mem_cons.1 hp with rfl | hp
    · exact h5.r
    · exact ih h6 p' hp
theorem FamO.at_ {w : World} {blk : Option Nat} {hi : Nat} : ∀ {ps : List (Value × TN)} {lo k : Nat} {p : Value × TN}, FamO w blk lo hi ps → ps[k]? = some p → ∃ a b, lo ≤ a ∧ a ≤ b ∧ b ≤ hi ∧ (∀ g, blk = some g → b ≤ g ∨ g < a) ∧ O_Int64S w a b p.1 p.2.way := by
  intro ps
  induction ps with
  | nil => intro lo k p _ h; simp at h
  | cons p' ps ih =>
    intro lo k p h hp
    obtain ⟨a, b, h1, h2, h3, h4, h5, h6⟩ := h
    cases k with
    | zero => simp at hp; subst hp; exact ⟨a, b, h1, h2, h3, h4, h5⟩
    | succ k =>
      obtain ⟨a', b', k1, k2, k3, k4, k5⟩ := ih h6 (k := k) (p := p) (by simpa using hp)
      exact ⟨a', b', by omega, k2, k3, k4, k5⟩
/-- A list of elements, all of it the call's own. -/
def ON (T : TypeId) (m : Nat) (w : World) (lo hi : Nat) (v : Value) (x : List TN) : Prop :=
  ∃ ps : List (Value × TN), ps.map (·.2) = x ∧ OwnV T (m + 1) w lo hi v x.length (ps.flatMap (Nc m)) ∧ FamO w v.ownBlock lo hi ps ∧ SmallN x
section
variable {T : TypeId} {m : Nat} {w w' : World} {lo hi lo' hi' B : Nat} {v : Value} {x : List TN}
theorem ON.small (h : ON T m w lo hi v x) : SmallN x := by obtain ⟨_, _, _, _, h⟩ := h; exact h
theorem ON.kept (h : ON T m w lo hi v x) (k : Only lo' hi' w w') (hd : hi ≤ lo' ∨ hi' ≤ lo) : ON T m w' lo hi v x := by
  obtain ⟨ps, h1, h2, h3, h4⟩ := h
  exact ⟨ps, h1, h2.kept k hd, h3.kept k hd, h4⟩
theorem ON.below (h : ON T m w lo hi v x) (k : Below B w w') (hd : hi ≤ B) : ON T m w' lo hi v x := by
  obtain ⟨ps, h1, h2, h3, h4⟩ := h
  exact ⟨ps, h1, h2.below k hd, h3.below k hd, h4⟩
theorem ON.widen (h : ON T m w lo hi v x) (h1 : lo' ≤ lo) (h2 : hi ≤ hi') : ON T m w lo' hi' v x := by
  obtain ⟨ps, k1, k2, k3, k4⟩ := h
  exact ⟨ps, k1, k2.widen h1 h2, k3.widen h2 h1, k4⟩
theorem ON.nil (T : TypeId) (m : Nat) (w : World) (lo hi : Nat) (A : Option Addr) (c : Nat) : ON T m w lo hi (.slice A 0 c) [] := ⟨[], rfl, OwnV.nil _ _ _ _ _ _ _, trivial, by unfold SmallN; simp⟩
theorem ON.r (h : ON T m w lo hi v x) : ∃ A c, v = .slice A x.length c ∧ RN m w w.heap.size A x := by
  obtain ⟨ps, h1, h2, h3, _⟩ := h
  obtain ⟨A, c, rfl, r⟩ := h2.rd
  exact ⟨A, c, rfl, ps, h1, r, h3.way⟩
end
/-- What the marks make of the elements, and how many marks there are. -/
def mkN (m : Nat) : List TN → Int → List TN
  | [], _ => []
  | e :: es, k => ⟨mark_Int64S e.way k, if 1 ≤ m then k + e.way.length else e.p, if 2 ≤ m then k + e.way.length + 1 else e.q⟩ :: mkN m es (k + e.way.length + m)
def cntN (m : Nat) : List TN → Int
  | [] => 0
  | e :: es => e.way.length + m + cntN m es
theorem mkN_len (m : Nat) : ∀ (x : List TN) (k : Int), (mkN m x k).length = x.length := by
  intro x
  induction x with
  | nil => intro k; rfl
  | cons e es ih => intro k; rw [mkN, List.length_cons, List.length_cons, ih]
theorem mkN_sum (m : Nat) : ∀ (x : List TN) (k : Int), ((mkN m x k).map fun e => e.way.length) = x.map fun e => e.way.length := by
  intro x
  induction x with
  | nil => intro k; rfl
  | cons e es ih => intro k; rw [mkN, List.map_cons, List.map_cons, ih]; simp [mark_Int64S, marks_len]
theorem mkN_small {m : Nat} {x : List TN} {k : Int} (h : SmallN x) : SmallN (mkN m x k) := by unfold SmallN at *; rw [mkN_len, mkN_sum]; exact h
theorem mkN_append (m : Nat) : ∀ (x y : List TN) (k : Int), mkN m (x ++ y) k = mkN m x k ++ mkN m y (k + cntN m x) := by
  intro x
  induction x with
  | nil => intro y k; simp [mkN, cntN]
  | cons e es ih => intro y k; rw [List.cons_append, mkN, mkN, cntN, ih, List.cons_append]; congr 3; omega
theorem cntN_append (m : Nat) : ∀ (x y : List TN), cntN m (x ++ y) = cntN m x + cntN m y := by
  intro x
  induction x with
  | nil => intro y; simp [cntN]
  | cons e es ih => intro y; rw [List.cons_append, cntN, cntN, ih]; omega
theorem cntN_bd (m : Nat) (hm : m ≤ 2) : ∀ (x : List TN), 0 ≤ cntN m x ∧ cntN m x ≤ (x.map fun e => e.way.length).sum + 2 * (x.length : Int) := by
  intro x
  induction x with
  | nil => simp [cntN]
  | cons e es ih => rw [cntN, List.map_cons, List.sum_cons, List.length_cons]; omega
theorem mkN_get (m : Nat) : ∀ {x : List TN} {j : Nat} {e : TN} (k : Int), x[j]? = some e → (mkN m x k)[j]? = some ⟨mark_Int64S e.way (k + cntN m (x.take j)), if 1 ≤ m then k + cntN m (x.take j) + e.way.length else e.p, if 2 ≤ m then k + cntN m (x.take j) + e.way.length + 1 else e.q⟩ := by
  intro x
  induction x with
  | nil => intro j e k h; simp at h
  | cons a x ih =>
    intro j e k h
    cases j with
    | zero => simp at h; subst h; simp [mkN, cntN]
    | succ j =>
      rw [mkN, List.getElem?_cons_succ, ih _ (by simpa using h), List.take_succ_cons, cntN]
      rw [show k + a.way.length + m + cntN m (x.take j) = k + (a.way.length + m + cntN m (x.take j)) by omega]
theorem cntN_take {m : Nat} {x : List TN} {j : Nat} {e : TN} (h : x[j]? = some e) : cntN m (x.take (j + 1)) = cntN m (x.take j) + (e.way.length + m) := by
  obtain ⟨hl, he⟩ := List.getElem?_eq_some_iff.1 h
  rw [List.take_succ_eq_append_getElem hl, he, cntN_append, cntN, cntN]; omega
end Go.Proofs.Ytklfjekpeoigoaa
