/-
  Networks in the program: what is a network, and its codes.
  Least lengths in the program: lists of one number repeated.
  Lists whose elements hold a list of numbers and up to two numbers more: what a slice of them reads, and what is the call's own. Plain lemmas.
  The laws' words and helpers for lists whose elements hold a list of numbers, by contract.
-/
import Derived.Test.YtlkccijlbeibjaaQTurns1
import Derived.Test.YtlkccijlbeibjaaQTurns2
import Derived.Deep.DeepCutAuto
import Derived.Shelf.Bits.Mul64
import Derived.Laws.CopyOwn
import Derived.Deep.RegionHeld3
namespace Go.Proofs.Ytlkccijlbeibjaa
open Go.RowKit

/-- A tube of a valid network of n stations. -/
def OkTube (n : Int) (t : T3) : Prop := (0 ≤ t.a ∧ t.a ≤ n - 1) ∧ (0 ≤ t.b ∧ t.b ≤ n - 1) ∧ t.a ≠ t.b ∧ (1 ≤ t.c ∧ t.c ≤ 2000)
/-- A valid network. -/
def OkNet (n : Int) (tb : List T3) : Prop := (2 ≤ n ∧ n ≤ 10) ∧ tb.length ≤ 24 ∧ ∀ t ∈ tb, OkTube n t
def okTubeB (n : Int) (t : T3) : Bool := inB 0 (n - 1) t.a && inB 0 (n - 1) t.b && !(t.a == t.b) && inB 1 2000 t.c
theorem okTubeB_ok {n : Int} {t : T3} (h : OkTube n t) : okTubeB n t = true := by
  obtain ⟨h1, h2, h3, h4⟩ := h
  simp [okTubeB, inB_t h1, inB_t h2, inB_t h4, h3]
set_option maxRecDepth 100000 in
set_option maxHeartbeats 1000000 in
theorem isStation_any (n z : Int) (A : Option Addr) (m c : Nat) (w : World) (hn : 1 ≤ n ∧ n ≤ 10) :
    Calls Try.prog 171 #[.agg #[.int .i64 n, .slice A m c], .int .i64 z] w fun e w' => e = .returned (.bool (inB 0 (n - 1) z)) ∧ Below w.heap.size w w' := by
  obtain ⟨hn0, hn1⟩ := hn
  by_cases hz : 0 ≤ z ∧ z ≤ n - 1
  · rw [inB_t hz]
    obtain ⟨hz0, hz1⟩ := hz
    go_enter Try.func171, Try.ntmps171
    go_wp2_with (go_at_call 115; first | (refine (within_t _ _ _ _ (by omega)).mono ?_; rintro e w' ⟨rfl, rfl⟩) | (refine (within_f _ _ _ _ (by omega)).mono ?_; rintro e w' ⟨rfl, rfl⟩))
    go_ret
    exact ⟨rfl, (by repeat (first | exact Below.refl _ _ | assumption | (refine Below.alloc ?_ (by simp <;> omega) _) | refine Below.drew ?_ | refine bdn ?_ _))⟩
  · rw [inB_f (by omega)]
    have hz1 : z < 0 ∨ n - 1 < z := by omega
    clear hz
    go_enter Try.func171, Try.ntmps171
    go_wp2_with (go_at_call 115; first | (refine (within_t _ _ _ _ (by omega)).mono ?_; rintro e w' ⟨rfl, rfl⟩) | (refine (within_f _ _ _ _ (by omega)).mono ?_; rintro e w' ⟨rfl, rfl⟩))
    go_ret
    exact ⟨rfl, (by repeat (first | exact Below.refl _ _ | assumption | (refine Below.alloc ?_ (by simp <;> omega) _) | refine Below.drew ?_ | refine bdn ?_ _))⟩
set_option maxRecDepth 100000 in
set_option maxHeartbeats 2000000 in
theorem isTube_any (n : Int) (t : T3) (A : Option Addr) (m c : Nat) (w : World) (hn : 1 ≤ n ∧ n ≤ 10) :
    Calls Try.prog 152 #[.agg #[.int .i64 n, .slice A m c], .agg #[.int .i64 t.a, .int .i64 t.b, .int .i64 t.c]] w fun e w' => e = .returned (.bool (okTubeB n t)) ∧ Below w.heap.size w w' := by
  have HSA := hide fun W => isStation_any n t.a A m c W hn
  have HSB := hide fun W => isStation_any n t.b A m c W hn
  have b0 : Below w.heap.size w ((w.alloc (.cells #[.int .i64 n, .slice A m c] 44)).alloc (.cells #[.int .i64 t.a, .int .i64 t.b, .int .i64 t.c] 111)) := (by repeat (first | exact Below.refl _ _ | assumption | (refine Below.alloc ?_ (by simp <;> omega) _) | refine Below.drew ?_ | refine bdn ?_ _))
  have kn0 : ((w.alloc (.cells #[.int .i64 n, .slice A m c] 44)).alloc (.cells #[.int .i64 t.a, .int .i64 t.b, .int .i64 t.c] 111)).cell? ⟨w.heap.size, 0, none⟩ = some (.int .i64 n) := by simp [go_sem]
  have kn1 : ((w.alloc (.cells #[.int .i64 n, .slice A m c] 44)).alloc (.cells #[.int .i64 t.a, .int .i64 t.b, .int .i64 t.c] 111)).cell? ⟨w.heap.size, 1, none⟩ = some (.slice A m c) := by simp [go_sem]
  have kt0 : ((w.alloc (.cells #[.int .i64 n, .slice A m c] 44)).alloc (.cells #[.int .i64 t.a, .int .i64 t.b, .int .i64 t.c] 111)).cell? ⟨w.heap.size + 1, 0, none⟩ = some (.int .i64 t.a) := by simp [go_sem]
  have kt1 : ((w.alloc (.cells #[.int .i64 n, .slice A m c] 44)).alloc (.cells #[.int .i64 t.a, .int .i64 t.b, .int .i64 t.c] 111)).cell? ⟨w.heap.size + 1, 1, none⟩ = some (.int .i64 t.b) := by simp [go_sem]
  have kt2 : ((w.alloc (.cells #[.int .i64 n, .slice A m c] 44)).alloc (.cells #[.int .i64 t.a, .int .i64 t.b, .int .i64 t.c] 111)).cell? ⟨w.heap.size + 1, 2, none⟩ = some (.int .i64 t.c) := by simp [go_sem]
  have z0 : w.heap.size + 2 ≤ ((w.alloc (.cells #[.int .i64 n, .slice A m c] 44)).alloc (.cells #[.int .i64 t.a, .int .i64 t.b, .int .i64 t.c] 111)).heap.size := by simp
  clear hn
  by_cases h1 : 0 ≤ t.a ∧ t.a ≤ n - 1
  case neg =>
    have HR := hide (show okTubeB n t = false by simp [okTubeB, inB_f (show t.a < 0 ∨ n - 1 < t.a by omega)])
    rw [inB_f (show t.a < 0 ∨ n - 1 < t.a by omega)] at HSA
    clear h1
    go_enter Try.func152, Try.ntmps152
    go_upto_region 1 with fail
    generalize (w.alloc (.cells #[.int .i64 n, .slice A m c] 44)).alloc (.cells #[.int .i64 t.a, .int .i64 t.b, .int .i64 t.c] 111) = w0 at *
    go_wp2_with (first
      | (go_at_call 171; (with_reducible refine (HSA.out w0).mono ?_); rintro e w1 ⟨rfl, b1⟩; have q1 := (b1.cell (p := ⟨w.heap.size, 0, none⟩) (by dsimp only; omega)).trans kn0; have q2 := (b1.cell (p := ⟨w.heap.size, 1, none⟩) (by dsimp only; omega)).trans kn1; have q3 := (b1.cell (p := ⟨w.heap.size + 1, 0, none⟩) (by dsimp only; omega)).trans kt0; have q4 := (b1.cell (p := ⟨w.heap.size + 1, 1, none⟩) (by dsimp only; omega)).trans kt1; have q5 := (b1.cell (p := ⟨w.heap.size + 1, 2, none⟩) (by dsimp only; omega)).trans kt2; have z1 := b1.size)
      | (go_at_call 171; (with_reducible refine (HSB.out w1).mono ?_); rintro e w2 ⟨rfl, b2⟩; have r3 := (b2.cell (p := ⟨w.heap.size + 1, 0, none⟩) (by dsimp only; omega)).trans q3; have r4 := (b2.cell (p := ⟨w.heap.size + 1, 1, none⟩) (by dsimp only; omega)).trans q4; have r5 := (b2.cell (p := ⟨w.heap.size + 1, 2, none⟩) (by dsimp only; omega)).trans q5)
      | (go_at_call 115; first | (refine (within_t _ _ _ _ (by omega)).mono ?_; rintro e w' ⟨rfl, rfl⟩) | (refine (within_f _ _ _ _ (by omega)).mono ?_; rintro e w' ⟨rfl, rfl⟩)))
    go_ret
    have b1' := b0.trans (b1.mono b0.size)
    exact ⟨ret_b HR.out.symm, b1'⟩
  by_cases h2 : 0 ≤ t.b ∧ t.b ≤ n - 1
  case neg =>
    have HR := hide (show okTubeB n t = false by simp [okTubeB, inB_f (show t.b < 0 ∨ n - 1 < t.b by omega)])
    rw [inB_t h1] at HSA
    rw [inB_f (show t.b < 0 ∨ n - 1 < t.b by omega)] at HSB
    clear h1 h2
    go_enter Try.func152, Try.ntmps152
    go_upto_region 1 with fail
    generalize (w.alloc (.cells #[.int .i64 n, .slice A m c] 44)).alloc (.cells #[.int .i64 t.a, .int .i64 t.b, .int .i64 t.c] 111) = w0 at *
    go_wp2_with (first
      | (go_at_call 171; (with_reducible refine (HSA.out w0).mono ?_); rintro e w1 ⟨rfl, b1⟩; have q1 := (b1.cell (p := ⟨w.heap.size, 0, none⟩) (by dsimp only; omega)).trans kn0; have q2 := (b1.cell (p := ⟨w.heap.size, 1, none⟩) (by dsimp only; omega)).trans kn1; have q3 := (b1.cell (p := ⟨w.heap.size + 1, 0, none⟩) (by dsimp only; omega)).trans kt0; have q4 := (b1.cell (p := ⟨w.heap.size + 1, 1, none⟩) (by dsimp only; omega)).trans kt1; have q5 := (b1.cell (p := ⟨w.heap.size + 1, 2, none⟩) (by dsimp only; omega)).trans kt2; have z1 := b1.size)
      | (go_at_call 171; (with_reducible refine (HSB.out w1).mono ?_); rintro e w2 ⟨rfl, b2⟩; have r3 := (b2.cell (p := ⟨w.heap.size + 1, 0, none⟩) (by dsimp only; omega)).trans q3; have r4 := (b2.cell (p := ⟨w.heap.size + 1, 1, none⟩) (by dsimp only; omega)).trans q4; have r5 := (b2.cell (p := ⟨w.heap.size + 1, 2, none⟩) (by dsimp only; omega)).trans q5)
      | (go_at_call 115; first | (refine (within_t _ _ _ _ (by omega)).mono ?_; rintro e w' ⟨rfl, rfl⟩) | (refine (within_f _ _ _ _ (by omega)).mono ?_; rintro e w' ⟨rfl, rfl⟩)))
    go_ret
    have b1' := b0.trans (b1.mono b0.size)
    exact ⟨ret_b HR.out.symm, b1'.trans (b2.mono b1'.size)⟩
  rw [inB_t h1] at HSA
  rw [inB_t h2] at HSB
  by_cases h3 : t.a = t.b
  case pos =>
    have HR := hide (show okTubeB n t = false by simp [okTubeB, h3])
    have hB : (t.a != t.b) = false := by simp [h3]
    clear h1 h2 h3
    go_enter Try.func152, Try.ntmps152
    go_upto_region 1 with fail
    generalize (w.alloc (.cells #[.int .i64 n, .slice A m c] 44)).alloc (.cells #[.int .i64 t.a, .int .i64 t.b, .int .i64 t.c] 111) = w0 at *
    go_wp2_with (first
      | (go_at_call 171; (with_reducible refine (HSA.out w0).mono ?_); rintro e w1 ⟨rfl, b1⟩; have q1 := (b1.cell (p := ⟨w.heap.size, 0, none⟩) (by dsimp only; omega)).trans kn0; have q2 := (b1.cell (p := ⟨w.heap.size, 1, none⟩) (by dsimp only; omega)).trans kn1; have q3 := (b1.cell (p := ⟨w.heap.size + 1, 0, none⟩) (by dsimp only; omega)).trans kt0; have q4 := (b1.cell (p := ⟨w.heap.size + 1, 1, none⟩) (by dsimp only; omega)).trans kt1; have q5 := (b1.cell (p := ⟨w.heap.size + 1, 2, none⟩) (by dsimp only; omega)).trans kt2; have z1 := b1.size)
      | (go_at_call 171; (with_reducible refine (HSB.out w1).mono ?_); rintro e w2 ⟨rfl, b2⟩; have r3 := (b2.cell (p := ⟨w.heap.size + 1, 0, none⟩) (by dsimp only; omega)).trans q3; have r4 := (b2.cell (p := ⟨w.heap.size + 1, 1, none⟩) (by dsimp only; omega)).trans q4; have r5 := (b2.cell (p := ⟨w.heap.size + 1, 2, none⟩) (by dsimp only; omega)).trans q5)
      | (go_at_call 115; first | (refine (within_t _ _ _ _ (by omega)).mono ?_; rintro e w' ⟨rfl, rfl⟩) | (refine (within_f _ _ _ _ (by omega)).mono ?_; rintro e w' ⟨rfl, rfl⟩)))
    go_ret
    have b1' := b0.trans (b1.mono b0.size)
    exact ⟨ret_b HR.out.symm, b1'.trans (b2.mono b1'.size)⟩
  have hB : (t.a != t.b) = true := by simp [h3]
  by_cases h4 : 1 ≤ t.c ∧ t.c ≤ 2000
  case neg =>
    have HR := hide (show okTubeB n t = false by simp [okTubeB, inB_f (show t.c < 1 ∨ 2000 < t.c by omega)])
    have h5 : t.c < 1 ∨ 2000 < t.c := by omega
    clear h1 h2 h3 h4
    go_enter Try.func152, Try.ntmps152
    go_upto_region 1 with fail
    generalize (w.alloc (.cells #[.int .i64 n, .slice A m c] 44)).alloc (.cells #[.int .i64 t.a, .int .i64 t.b, .int .i64 t.c] 111) = w0 at *
    go_wp2_with (first
      | (go_at_call 171; (with_reducible refine (HSA.out w0).mono ?_); rintro e w1 ⟨rfl, b1⟩; have q1 := (b1.cell (p := ⟨w.heap.size, 0, none⟩) (by dsimp only; omega)).trans kn0; have q2 := (b1.cell (p := ⟨w.heap.size, 1, none⟩) (by dsimp only; omega)).trans kn1; have q3 := (b1.cell (p := ⟨w.heap.size + 1, 0, none⟩) (by dsimp only; omega)).trans kt0; have q4 := (b1.cell (p := ⟨w.heap.size + 1, 1, none⟩) (by dsimp only; omega)).trans kt1; have q5 := (b1.cell (p := ⟨w.heap.size + 1, 2, none⟩) (by dsimp only; omega)).trans kt2; have z1 := b1.size)
      | (go_at_call 171; (with_reducible refine (HSB.out w1).mono ?_); rintro e w2 ⟨rfl, b2⟩; have r3 := (b2.cell (p := ⟨w.heap.size + 1, 0, none⟩) (by dsimp only; omega)).trans q3; have r4 := (b2.cell (p := ⟨w.heap.size + 1, 1, none⟩) (by dsimp only; omega)).trans q4; have r5 := (b2.cell (p := ⟨w.heap.size + 1, 2, none⟩) (by dsimp only; omega)).trans q5)
      | (go_at_call 115; first | (refine (within_t _ _ _ _ (by omega)).mono ?_; rintro e w' ⟨rfl, rfl⟩) | (refine (within_f _ _ _ _ (by omega)).mono ?_; rintro e w' ⟨rfl, rfl⟩)))
    go_ret
    have b1' := b0.trans (b1.mono b0.size)
    exact ⟨ret_b HR.out.symm, b1'.trans (b2.mono b1'.size)⟩
  case pos =>
    have HR := hide (okTubeB_ok ⟨h1, h2, h3, h4⟩)
    obtain ⟨h5, h6⟩ := h4
    clear h1 h2 h3
    go_enter Try.func152, Try.ntmps152
    go_upto_region 1 with fail
    generalize (w.alloc (.cells #[.int .i64 n, .slice A m c] 44)).alloc (.cells #[.int .i64 t.a, .int .i64 t.b, .int .i64 t.c] 111) = w0 at *
    go_wp2_with (first
      | (go_at_call 171; (with_reducible refine (HSA.out w0).mono ?_); rintro e w1 ⟨rfl, b1⟩; have q1 := (b1.cell (p := ⟨w.heap.size, 0, none⟩) (by dsimp only; omega)).trans kn0; have q2 := (b1.cell (p := ⟨w.heap.size, 1, none⟩) (by dsimp only; omega)).trans kn1; have q3 := (b1.cell (p := ⟨w.heap.size + 1, 0, none⟩) (by dsimp only; omega)).trans kt0; have q4 := (b1.cell (p := ⟨w.heap.size + 1, 1, none⟩) (by dsimp only; omega)).trans kt1; have q5 := (b1.cell (p := ⟨w.heap.size + 1, 2, none⟩) (by dsimp only; omega)).trans kt2; have z1 := b1.size)
      | (go_at_call 171; (with_reducible refine (HSB.out w1).mono ?_); rintro e w2 ⟨rfl, b2⟩; have r3 := (b2.cell (p := ⟨w.heap.size + 1, 0, none⟩) (by dsimp only; omega)).trans q3; have r4 := (b2.cell (p := ⟨w.heap.size + 1, 1, none⟩) (by dsimp only; omega)).trans q4; have r5 := (b2.cell (p := ⟨w.heap.size + 1, 2, none⟩) (by dsimp only; omega)).trans q5)
      | (go_at_call 115; first | (refine (within_t _ _ _ _ (by omega)).mono ?_; rintro e w' ⟨rfl, rfl⟩) | (refine (within_f _ _ _ _ (by omega)).mono ?_; rintro e w' ⟨rfl, rfl⟩)))
    go_ret
    have b1' := b0.trans (b1.mono b0.size)
    exact ⟨ret_b HR.out.symm, b1'.trans (b2.mono b1'.size)⟩
set_option maxRecDepth 100000 in
set_option maxHeartbeats 1000000 in
theorem validNet1_any (n : Int) (t : T3) (A : Option Addr) (m c b : Nat) (w : World) (hn : 1 ≤ n ∧ n ≤ 10) (k0 : w.cell? ⟨b, 0, none⟩ = some (.int .i64 n)) (k1 : w.cell? ⟨b, 1, none⟩ = some (.slice A m c)) :
    Calls Try.prog 151 #[.agg #[.int .i64 t.a, .int .i64 t.b, .int .i64 t.c], .pointer (some ⟨b, 0, none⟩)] w fun e w' => e = .returned (.bool (!okTubeB n t)) ∧ Below w.heap.size w w' := by
  have hbl := World.block_lt_of_cell? w _ k0
  have b0 : Below w.heap.size w (w.alloc (.cells #[.int .i64 t.a, .int .i64 t.b, .int .i64 t.c] 111)) := (by repeat (first | exact Below.refl _ _ | assumption | (refine Below.alloc ?_ (by simp <;> omega) _) | refine Below.drew ?_ | refine bdn ?_ _))
  have HC := hide (isTube_any n t A m c (w.alloc (.cells #[.int .i64 t.a, .int .i64 t.b, .int .i64 t.c] 111)) hn)
  clear hn
  dsimp only at hbl
  go_enter Try.func151, Try.ntmps151
  go_wp2_with (go_at_call 152; refine (HC.out).mono ?_; rintro e w1 ⟨rfl, b1⟩)
  go_ret
  exact ⟨rfl, b0.trans (b1.mono b0.size)⟩
set_option maxRecDepth 100000 in
set_option maxHeartbeats 1000000 in
theorem validNet_any (n : Int) (tb : List T3) (A : Option Addr) (c : Nat) (w : World) (h : OkNet n tb) (hr : Rd3 w w.heap.size A tb) :
    Calls Try.prog 96 #[.agg #[.int .i64 n, .slice A tb.length c]] w fun e w' => e = .returned (.bool true) ∧ Below w.heap.size w w' := by
  obtain ⟨⟨hn0, hn1⟩, hl, ht⟩ := h
  have hcf := callFunc_gen (P := Try.prog) (F := 151) Try.func151 (by kernel_rfl) (by kernel_rfl)
  have b0 : Below w.heap.size w (w.alloc (.cells #[.int .i64 n, .slice A tb.length c] 44)) := (by repeat (first | exact Below.refl _ _ | assumption | (refine Below.alloc ?_ (by simp <;> omega) _) | refine Below.drew ?_ | refine bdn ?_ _))
  have k0 : (w.alloc (.cells #[.int .i64 n, .slice A tb.length c] 44)).cell? ⟨w.heap.size, 0, none⟩ = some (.int .i64 n) := by simp [go_sem]
  have k1 : (w.alloc (.cells #[.int .i64 n, .slice A tb.length c] 44)).cell? ⟨w.heap.size, 1, none⟩ = some (.slice A tb.length c) := by simp [go_sem]
  have z0 : w.heap.size < (w.alloc (.cells #[.int .i64 n, .slice A tb.length c] 44)).heap.size := by simp
  have hany : tb.any (fun t => !okTubeB n t) = false := by
    rw [List.any_eq_false]; intro t ht'; rw [okTubeB_ok (ht t ht')]; simp
  have HC := hide (containsFuncTube_any (fun t => !okTubeB n t) 151 #[.pointer (some ⟨w.heap.size, 0, none⟩)] tb A c (w.alloc (.cells #[.int .i64 n, .slice A tb.length c] 44)) (by omega) hcf ((hr.below b0).more b0.size) (fun t W hW => validNet1_any n t A tb.length c w.heap.size W (by omega) ((hW.cell z0).trans k0) ((hW.cell z0).trans k1)))
  rw [hany] at HC
  clear hany ht hr hcf
  go_enter Try.func96, Try.ntmps96
  go_upto_region 1 with fail
  generalize (w.alloc (.cells #[.int .i64 n, .slice A tb.length c] 44)) = w0 at *
  go_wp2_with (first | (go_at_call 115; first | (refine (within_t _ _ _ _ (by omega)).mono ?_; rintro e w' ⟨rfl, rfl⟩) | (refine (within_f _ _ _ _ (by omega)).mono ?_; rintro e w' ⟨rfl, rfl⟩)) | (go_at_call 150; refine (HC.out).mono ?_; rintro e w1 ⟨rfl, b1⟩))
  go_ret
  exact ⟨rfl, b0.trans (b1.mono b0.size)⟩
set_option maxRecDepth 100000 in
set_option maxHeartbeats 1000000 in
theorem netCode_any (n : Int) (tb : List T3) (zs : List Int) (A Az : Option Addr) (c cz : Nat) (w : World) (h : OkNet n tb) (hr : Rd3 w w.heap.size A tb) (hz : ∀ z ∈ zs, 0 ≤ z ∧ z ≤ n - 1) (hzl : zs.length ≤ 100) (hrz : RdI w w.heap.size Az zs) :
    Calls Try.prog 90 #[.agg #[.int .i64 n, .slice A tb.length c], .slice Az zs.length cz] w fun e w' => e = .returned (.int .i64 0) ∧ Below w.heap.size w w' := by
  obtain ⟨hn0, hn1⟩ := h.1
  have b0 : Below w.heap.size w (w.alloc (.cells #[.int .i64 n, .slice A tb.length c] 44)) := (by repeat (first | exact Below.refl _ _ | assumption | (refine Below.alloc ?_ (by simp <;> omega) _) | refine Below.drew ?_ | refine bdn ?_ _))
  have k0 : (w.alloc (.cells #[.int .i64 n, .slice A tb.length c] 44)).cell? ⟨w.heap.size, 0, none⟩ = some (.int .i64 n) := by simp [go_sem]
  have k1 : (w.alloc (.cells #[.int .i64 n, .slice A tb.length c] 44)).cell? ⟨w.heap.size, 1, none⟩ = some (.slice A tb.length c) := by simp [go_sem]
  have z0 : w.heap.size < (w.alloc (.cells #[.int .i64 n, .slice A tb.length c] 44)).heap.size := by simp
  have HV := hide (validNet_any n tb A c (w.alloc (.cells #[.int .i64 n, .slice A tb.length c] 44)) h ((hr.below b0).more b0.size))
  have HO := hide fun W (hW : Below w.heap.size w W) => outside_any zs 0 (n - 1) Az cz W (by omega) ((hrz.below hW).more hW.size)
  have hany : (zs.any fun z => !inB 0 (n - 1) z) = false := by
    rw [List.any_eq_false]; intro z hz'; rw [inB_t (hz z hz')]; simp
  clear h hr hz hrz
  go_enter Try.func90, Try.ntmps90
  go_upto_region 1 with fail
  generalize (w.alloc (.cells #[.int .i64 n, .slice A tb.length c] 44)) = w0 at *
  go_wp2_with (first
    | (go_at_call 96; (with_reducible refine (HV.out).mono ?_); rintro e w1 ⟨rfl, b1⟩; have q0 := (b1.cell (p := ⟨w.heap.size, 0, none⟩) z0).trans k0; have q1 := (b1.cell (p := ⟨w.heap.size, 1, none⟩) z0).trans k1; have bw1 := b0.trans (b1.mono b0.size))
    | (go_at_call 137; (with_reducible refine (HO.out _ bw1).mono ?_); rintro e w2 ⟨rfl, b2⟩; rw [hany]))
  go_ret
  exact ⟨rfl, bw1.trans (b2.mono bw1.size)⟩
end Go.Proofs.Ytlkccijlbeibjaa
namespace Go.Proofs
open Go.Shelf
end Go.Proofs
namespace Go.Proofs.Ytlkccijlbeibjaa
open Go.RowKit
theorem own_heap1 {w : World} {base : Nat} {e : TypeId} {g n : Nat} {xs : List Value} (h : w.ownsRow base e 1 (.slice (some ⟨g, 0, none⟩) n n) n xs) : w.heap[g]? = some (.cells xs.toArray e (0, 0)) := by
  rcases h.2 with ⟨e0, _⟩ | ⟨g', cap', cur, e0, hb, hg, hn, hm, hs, ht⟩
  · cases e0
  · injection e0 with e1 _ e3
    injection e1 with e1
    injection e1 with e1
    subst e1; subst e3
    rw [hg]
    have : cur.toList = xs := by rw [← ht, List.take_of_length_le]; simp [hs]
    rw [← this]
theorem heap_own1 {w : World} {base : Nat} {e : TypeId} {g n : Nat} {xs : List Value} (hl : xs.length = n) (hn : n ≤ 1048576) (hb : base ≤ g) (h : w.heap[g]? = some (.cells xs.toArray e (0, 0))) : w.ownsRow base e 1 (.slice (some ⟨g, 0, none⟩) n n) n xs :=
  ⟨by omega, .inr ⟨g, n, xs.toArray, rfl, hb, h, Nat.le_refl _, by unfold maxLen; omega, by simp [hl], by simp [← hl]⟩⟩
def repC (m n : Nat) : List Value := (List.replicate m (-1 : Int) ++ List.replicate (n - m) 0).map (Value.int .i64)
theorem repC_len {m n : Nat} (h : m ≤ n) : (repC m n).length = n := by simp [repC]; omega
theorem repC_get {m n j : Nat} (h : j < m) : (repC m n)[j]? = some (.int .i64 (-1)) := by
  unfold repC
  rw [List.getElem?_map, List.getElem?_append_left (by simpa using h), List.getElem?_replicate, if_pos h]; rfl
theorem repC_splice {m n k : Nat} (h : m + k ≤ n) : splice (repC m n) m (List.replicate k (Value.int .i64 (-1))) = repC (m + k) n := by
  apply List.ext_getElem?
  intro j
  unfold splice repC
  simp only [List.map_append, List.map_replicate, List.length_replicate]
  grind
end Go.Proofs.Ytlkccijlbeibjaa
namespace Go.Proofs.Ytlkccijlbeibjaa
open Go.RowKit

structure TN where
  way : List Int
  p : Int
  q : Int
def TN.Fits (x : TN) : Prop := (∀ z ∈ x.way, -9223372036854775808 ≤ z ∧ z ≤ 9223372036854775807) ∧ (-9223372036854775808 ≤ x.p ∧ x.p ≤ 9223372036854775807) ∧ (-9223372036854775808 ≤ x.q ∧ x.q ≤ 9223372036854775807)
/-- The cells of an element: its slice's value, and m numbers. -/
def Nc (m : Nat) (x : Value × TN) : List Value := x.1 :: [Value.int .i64 x.2.p, .int .i64 x.2.q].take m
theorem Nc_len {m : Nat} (hm : m ≤ 2) (x : Value × TN) : (Nc m x).length = m + 1 := by simp [Nc]; omega
def WayAt (w : World) (B : Nat) (p : Value × TN) : Prop := ∃ A c, p.1 = .slice A p.2.way.length c ∧ RdI w B A p.2.way
def RN (m : Nat) (w : World) (B : Nat) (A : Option Addr) (x : List TN) : Prop := ∃ ps : List (Value × TN), ps.map (·.2) = x ∧ Rd w B A (ps.flatMap (Nc m)) ∧ ∀ p ∈ ps, WayAt w B p
section
variable {m : Nat} {w w' : World} {B B' : Nat} {A : Option Addr} {x : List TN}
theorem RN.nil (m : Nat) (w : World) (B : Nat) (A : Option Addr) : RN m w B A [] := ⟨[], rfl, Rd.nil _ _ _, fun p hp => by cases hp⟩
theorem RN.below (h : RN m w B A x) (k : Below B w w') : RN m w' B A x := by
  obtain ⟨ps, h1, h2, h3⟩ := h
  refine ⟨ps, h1, h2.below k, fun p hp => ?_⟩
  obtain ⟨A', c, e, r⟩ := h3 p hp
  exact ⟨A', c, e, r.below k⟩
theorem RN.more (h : RN m w B A x) (k : B ≤ B') : RN m w B' A x := by
  obtain ⟨ps, h1, h2, h3⟩ := h
  refine ⟨ps, h1, h2.more k, fun p hp => ?_⟩
  obtain ⟨A', c, e, r⟩ := h3 p hp
  exact ⟨A', c, e, r.more k⟩
theorem RN.at_ (hm : m ≤ 2) (h : RN m w B A x) {k : Nat} (hk : k < x.length) : ∃ b o e Aw cw, A = some ⟨b, o, none⟩ ∧ b < B ∧ x[k]? = some e ∧ RdI w B Aw e.way ∧ w.cell? ⟨b, o + k * (m + 1), none⟩ = some (.slice Aw e.way.length cw) ∧
    (1 ≤ m → w.cell? ⟨b, o + k * (m + 1) + 1, none⟩ = some (.int .i64 e.p)) ∧ (2 ≤ m → w.cell? ⟨b, o + k * (m + 1) + 2, none⟩ = some (.int .i64 e.q)) := by
  obtain ⟨ps, h1, h2, h3⟩ := h
  have hl : ps.length = x.length := by rw [← h1]; simp
  obtain ⟨b, o, p, hA, hb, hp, hc⟩ := Rd.elem (Nc m) (m + 1) (Nc_len hm) h2 (by omega) (k := k) (by omega)
  obtain ⟨Aw, cw, he, hr⟩ := h3 p (List.mem_of_getElem? hp)
  refine ⟨b, o, p.2, Aw, cw, hA, hb, by rw [← h1, List.getElem?_map, hp]; rfl, hr, ?_, fun h => ?_, fun h => ?_⟩
  · have := hc 0 (by omega); rw [Nat.add_zero] at this; rw [this, ← he]; rfl
  · have := hc 1 (by omega)
    rw [this]
    match m, h, hm with
    | 1, _, _ => rfl
    | 2, _, _ => rfl
  · have := hc 2 (by omega)
    rw [this]
    obtain rfl : m = 2 := by omega
    rfl
end
def SmallN (x : List TN) : Prop := x.length + (x.map fun e => e.way.length).sum ≤ 1048576
theorem sum_get {x : List TN} : ∀ {k : Nat} {e : TN}, x[k]? = some e → e.way.length ≤ (x.map fun e => e.way.length).sum := by
  induction x with
  | nil => intro k e h; simp at h
  | cons a x ih =>
    intro k e h
    rw [List.map_cons, List.sum_cons]
    cases k with
    | zero => simp at h; subst h; omega
    | succ k => have := ih (k := k) (by simpa using h); omega
theorem SmallN.way {x : List TN} (h : SmallN x) {k : Nat} {e : TN} (he : x[k]? = some e) : e.way.length ≤ 1048576 := by
  have := sum_get he; unfold SmallN at h; omega
theorem Only.wider {lo hi lo' hi' : Nat} {w w' : World} (h : Only lo hi w w') (h1 : lo' ≤ lo) (h2 : hi ≤ hi') : Only lo' hi' w w' :=
  ⟨h.1, h.2.1, h.2.2.1, h.2.2.2.1, fun k hk ho => h.2.2.2.2 k hk (by omega)⟩
theorem OwnV.tight {e : TypeId} {s : Nat} {w : World} {lo hi g : Nat} {v : Value} {n : Nat} {xs : List Value} (h : OwnV e s w lo hi v n xs) (hg : v.ownBlock = some g) : OwnV e s w g (g + 1) v n xs := by
  refine ⟨h.1, h.2.1, ?_⟩
  rcases h.2.2 with h0 | ⟨ho, hlt⟩
  · exact .inl h0
  · refine .inr ⟨⟨ho.1, ?_⟩, fun g' hg' => by rw [hg] at hg'; cases hg'; omega⟩
    rcases ho.2 with h0 | ⟨g', cap, cur, rfl, hb, hgg, rest⟩
    · exact .inl h0
    · simp [Value.ownBlock] at hg
      subst hg
      exact .inr ⟨g', cap, cur, rfl, Nat.le_refl _, hgg, rest⟩
/-- The elements' lists are rows of the call's own, one behind the other, none in the block. -/
def FamO (w : World) (blk : Option Nat) : Nat → Nat → List (Value × TN) → Prop
  | _, _, [] => True
  | lo, hi, p :: ps => ∃ a b, lo ≤ a ∧ a ≤ b ∧ b ≤ hi ∧ (∀ g, blk = some g → b ≤ g ∨ g < a) ∧ O_Int64S w a b p.1 p.2.way ∧ FamO w blk b hi ps
theorem FamO.kept {w w' : World} {blk : Option Nat} {lo' hi' hi : Nat} (k : Only lo' hi' w w') : ∀ {ps : List (Value × TN)} {lo : Nat}, FamO w blk lo hi ps → (hi ≤ lo' ∨ hi' ≤ lo) → FamO w' blk lo hi ps := by
  intro ps
  induction ps with
  | nil => intro lo _ _; trivial
  | cons p ps ih =>
    intro lo h hd
    obtain ⟨a, b, h1, h2, h3, h4, h5, h6⟩ := h
    exact ⟨a, b, h1, h2, h3, h4, h5.kept k (by omega), ih h6 (by omega)⟩
theorem FamO.keptB {w w' : World} {g hi : Nat} (k : Only g (g + 1) w w') : ∀ {ps : List (Value × TN)} {lo : Nat}, FamO w (some g) lo hi ps → FamO w' (some g) lo hi ps := by
  intro ps
  induction ps with
  | nil => intro lo _; trivial
  | cons p ps ih =>
    intro lo h
    obtain ⟨a, b, h1, h2, h3, h4, h5, h6⟩ := h
    exact ⟨a, b, h1, h2, h3, h4, h5.kept k (by have := h4 g rfl; omega), ih h6⟩
theorem FamO.below {w w' : World} {blk : Option Nat} {B hi : Nat} (k : Below B w w') (hB : hi ≤ B) : ∀ {ps : List (Value × TN)} {lo : Nat}, FamO w blk lo hi ps → FamO w' blk lo hi ps := by
  intro ps
  induction ps with
  | nil => intro lo _; trivial
  | cons p ps ih =>
    intro lo h
    obtain ⟨a, b, h1, h2, h3, h4, h5, h6⟩ := h
    exact ⟨a, b, h1, h2, h3, h4, h5.below k (by omega), ih h6⟩
theorem FamO.widen {w : World} {blk : Option Nat} {hi hi' : Nat} (k2 : hi ≤ hi') : ∀ {ps : List (Value × TN)} {lo lo' : Nat}, FamO w blk lo hi ps → lo' ≤ lo → FamO w blk lo' hi' ps := by
  intro ps
  induction ps with
  | nil => intro lo lo' _ _; trivial
  | cons p ps ih =>
    intro lo lo' h k1
    obtain ⟨a, b, h1, h2, h3, h4, h5, h6⟩ := h
    exact ⟨a, b, by omega, h2, by omega, h4, h5, ih h6 (Nat.le_refl _)⟩
theorem FamO.blk {w : World} {blk blk' : Option Nat} {hi : Nat} : ∀ {ps : List (Value × TN)} {lo : Nat}, FamO w blk lo hi ps → (∀ g, blk' = some g → hi ≤ g ∨ g < lo) → FamO w blk' lo hi ps := by
  intro ps
  induction ps with
  | nil => intro lo _ _; trivial
  | cons p ps ih =>
    intro lo h k
    obtain ⟨a, b, h1, h2, h3, h4, h5, h6⟩ := h
    exact ⟨a, b, h1, h2, h3, fun g hg => by have := k g hg; omega, h5, ih h6 fun g hg => by have := k g hg; omega⟩
theorem FamO.snoc {w : World} {blk : Option Nat} {mid a b hi : Nat} {p : Value × TN} (h1 : mid ≤ a) (h2 : a ≤ b) (h3 : b ≤ hi) (h4 : ∀ g, blk = some g → b ≤ g ∨ g < a) (h5 : O_Int64S w a b p.1 p.2.way) : ∀ {ps : List (Value × TN)} {lo : Nat}, lo ≤ mid → FamO w blk lo mid ps → FamO w blk lo hi (ps ++ [p]) := by
  intro ps
  induction ps with
  | nil => intro lo hl _; exact ⟨a, b, by omega, h2, h3, h4, h5, trivial⟩
  | cons p' ps ih =>
    intro lo hl h
    obtain ⟨a', b', k1, k2, k3, k4, k5, k6⟩ := h
    exact ⟨a', b', k1, k2, by omega, k4, k5, ih k3 k6⟩
theorem FamO.way {w : World} {blk : Option Nat} {hi : Nat} : ∀ {ps : List (Value × TN)} {lo : Nat}, FamO w blk lo hi ps → ∀ p ∈ ps, WayAt w w.heap.size p := by
  intro ps
  induction ps with
  | nil => intro lo _ p hp; cases hp
  | cons p ps ih =>
    intro lo h
    obtain ⟨a, b, h1, h2, h3, h4, h5, h6⟩ := h
    intro p' hp
    rcases List.mem_cons.1 hp with rfl | hp
    · exact h5.r
    · exact ih h6 p' hp
theorem FamO.at_ {w : World} {blk : Option Nat} {hi : Nat} : ∀ {ps : List (Value × TN)} {lo k : Nat} {p : Value × TN}, FamO w blk lo hi ps → ps[k]? = some p → ∃ a b, lo ≤ a ∧ a ≤ b ∧ b ≤ hi ∧ (∀ g, blk = some g → b ≤ g ∨ g < a) ∧ O_Int64S w a b p.1 p.2.way := by
  intro ps
  induction ps with
  | nil => intro lo k p _ h; simp at h
  | cons p' ps ih =>
    intro lo k p h hp
    obtain ⟨a, b, h1, h2, h3, h4, h5, h6⟩ := h
    cases k with
    | zero => simp at hp; subst hp; exact ⟨a, b, h1, h2, h3, h4, h5⟩
    | succ k =>
      obtain ⟨a', b', k1, k2, k3, k4, k5⟩ := ih h6 (k := k) (p := p) (by simpa using hp)
      exact ⟨a', b', by omega, k2, k3, k4, k5⟩
/-- A list of elements, all of it the call's own. -/
def ON (T : TypeId) (m : Nat) (w : World) (lo hi : Nat) (v : Value) (x : List TN) : Prop :=
  ∃ ps : List (Value × TN), ps.map (·.2) = x ∧ OwnV T (m + 1) w lo hi v x.length (ps.flatMap (Nc m)) ∧ FamO w v.ownBlock lo hi ps ∧ SmallN x
section
variable {T : TypeId} {m : Nat} {w w' : World} {lo hi lo' hi' B : Nat} {v : Value} {x : List TN}
theorem ON.small (h : ON T m w lo hi v x) : SmallN x := by obtain ⟨_, _, _, _, h⟩ := h; exact h
theorem ON.kept (h : ON T m w lo hi v x) (k : Only lo' hi' w w') (hd : hi ≤ lo' ∨ hi' ≤ lo) : ON T m w' lo hi v x := by
  obtain ⟨ps, h1, h2, h3, h4⟩ := h
  exact ⟨ps, h1, h2.kept k hd, h3.kept k hd, h4⟩
theorem ON.below (h : ON T m w lo hi v x) (k : Below B w w') (hd : hi ≤ B) : ON T m w' lo hi v x := by
  obtain ⟨ps, h1, h2, h3, h4⟩ := h
  exact ⟨ps, h1, h2.below k hd, h3.below k hd, h4⟩
theorem ON.widen (h : ON T m w lo hi v x) (h1 : lo' ≤ lo) (h2 : hi ≤ hi') : ON T m w lo' hi' v x := by
  obtain ⟨ps, k1, k2, k3, k4⟩ := h
  exact ⟨ps, k1, k2.widen h1 h2, k3.widen h2 h1, k4⟩
theorem ON.nil (T : TypeId) (m : Nat) (w : World) (lo hi : Nat) (A : Option Addr) (c : Nat) : ON T m w lo hi (.slice A 0 c) [] := ⟨[], rfl, OwnV.nil _ _ _ _ _ _ _, trivial, by unfold SmallN; simp⟩
theorem ON.r (h : ON T m w lo hi v x) : ∃ A c, v = .slice A x.length c ∧ RN m w w.heap.size A x := by
  obtain ⟨ps, h1, h2, h3, _⟩ := h
  obtain ⟨A, c, rfl, r⟩ := h2.rd
  exact ⟨A, c, rfl, ps, h1, r, h3.way⟩
end
/-- What the marks make of the elements, and how many marks there are. -/
def mkN (m : Nat) : List TN → Int → List TN
  | [], _ => []
  | e :: es, k => ⟨mark_Int64S e.way k, if 1 ≤ m then k + e.way.length else e.p, if 2 ≤ m then k + e.way.length + 1 else e.q⟩ :: mkN m es (k + e.way.length + m)
def cntN (m : Nat) : List TN → Int
  | [] => 0
  | e :: es => e.way.length + m + cntN m es
theorem mkN_len (m : Nat) : ∀ (x : List TN) (k : Int), (mkN m x k).length = x.length := by
  intro x
  induction x with
  | nil => intro k; rfl
  | cons e es ih => intro k; rw [mkN, List.length_cons, List.length_cons, ih]
theorem mkN_sum (m : Nat) : ∀ (x : List TN) (k : Int), ((mkN m x k).map fun e => e.way.length) = x.map fun e => e.way.length := by
  intro x
  induction x with
  | nil => intro k; rfl
  | cons e es ih => intro k; rw [mkN, List.map_cons, List.map_cons, ih]; simp [mark_Int64S, marks_len]
theorem mkN_small {m : Nat} {x : List TN} {k : Int} (h : SmallN x) : SmallN (mkN m x k) := by unfold SmallN at *; rw [mkN_len, mkN_sum]; exact h
theorem mkN_append (m : Nat) : ∀ (x y : List TN) (k : Int), mkN m (x ++ y) k = mkN m x k ++ mkN m y (k + cntN m x) := by
  intro x
  induction x with
  | nil => intro y k; simp [mkN, cntN]
  | cons e es ih => intro y k; rw [List.cons_append, mkN, mkN, cntN, ih, List.cons_append]; congr 3; omega
theorem cntN_append (m : Nat) : ∀ (x y : List TN), cntN m (x ++ y) = cntN m x + cntN m y := by
  intro x
  induction x with
  | nil => intro y; simp [cntN]
  | cons e es ih => intro y; rw [List.cons_append, cntN, cntN, ih]; omega
theorem cntN_bd (m : Nat) (hm : m ≤ 2) : ∀ (x : List TN), 0 ≤ cntN m x ∧ cntN m x ≤ (x.map fun e => e.way.length).sum + 2 * (x.length : Int) := by
  intro x
  induction x with
  | nil => simp [cntN]
  | cons e es ih => rw [cntN, List.map_cons, List.sum_cons, List.length_cons]; omega
theorem mkN_get (m : Nat) : ∀ {x : List TN} {j : Nat} {e : TN} (k : Int), x[j]? = some e → (mkN m x k)[j]? = some ⟨mark_Int64S e.way (k + cntN m (x.take j)), if 1 ≤ m then k + cntN m (x.take j) + e.way.length else e.p, if 2 ≤ m then k + cntN m (x.take j) + e.way.length + 1 else e.q⟩ := by
  intro x
  induction x with
  | nil => intro j e k h; simp at h
  | cons a x ih =>
    intro j e k h
    cases j with
    | zero => simp at h; subst h; simp [mkN, cntN]
    | succ j =>
      rw [mkN, List.getElem?_cons_succ, ih _ (by simpa using h), List.take_succ_cons, cntN]
      rw [show k + a.way.length + m + cntN m (x.take j) = k + (a.way.length + m + cntN m (x.take j)) by omega]
theorem cntN_take {m : Nat} {x : List TN} {j : Nat} {e : TN} (h : x[j]? = some e) : cntN m (x.take (j + 1)) = cntN m (x.take j) + (e.way.length + m) := by
  obtain ⟨hl, he⟩ := List.getElem?_eq_some_iff.1 h
  rw [List.take_succ_eq_append_getElem hl, he, cntN_append, cntN, cntN]; omega
end Go.Proofs.Ytlkccijlbeibjaa
namespace Go.Proofs.Ytlkccijlbeibjaa
open Go.RowKit

def BoxN (w : World) (b : Nat) (cs : Array Value) (e : TypeId) : Prop := w.heap[b]? = some (.cells cs e (0, 0))
theorem BoxN.new (w : World) (cs : Array Value) (e : TypeId) : BoxN (w.alloc (.cells cs e)) w.heap.size cs e := heap_alloc_new w _
theorem BoxN.lt {w : World} {b : Nat} {cs : Array Value} {e : TypeId} (h : BoxN w b cs e) : b < w.heap.size := lt_of_block h
theorem BoxN.alloc {w : World} {b : Nat} {cs : Array Value} {e : TypeId} (h : BoxN w b cs e) (o : Obj) : BoxN (w.alloc o) b cs e := by
  have := h.lt
  unfold BoxN at *
  rw [heap_alloc_old _ _ this]; exact h
theorem BoxN.below {w w' : World} {b B : Nat} {cs : Array Value} {e : TypeId} (h : BoxN w b cs e) (k : Below B w w') (hb : b < B) : BoxN w' b cs e := (k.block b hb).trans h
theorem BoxN.cell {w : World} {b : Nat} {cs : Array Value} {e : TypeId} (h : BoxN w b cs e) (j : Nat) : w.cell? ⟨b, j, none⟩ = cs.toList[j]? := by
  rw [cell_of_row w b j cs e (0, 0) h]; simp
theorem BoxN.fro {w : World} {b : Nat} {cs : Array Value} {e : TypeId} (h : BoxN w b cs e) (j : Nat) : w.frozen? ⟨b, j, none⟩ = false := frozen_of_row w b j cs e h
theorem BoxN.set {w : World} {b : Nat} {cs : Array Value} {e : TypeId} (h : BoxN w b cs e) (j : Nat) (v : Value) : BoxN (w.setCell ⟨b, j, none⟩ v) b (cs.setIfInBounds j v) e := by
  unfold BoxN at *
  simp [World.setCell, Array.getElem?_modify, h]
theorem BoxN.other {w : World} {b b' : Nat} {cs : Array Value} {e : TypeId} (h : BoxN w b cs e) (hne : b' ≠ b) (j : Nat) (v : Value) : BoxN (w.setCell ⟨b', j, none⟩ v) b cs e := by
  unfold BoxN at *
  rw [heap_setCell_other _ ⟨b', j, none⟩ _ v (Ne.symm hne)]; exact h
theorem onlyN_set {w : World} {b j lo hi : Nat} {v : Value} (h1 : lo ≤ b) (h2 : b < hi) : Only lo hi w (w.setCell ⟨b, j, none⟩ v) :=
  ⟨rfl, rfl, rfl, by simp, fun k _ ho => heap_setCell_other w ⟨b, j, none⟩ _ v (by simp; omega)⟩
theorem eqI_refl (x : List Int) (A A2 : Option Addr) (c c2 : Nat) (w : World) (hs : x.length ≤ 9223372036854775807) (h1 : RdI w w.heap.size A x) (h2 : RdI w w.heap.size A2 x) :
    Calls Try.prog 74 #[.slice A x.length c, .slice A2 x.length c2] w fun e w' => e = .returned (.bool true) ∧ Below w.heap.size w w' := by
  have := eqInt64S_any x x A A2 c c2 w hs hs h1 h2
  rwa [decide_eq_true (rfl : x = x)] at this
def sizeN (x : List TN) : Nat := x.length + (x.map fun e => e.way.length).sum
def LenN (x : List TN) : Prop := x.length ≤ 9223372036854775807 ∧ ∀ e ∈ x, e.way.length ≤ 9223372036854775807
theorem smallN {x : List TN} (h : (sizeN x : Int) ≤ 1048576) : SmallN x := by unfold sizeN at h; unfold SmallN; omega
def zp : Value × TN := (.slice none 0 0, ⟨[], 0, 0⟩)
theorem nest_len {m n k : Nat} {ps : List (Value × TN)} (h : ps.length = k) (hk : k ≤ n) : (ps ++ List.replicate (n - k) zp).length = n := by simp; omega
theorem nest_get {n k : Nat} {ps : List (Value × TN)} (h : ps.length = k) (hk : k < n) : (ps ++ List.replicate (n - k) zp)[k]? = some zp := by
  rw [List.getElem?_append_right (by omega), List.getElem?_replicate, if_pos (by omega)]
theorem nest_set {n k : Nat} {ps : List (Value × TN)} (h : ps.length = k) (hk : k < n) (p : Value × TN) : (ps ++ List.replicate (n - k) zp).set k p = (ps ++ [p]) ++ List.replicate (n - (k + 1)) zp := by
  rw [List.set_append_right _ _ (by omega), h, Nat.sub_self, show n - k = (n - (k + 1)) + 1 by omega, List.replicate_succ, List.set_cons_zero, List.append_assoc]; rfl
theorem set_set_same {α : Type} (xs : List α) (k : Nat) (a b : α) : (xs.set k a).set k b = xs.set k b := by simp
theorem store1 {L : List (Value × TN)} {k : Nat} {y : Value × TN} (h : L[k]? = some y) (sv : Value) (e : TN) : ((L.flatMap (Nc 1)).set (k * 2) sv).set (k * 2 + 1) (.int .i64 e.p) = (L.set k (sv, e)).flatMap (Nc 1) := by
  have h1 := flatMap_set (Nc 1) 2 (fun _ => rfl) L k 0 y (sv, y.2) sv h (by omega) rfl
  rw [Nat.add_zero] at h1
  have h2 := flatMap_set (Nc 1) 2 (fun _ => rfl) (L.set k (sv, y.2)) k 1 (sv, y.2) (sv, e) (.int .i64 e.p) (List.getElem?_set_self (lt_of_get h)) (by omega) rfl
  rw [h1, h2, set_set_same]
theorem store2 {L : List (Value × TN)} {k : Nat} {y : Value × TN} (h : L[k]? = some y) (sv : Value) (e : TN) : (((L.flatMap (Nc 2)).set (k * 3) sv).set (k * 3 + 1) (.int .i64 e.p)).set (k * 3 + 2) (.int .i64 e.q) = (L.set k (sv, e)).flatMap (Nc 2) := by
  have h1 := flatMap_set (Nc 2) 3 (fun _ => rfl) L k 0 y (sv, y.2) sv h (by omega) rfl
  rw [Nat.add_zero] at h1
  have h2 := flatMap_set (Nc 2) 3 (fun _ => rfl) (L.set k (sv, y.2)) k 1 (sv, y.2) (sv, ⟨y.2.way, e.p, y.2.q⟩) (.int .i64 e.p) (List.getElem?_set_self (lt_of_get h)) (by omega) rfl
  have h3 := flatMap_set (Nc 2) 3 (fun _ => rfl) ((L.set k (sv, y.2)).set k (sv, ⟨y.2.way, e.p, y.2.q⟩)) k 2 (sv, ⟨y.2.way, e.p, y.2.q⟩) (sv, e) (.int .i64 e.q) (List.getElem?_set_self (by rw [List.length_set]; exact lt_of_get h)) (by omega) rfl
  rw [h1, h2, h3, set_set_same, set_set_same]
theorem store0 {L : List (Value × TN)} {k : Nat} {y : Value × TN} (h : L[k]? = some y) (sv : Value) (e : TN) : (L.flatMap (Nc 0)).set (k * 1) sv = (L.set k (sv, e)).flatMap (Nc 0) := by
  have h1 := flatMap_set (Nc 0) 1 (fun _ => rfl) L k 0 y (sv, e) sv h (by omega) rfl
  rw [Nat.add_zero] at h1
  exact h1
theorem szF_add {n k : Nat} {l : Int} (h : (n : Int) ≤ l) : szF (n + k) l = szF k (l - n) := by unfold szF; split <;> split <;> omega

/-! ### Int64SS -/
def R_Int64SS (w : World) (B : Nat) (v : Value) (x : List TN) : Prop := ∃ A c, v = .slice A x.length c ∧ RN 0 w B A x
def O_Int64SS (w : World) (lo hi : Nat) (v : Value) (x : List TN) : Prop := ON 22 0 w lo hi v x
theorem R_Int64SS.below {w w' : World} {B : Nat} {v : Value} {x : List TN} (h : R_Int64SS w B v x) (k : Below B w w') : R_Int64SS w' B v x := by
  obtain ⟨A, c, e, r⟩ := h; exact ⟨A, c, e, r.below k⟩
theorem R_Int64SS.more {w : World} {B B' : Nat} {v : Value} {x : List TN} (h : R_Int64SS w B v x) (k : B ≤ B') : R_Int64SS w B' v x := by
  obtain ⟨A, c, e, r⟩ := h; exact ⟨A, c, e, r.more k⟩
theorem O_Int64SS.r {w : World} {lo hi : Nat} {v : Value} {x : List TN} (h : O_Int64SS w lo hi v x) : R_Int64SS w w.heap.size v x := ON.r h
theorem O_Int64SS.small {w : World} {lo hi : Nat} {v : Value} {x : List TN} (h : O_Int64SS w lo hi v x) : SmallN x := ON.small h
theorem O_Int64SS.kept {w w' : World} {lo hi lo' hi' : Nat} {v : Value} {x : List TN} (h : O_Int64SS w lo hi v x) (k : Only lo' hi' w w') (hd : hi ≤ lo' ∨ hi' ≤ lo) : O_Int64SS w' lo hi v x := ON.kept h k hd
theorem O_Int64SS.below {w w' : World} {lo hi B : Nat} {v : Value} {x : List TN} (h : O_Int64SS w lo hi v x) (k : Below B w w') (hd : hi ≤ B) : O_Int64SS w' lo hi v x := ON.below h k hd
theorem O_Int64SS.widen {w : World} {lo hi lo' hi' : Nat} {v : Value} {x : List TN} (h : O_Int64SS w lo hi v x) (h1 : lo' ≤ lo) (h2 : hi ≤ hi') : O_Int64SS w lo' hi' v x := ON.widen h h1 h2
theorem O_Int64SS.nil (w : World) (lo hi : Nat) (A : Option Addr) (c : Nat) : O_Int64SS w lo hi (.slice A 0 c) [] := ON.nil _ _ _ _ _ _ _
def mark_Int64SS (x : List TN) (k : Int) : List TN := mkN 0 x k
def cnt_Int64SS (x : List TN) : Int := cntN 0 x
theorem O_Int64SS.cnt {w : World} {lo hi : Nat} {v : Value} {x : List TN} (h : O_Int64SS w lo hi v x) : 0 ≤ cnt_Int64SS x ∧ cnt_Int64SS x ≤ 4194304 := by
  have h1 := h.small
  have h2 := cntN_bd 0 (by omega) x
  unfold SmallN at h1
  unfold cnt_Int64SS
  omega
theorem Int64SS_info : (Try.prog.info? 22).map (fun i => (i.zero, i.size, i.bytes)) = some (some (.slice none 0 0), 1, 24) := by kernel_rfl
end Go.Proofs.Ytlkccijlbeibjaa
