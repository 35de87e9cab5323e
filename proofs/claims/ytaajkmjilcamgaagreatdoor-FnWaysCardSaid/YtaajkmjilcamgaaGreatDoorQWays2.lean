/-
  Networks in the program: what is a network, and its codes.
  Least lengths in the program: lists of one number repeated.
-/
import Derived.Test.YtaajkmjilcamgaaGreatDoorQWays1
import Derived.Deep.DeepCutAuto
import Derived.Shelf.Bits.Mul64
import Derived.Laws.CopyOwn
import Derived.Deep.RegionHeld3
namespace Go.Proofs.YtaajkmjilcamgaaGreatDoor
open Go.RowKit

/-- A tube of a valid network of n stations. -/
def OkTube (n : Int) (t : T3) : Prop := (0 ≤ t.a ∧ t.a ≤ n - 1) ∧ (0 ≤ t.b ∧ t.b ≤ n - 1) ∧ t.a ≠ t.b ∧ (1 ≤ t.c ∧ t.c ≤ 2000)
/-- A valid network. -/
def OkNet (n : Int) (tb : List T3) : Prop := (2 ≤ n ∧ n ≤ 10) ∧ tb.length ≤ 24 ∧ ∀ t ∈ tb, OkTube n t
def okTubeB (n : Int) (t : T3) : Bool := inB 0 (n - 1) t.a && inB 0 (n - 1) t.b && !(t.a == t.b) && inB 1 2000 t.c
theorem okTubeB_ok {n : Int} {t : T3} (h : OkTube n t) : okTubeB n t = true := by
  obtain ⟨h1, h2, h3, h4⟩ := h
  simp [okTubeB, inB_t h1, inB_t h2, inB_t h4, h3]
set_option maxRecDepth 100000 in
set_option maxHeartbeats 1000000 in
theorem isStation_any (n z : Int) (A : Option Addr) (m c : Nat) (w : World) (hn : 1 ≤ n ∧ n ≤ 10) :
    Calls Tryz.prog 107 #[.agg #[.int .i64 n, .slice A m c], .int .i64 z] w fun e w' => e = .returned (.bool (inB 0 (n - 1) z)) ∧ Below w.heap.size w w' := by
  obtain ⟨hn0, hn1⟩ := hn
  by_cases hz : 0 ≤ z ∧ z ≤ n - 1
  · rw [inB_t hz]
    obtain ⟨hz0, hz1⟩ := hz
    go_enter Tryz.func107, Tryz.ntmps107
    go_wp2_with (go_at_call 67; first | (refine (within_t _ _ _ _ (by omega)).mono ?_; rintro e w' ⟨rfl, rfl⟩) | (refine (within_f _ _ _ _ (by omega)).mono ?_; rintro e w' ⟨rfl, rfl⟩))
    go_ret
    exact ⟨rfl, (by repeat (first | exact Below.refl _ _ | assumption | (refine Below.alloc ?_ (by simp <;> omega) _) | refine Below.drew ?_ | refine bdn ?_ _))⟩
  · rw [inB_f (by omega)]
    have hz1 : z < 0 ∨ n - 1 < z := by omega
    clear hz
    go_enter Tryz.func107, Tryz.ntmps107
    go_wp2_with (go_at_call 67; first | (refine (within_t _ _ _ _ (by omega)).mono ?_; rintro e w' ⟨rfl, rfl⟩) | (refine (within_f _ _ _ _ (by omega)).mono ?_; rintro e w' ⟨rfl, rfl⟩))
    go_ret
    exact ⟨rfl, (by repeat (first | exact Below.refl _ _ | assumption | (refine Below.alloc ?_ (by simp <;> omega) _) | refine Below.drew ?_ | refine bdn ?_ _))⟩
set_option maxRecDepth 100000 in
set_option maxHeartbeats 2000000 in
theorem isTube_any (n : Int) (t : T3) (A : Option Addr) (m c : Nat) (w : World) (hn : 1 ≤ n ∧ n ≤ 10) :
    Calls Tryz.prog 79 #[.agg #[.int .i64 n, .slice A m c], .agg #[.int .i64 t.a, .int .i64 t.b, .int .i64 t.c]] w fun e w' => e = .returned (.bool (okTubeB n t)) ∧ Below w.heap.size w w' := by
  have HSA := hide fun W => isStation_any n t.a A m c W hn
  have HSB := hide fun W => isStation_any n t.b A m c W hn
  have b0 : Below w.heap.size w ((w.alloc (.cells #[.int .i64 n, .slice A m c] 26)).alloc (.cells #[.int .i64 t.a, .int .i64 t.b, .int .i64 t.c] 41)) := (by repeat (first | exact Below.refl _ _ | assumption | (refine Below.alloc ?_ (by simp <;> omega) _) | refine Below.drew ?_ | refine bdn ?_ _))
  have kn0 : ((w.alloc (.cells #[.int .i64 n, .slice A m c] 26)).alloc (.cells #[.int .i64 t.a, .int .i64 t.b, .int .i64 t.c] 41)).cell? ⟨w.heap.size, 0, none⟩ = some (.int .i64 n) := by simp [go_sem]
  have kn1 : ((w.alloc (.cells #[.int .i64 n, .slice A m c] 26)).alloc (.cells #[.int .i64 t.a, .int .i64 t.b, .int .i64 t.c] 41)).cell? ⟨w.heap.size, 1, none⟩ = some (.slice A m c) := by simp [go_sem]
  have kt0 : ((w.alloc (.cells #[.int .i64 n, .slice A m c] 26)).alloc (.cells #[.int .i64 t.a, .int .i64 t.b, .int .i64 t.c] 41)).cell? ⟨w.heap.size + 1, 0, none⟩ = some (.int .i64 t.a) := by simp [go_sem]
  have kt1 : ((w.alloc (.cells #[.int .i64 n, .slice A m c] 26)).alloc (.cells #[.int .i64 t.a, .int .i64 t.b, .int .i64 t.c] 41)).cell? ⟨w.heap.size + 1, 1, none⟩ = some (.int .i64 t.b) := by simp [go_sem]
  have kt2 : ((w.alloc (.cells #[.int .i64 n, .slice A m c] 26)).alloc (.cells #[.int .i64 t.a, .int .i64 t.b, .int .i64 t.c] 41)).cell? ⟨w.heap.size + 1, 2, none⟩ = some (.int .i64 t.c) := by simp [go_sem]
  have z0 : w.heap.size + 2 ≤ ((w.alloc (.cells #[.int .i64 n, .slice A m c] 26)).alloc (.cells #[.int .i64 t.a, .int .i64 t.b, .int .i64 t.c] 41)).heap.size := by simp
  clear hn
  by_cases h1 : 0 ≤ t.a ∧ t.a ≤ n - 1
  case neg =>
    have HR := hide (show okTubeB n t = false by simp [okTubeB, inB_f (show t.a < 0 ∨ n - 1 < t.a by omega)])
    rw [inB_f (show t.a < 0 ∨ n - 1 < t.a by omega)] at HSA
    clear h1
    go_enter Tryz.func79, Tryz.ntmps79
    go_upto_region 1 with fail
    generalize (w.alloc (.cells #[.int .i64 n, .slice A m c] 26)).alloc (.cells #[.int .i64 t.a, .int .i64 t.b, .int .i64 t.c] 41) = w0 at *
    go_wp2_with (first
      | (go_at_call 107; (with_reducible refine (HSA.out w0).mono ?_); rintro e w1 ⟨rfl, b1⟩; have q1 := (b1.cell (p := ⟨w.heap.size, 0, none⟩) (by dsimp only; omega)).trans kn0; have q2 := (b1.cell (p := ⟨w.heap.size, 1, none⟩) (by dsimp only; omega)).trans kn1; have q3 := (b1.cell (p := ⟨w.heap.size + 1, 0, none⟩) (by dsimp only; omega)).trans kt0; have q4 := (b1.cell (p := ⟨w.heap.size + 1, 1, none⟩) (by dsimp only; omega)).trans kt1; have q5 := (b1.cell (p := ⟨w.heap.size + 1, 2, none⟩) (by dsimp only; omega)).trans kt2; have z1 := b1.size)
      | (go_at_call 107; (with_reducible refine (HSB.out w1).mono ?_); rintro e w2 ⟨rfl, b2⟩; have r3 := (b2.cell (p := ⟨w.heap.size + 1, 0, none⟩) (by dsimp only; omega)).trans q3; have r4 := (b2.cell (p := ⟨w.heap.size + 1, 1, none⟩) (by dsimp only; omega)).trans q4; have r5 := (b2.cell (p := ⟨w.heap.size + 1, 2, none⟩) (by dsimp only; omega)).trans q5)
      | (go_at_call 67; first | (refine (within_t _ _ _ _ (by omega)).mono ?_; rintro e w' ⟨rfl, rfl⟩) | (refine (within_f _ _ _ _ (by omega)).mono ?_; rintro e w' ⟨rfl, rfl⟩)))
    go_ret
    have b1' := b0.trans (b1.mono b0.size)
    exact ⟨ret_b HR.out.symm, b1'⟩
  by_cases h2 : 0 ≤ t.b ∧ t.b ≤ n - 1
  case neg =>
    have HR := hide (show okTubeB n t = false by simp [okTubeB, inB_f (show t.b < 0 ∨ n - 1 < t.b by omega)])
    rw [inB_t h1] at HSA
    rw [inB_f (show t.b < 0 ∨ n - 1 < t.b by omega)] at HSB
    clear h1 h2
    go_enter Tryz.func79, Tryz.ntmps79
    go_upto_region 1 with fail
    generalize (w.alloc (.cells #[.int .i64 n, .slice A m c] 26)).alloc (.cells #[.int .i64 t.a, .int .i64 t.b, .int .i64 t.c] 41) = w0 at *
    go_wp2_with (first
      | (go_at_call 107; (with_reducible refine (HSA.out w0).mono ?_); rintro e w1 ⟨rfl, b1⟩; have q1 := (b1.cell (p := ⟨w.heap.size, 0, none⟩) (by dsimp only; omega)).trans kn0; have q2 := (b1.cell (p := ⟨w.heap.size, 1, none⟩) (by dsimp only; omega)).trans kn1; have q3 := (b1.cell (p := ⟨w.heap.size + 1, 0, none⟩) (by dsimp only; omega)).trans kt0; have q4 := (b1.cell (p := ⟨w.heap.size + 1, 1, none⟩) (by dsimp only; omega)).trans kt1; have q5 := (b1.cell (p := ⟨w.heap.size + 1, 2, none⟩) (by dsimp only; omega)).trans kt2; have z1 := b1.size)
      | (go_at_call 107; (with_reducible refine (HSB.out w1).mono ?_); rintro e w2 ⟨rfl, b2⟩; have r3 := (b2.cell (p := ⟨w.heap.size + 1, 0, none⟩) (by dsimp only; omega)).trans q3; have r4 := (b2.cell (p := ⟨w.heap.size + 1, 1, none⟩) (by dsimp only; omega)).trans q4; have r5 := (b2.cell (p := ⟨w.heap.size + 1, 2, none⟩) (by dsimp only; omega)).trans q5)
      | (go_at_call 67; first | (refine (within_t _ _ _ _ (by omega)).mono ?_; rintro e w' ⟨rfl, rfl⟩) | (refine (within_f _ _ _ _ (by omega)).mono ?_; rintro e w' ⟨rfl, rfl⟩)))
    go_ret
    have b1' := b0.trans (b1.mono b0.size)
    exact ⟨ret_b HR.out.symm, b1'.trans (b2.mono b1'.size)⟩
  rw [inB_t h1] at HSA
  rw [inB_t h2] at HSB
  by_cases h3 : t.a = t.b
  case pos =>
    have HR := hide (show okTubeB n t = false by simp [okTubeB, h3])
    have hB : (t.a != t.b) = false := by simp [h3]
    clear h1 h2 h3
    go_enter Tryz.func79, Tryz.ntmps79
    go_upto_region 1 with fail
    generalize (w.alloc (.cells #[.int .i64 n, .slice A m c] 26)).alloc (.cells #[.int .i64 t.a, .int .i64 t.b, .int .i64 t.c] 41) = w0 at *
    go_wp2_with (first
      | (go_at_call 107; (with_reducible refine (HSA.out w0).mono ?_); rintro e w1 ⟨rfl, b1⟩; have q1 := (b1.cell (p := ⟨w.heap.size, 0, none⟩) (by dsimp only; omega)).trans kn0; have q2 := (b1.cell (p := ⟨w.heap.size, 1, none⟩) (by dsimp only; omega)).trans kn1; have q3 := (b1.cell (p := ⟨w.heap.size + 1, 0, none⟩) (by dsimp only; omega)).trans kt0; have q4 := (b1.cell (p := ⟨w.heap.size + 1, 1, none⟩) (by dsimp only; omega)).trans kt1; have q5 := (b1.cell (p := ⟨w.heap.size + 1, 2, none⟩) (by dsimp only; omega)).trans kt2; have z1 := b1.size)
      | (go_at_call 107; (with_reducible refine (HSB.out w1).mono ?_); rintro e w2 ⟨rfl, b2⟩; have r3 := (b2.cell (p := ⟨w.heap.size + 1, 0, none⟩) (by dsimp only; omega)).trans q3; have r4 := (b2.cell (p := ⟨w.heap.size + 1, 1, none⟩) (by dsimp only; omega)).trans q4; have r5 := (b2.cell (p := ⟨w.heap.size + 1, 2, none⟩) (by dsimp only; omega)).trans q5)
      | (go_at_call 67; first | (refine (within_t _ _ _ _ (by omega)).mono ?_; rintro e w' ⟨rfl, rfl⟩) | (refine (within_f _ _ _ _ (by omega)).mono ?_; rintro e w' ⟨rfl, rfl⟩)))
    go_ret
    have b1' := b0.trans (b1.mono b0.size)
    exact ⟨ret_b HR.out.symm, b1'.trans (b2.mono b1'.size)⟩
  have hB : (t.a != t.b) = true := by simp [h3]
  by_cases h4 : 1 ≤ t.c ∧ t.c ≤ 2000
  case neg =>
    have HR := hide (show okTubeB n t = false by simp [okTubeB, inB_f (show t.c < 1 ∨ 2000 < t.c by omega)])
    have h5 : t.c < 1 ∨ 2000 < t.c := by omega
    clear h1 h2 h3 h4
    go_enter Tryz.func79, Tryz.ntmps79
    go_upto_region 1 with fail
    generalize (w.alloc (.cells #[.int .i64 n, .slice A m c] 26)).alloc (.cells #[.int .i64 t.a, .int .i64 t.b, .int .i64 t.c] 41) = w0 at *
    go_wp2_with (first
      | (go_at_call 107; (with_reducible refine (HSA.out w0).mono ?_); rintro e w1 ⟨rfl, b1⟩; have q1 := (b1.cell (p := ⟨w.heap.size, 0, none⟩) (by dsimp only; omega)).trans kn0; have q2 := (b1.cell (p := ⟨w.heap.size, 1, none⟩) (by dsimp only; omega)).trans kn1; have q3 := (b1.cell (p := ⟨w.heap.size + 1, 0, none⟩) (by dsimp only; omega)).trans kt0; have q4 := (b1.cell (p := ⟨w.heap.size + 1, 1, none⟩) (by dsimp only; omega)).trans kt1; have q5 := (b1.cell (p := ⟨w.heap.size + 1, 2, none⟩) (by dsimp only; omega)).trans kt2; have z1 := b1.size)
      | (go_at_call 107; (with_reducible refine (HSB.out w1).mono ?_); rintro e w2 ⟨rfl, b2⟩; have r3 := (b2.cell (p := ⟨w.heap.size + 1, 0, none⟩) (by dsimp only; omega)).trans q3; have r4 := (b2.cell (p := ⟨w.heap.size + 1, 1, none⟩) (by dsimp only; omega)).trans q4; have r5 := (b2.cell (p := ⟨w.heap.size + 1, 2, none⟩) (by dsimp only; omega)).trans q5)
      | (go_at_call 67; first | (refine (within_t _ _ _ _ (by omega)).mono ?_; rintro e w' ⟨rfl, rfl⟩) | (refine (within_f _ _ _ _ (by omega)).mono ?_; rintro e w' ⟨rfl, rfl⟩)))
    go_ret
    have b1' := b0.trans (b1.mono b0.size)
    exact ⟨ret_b HR.out.symm, b1'.trans (b2.mono b1'.size)⟩
  case pos =>
    have HR := hide (okTubeB_ok ⟨h1, h2, h3, h4⟩)
    obtain ⟨h5, h6⟩ := h4
    clear h1 h2 h3
    go_enter Tryz.func79, Tryz.ntmps79
    go_upto_region 1 with fail
    generalize (w.alloc (.cells #[.int .i64 n, .slice A m c] 26)).alloc (.cells #[.int .i64 t.a, .int .i64 t.b, .int .i64 t.c] 41) = w0 at *
    go_wp2_with (first
      | (go_at_call 107; (with_reducible refine (HSA.out w0).mono ?_); rintro e w1 ⟨rfl, b1⟩; have q1 := (b1.cell (p := ⟨w.heap.size, 0, none⟩) (by dsimp only; omega)).trans kn0; have q2 := (b1.cell (p := ⟨w.heap.size, 1, none⟩) (by dsimp only; omega)).trans kn1; have q3 := (b1.cell (p := ⟨w.heap.size + 1, 0, none⟩) (by dsimp only; omega)).trans kt0; have q4 := (b1.cell (p := ⟨w.heap.size + 1, 1, none⟩) (by dsimp only; omega)).trans kt1; have q5 := (b1.cell (p := ⟨w.heap.size + 1, 2, none⟩) (by dsimp only; omega)).trans kt2; have z1 := b1.size)
      | (go_at_call 107; (with_reducible refine (HSB.out w1).mono ?_); rintro e w2 ⟨rfl, b2⟩; have r3 := (b2.cell (p := ⟨w.heap.size + 1, 0, none⟩) (by dsimp only; omega)).trans q3; have r4 := (b2.cell (p := ⟨w.heap.size + 1, 1, none⟩) (by dsimp only; omega)).trans q4; have r5 := (b2.cell (p := ⟨w.heap.size + 1, 2, none⟩) (by dsimp only; omega)).trans q5)
      | (go_at_call 67; first | (refine (within_t _ _ _ _ (by omega)).mono ?_; rintro e w' ⟨rfl, rfl⟩) | (refine (within_f _ _ _ _ (by omega)).mono ?_; rintro e w' ⟨rfl, rfl⟩)))
    go_ret
    have b1' := b0.trans (b1.mono b0.size)
    exact ⟨ret_b HR.out.symm, b1'.trans (b2.mono b1'.size)⟩
set_option maxRecDepth 100000 in
set_option maxHeartbeats 1000000 in
theorem validNet1_any (n : Int) (t : T3) (A : Option Addr) (m c b : Nat) (w : World) (hn : 1 ≤ n ∧ n ≤ 10) (k0 : w.cell? ⟨b, 0, none⟩ = some (.int .i64 n)) (k1 : w.cell? ⟨b, 1, none⟩ = some (.slice A m c)) :
    Calls Tryz.prog 78 #[.agg #[.int .i64 t.a, .int .i64 t.b, .int .i64 t.c], .pointer (some ⟨b, 0, none⟩)] w fun e w' => e = .returned (.bool (!okTubeB n t)) ∧ Below w.heap.size w w' := by
  have hbl := World.block_lt_of_cell? w _ k0
  have b0 : Below w.heap.size w (w.alloc (.cells #[.int .i64 t.a, .int .i64 t.b, .int .i64 t.c] 41)) := (by repeat (first | exact Below.refl _ _ | assumption | (refine Below.alloc ?_ (by simp <;> omega) _) | refine Below.drew ?_ | refine bdn ?_ _))
  have HC := hide (isTube_any n t A m c (w.alloc (.cells #[.int .i64 t.a, .int .i64 t.b, .int .i64 t.c] 41)) hn)
  clear hn
  dsimp only at hbl
  go_enter Tryz.func78, Tryz.ntmps78
  go_wp2_with (go_at_call 79; refine (HC.out).mono ?_; rintro e w1 ⟨rfl, b1⟩)
  go_ret
  exact ⟨rfl, b0.trans (b1.mono b0.size)⟩
set_option maxRecDepth 100000 in
set_option maxHeartbeats 1000000 in
theorem validNet_any (n : Int) (tb : List T3) (A : Option Addr) (c : Nat) (w : World) (h : OkNet n tb) (hr : Rd3 w w.heap.size A tb) :
    Calls Tryz.prog 43 #[.agg #[.int .i64 n, .slice A tb.length c]] w fun e w' => e = .returned (.bool true) ∧ Below w.heap.size w w' := by
  obtain ⟨⟨hn0, hn1⟩, hl, ht⟩ := h
  have hcf := callFunc_gen (P := Tryz.prog) (F := 78) Tryz.func78 (by kernel_rfl) (by kernel_rfl)
  have b0 : Below w.heap.size w (w.alloc (.cells #[.int .i64 n, .slice A tb.length c] 26)) := (by repeat (first | exact Below.refl _ _ | assumption | (refine Below.alloc ?_ (by simp <;> omega) _) | refine Below.drew ?_ | refine bdn ?_ _))
  have k0 : (w.alloc (.cells #[.int .i64 n, .slice A tb.length c] 26)).cell? ⟨w.heap.size, 0, none⟩ = some (.int .i64 n) := by simp [go_sem]
  have k1 : (w.alloc (.cells #[.int .i64 n, .slice A tb.length c] 26)).cell? ⟨w.heap.size, 1, none⟩ = some (.slice A tb.length c) := by simp [go_sem]
  have z0 : w.heap.size < (w.alloc (.cells #[.int .i64 n, .slice A tb.length c] 26)).heap.size := by simp
  have hany : tb.any (fun t => !okTubeB n t) = false := by
    rw [List.any_eq_false]; intro t ht'; rw [okTubeB_ok (ht t ht')]; simp
  have HC := hide (containsFuncTube_any (fun t => !okTubeB n t) 78 #[.pointer (some ⟨w.heap.size, 0, none⟩)] tb A c (w.alloc (.cells #[.int .i64 n, .slice A tb.length c] 26)) (by omega) hcf ((hr.below b0).more b0.size) (fun t W hW => validNet1_any n t A tb.length c w.heap.size W (by omega) ((hW.cell z0).trans k0) ((hW.cell z0).trans k1)))
  rw [hany] at HC
  clear hany ht hr hcf
  go_enter Tryz.func43, Tryz.ntmps43
  go_upto_region 1 with fail
  generalize (w.alloc (.cells #[.int .i64 n, .slice A tb.length c] 26)) = w0 at *
  go_wp2_with (first | (go_at_call 67; first | (refine (within_t _ _ _ _ (by omega)).mono ?_; rintro e w' ⟨rfl, rfl⟩) | (refine (within_f _ _ _ _ (by omega)).mono ?_; rintro e w' ⟨rfl, rfl⟩)) | (go_at_call 77; refine (HC.out).mono ?_; rintro e w1 ⟨rfl, b1⟩))
  go_ret
  exact ⟨rfl, b0.trans (b1.mono b0.size)⟩
set_option maxRecDepth 100000 in
set_option maxHeartbeats 1000000 in
theorem netCode_any (n : Int) (tb : List T3) (zs : List Int) (A Az : Option Addr) (c cz : Nat) (w : World) (h : OkNet n tb) (hr : Rd3 w w.heap.size A tb) (hz : ∀ z ∈ zs, 0 ≤ z ∧ z ≤ n - 1) (hzl : zs.length ≤ 100) (hrz : RdI w w.heap.size Az zs) :
    Calls Tryz.prog 36 #[.agg #[.int .i64 n, .slice A tb.length c], .slice Az zs.length cz] w fun e w' => e = .returned (.int .i64 0) ∧ Below w.heap.size w w' := by
  obtain ⟨hn0, hn1⟩ := h.1
  have b0 : Below w.heap.size w (w.alloc (.cells #[.int .i64 n, .slice A tb.length c] 26)) := (by repeat (first | exact Below.refl _ _ | assumption | (refine Below.alloc ?_ (by simp <;> omega) _) | refine Below.drew ?_ | refine bdn ?_ _))
  have k0 : (w.alloc (.cells #[.int .i64 n, .slice A tb.length c] 26)).cell? ⟨w.heap.size, 0, none⟩ = some (.int .i64 n) := by simp [go_sem]
  have k1 : (w.alloc (.cells #[.int .i64 n, .slice A tb.length c] 26)).cell? ⟨w.heap.size, 1, none⟩ = some (.slice A tb.length c) := by simp [go_sem]
  have z0 : w.heap.size < (w.alloc (.cells #[.int .i64 n, .slice A tb.length c] 26)).heap.size := by simp
  have HV := hide (validNet_any n tb A c (w.alloc (.cells #[.int .i64 n, .slice A tb.length c] 26)) h ((hr.below b0).more b0.size))
  have HO := hide fun W (hW : Below w.heap.size w W) => outside_any zs 0 (n - 1) Az cz W (by omega) ((hrz.below hW).more hW.size)
  have hany : (zs.any fun z => !inB 0 (n - 1) z) = false := by
    rw [List.any_eq_false]; intro z hz'; rw [inB_t (hz z hz')]; simp
  clear h hr hz hrz
  go_enter Tryz.func36, Tryz.ntmps36
  go_upto_region 1 with fail
  generalize (w.alloc (.cells #[.int .i64 n, .slice A tb.length c] 26)) = w0 at *
  go_wp2_with (first
    | (go_at_call 43; (with_reducible refine (HV.out).mono ?_); rintro e w1 ⟨rfl, b1⟩; have q0 := (b1.cell (p := ⟨w.heap.size, 0, none⟩) z0).trans k0; have q1 := (b1.cell (p := ⟨w.heap.size, 1, none⟩) z0).trans k1; have bw1 := b0.trans (b1.mono b0.size))
    | (go_at_call 70; (with_reducible refine (HO.out _ bw1).mono ?_); rintro e w2 ⟨rfl, b2⟩; rw [hany]))
  go_ret
  exact ⟨rfl, bw1.trans (b2.mono bw1.size)⟩
end Go.Proofs.YtaajkmjilcamgaaGreatDoor
namespace Go.Proofs
open Go.Shelf
def YtaajkmjilcamgaaGreatDoor.mul_ren : Go.Shelf.Ren := ⟨fun | 212 => 97 | 263 => 114 | 264 => 115 | n => n, fun | 46 => 121 | 51 => 133 | 53 => 96 | 146 => 134 | 148 => 136 | n => n, fun | n => n⟩
theorem YtaajkmjilcamgaaGreatDoor.mul_lay : Lays.n212 Tryz.prog YtaajkmjilcamgaaGreatDoor.mul_ren := {
  mixed := by kernel_rfl
  f212 := Tryz.func97.trans (congrArg some (by kernel_rfl))
  f263 := Tryz.func114.trans (congrArg some (by kernel_rfl))
  f264 := Tryz.func115.trans (congrArg some (by kernel_rfl))
  t46 := Tryz.underlying121
  a46 := Tryz.isAgg121
  z46 := Tryz.sizeOf121
  v46 := Tryz.zeroValue121
  t51 := Tryz.underlying133
  a51 := Tryz.isAgg133
  z51 := Tryz.sizeOf133
  v51 := Tryz.zeroValue133
  t53 := Tryz.underlying96
  a53 := Tryz.isAgg96
  z53 := Tryz.sizeOf96
  v53 := Tryz.zeroValue96
  t146 := Tryz.underlying134
  a146 := Tryz.isAgg134
  z146 := Tryz.sizeOf134
  v146 := Tryz.zeroValue134
  t148 := Tryz.underlying136
  a148 := Tryz.isAgg136
  z148 := Tryz.sizeOf136
  v148 := Tryz.zeroValue136 }
end Go.Proofs
namespace Go.Proofs.YtaajkmjilcamgaaGreatDoor
open Go.RowKit
theorem own_heap1 {w : World} {base : Nat} {e : TypeId} {g n : Nat} {xs : List Value} (h : w.ownsRow base e 1 (.slice (some ⟨g, 0, none⟩) n n) n xs) : w.heap[g]? = some (.cells xs.toArray e (0, 0)) := by
  rcases h.2 with ⟨e0, _⟩ | ⟨g', cap', cur, e0, hb, hg, hn, hm, hs, ht⟩
  · cases e0
  · injection e0 with e1 _ e3
    injection e1 with e1
    injection e1 with e1
    subst e1; subst e3
    rw [hg]
    have : cur.toList = xs := by rw [← ht, List.take_of_length_le]; simp [hs]
    rw [← this]
theorem heap_own1 {w : World} {base : Nat} {e : TypeId} {g n : Nat} {xs : List Value} (hl : xs.length = n) (hn : n ≤ 1048576) (hb : base ≤ g) (h : w.heap[g]? = some (.cells xs.toArray e (0, 0))) : w.ownsRow base e 1 (.slice (some ⟨g, 0, none⟩) n n) n xs :=
  ⟨by omega, .inr ⟨g, n, xs.toArray, rfl, hb, h, Nat.le_refl _, by unfold maxLen; omega, by simp [hl], by simp [← hl]⟩⟩
def repC (m n : Nat) : List Value := (List.replicate m (-1 : Int) ++ List.replicate (n - m) 0).map (Value.int .i64)
theorem repC_len {m n : Nat} (h : m ≤ n) : (repC m n).length = n := by simp [repC]; omega
theorem repC_get {m n j : Nat} (h : j < m) : (repC m n)[j]? = some (.int .i64 (-1)) := by
  unfold repC
  rw [List.getElem?_map, List.getElem?_append_left (by simpa using h), List.getElem?_replicate, if_pos h]; rfl
theorem repC_splice {m n k : Nat} (h : m + k ≤ n) : splice (repC m n) m (List.replicate k (Value.int .i64 (-1))) = repC (m + k) n := by
  apply List.ext_getElem?
  intro j
  unfold splice repC
  simp only [List.map_append, List.map_replicate, List.length_replicate]
  grind
theorem mul1_any (n : Nat) (w : World) (hn : n ≤ 1000) : Calls Tryz.prog 97 #[.int .u64 1, .int .u64 n] w fun e w' => e = .returned (.tuple #[.int .u64 0, .int .u64 n]) ∧ w = w' := by
  refine (Any.bits_Mul YtaajkmjilcamgaaGreatDoor.mul_lay 1 n (by omega) (by omega) w).mono ?_
  rintro e w' ⟨rfl, rfl⟩
  refine ⟨?_, rfl⟩
  rw [Nat.one_mul, Nat.div_eq_of_lt (by omega), Nat.mod_eq_of_lt (by omega)]; rfl
set_option maxRecDepth 100000 in
set_option maxHeartbeats 4000000 in
theorem repeat_any (n g : Nat) (w : World) (hn : 2 ≤ n) (hn10 : n ≤ 10) (hc : w.cell? ⟨g, 0, none⟩ = some (.int .i64 (-1))) :
    Calls Tryz.prog 71 #[.slice (some ⟨g, 0, none⟩) 1 1, .int .i64 n] w fun e w' => ∃ g', e = .returned (.slice (some ⟨g', 0, none⟩) n n) ∧ w'.ownsRow w.heap.size 2 1 (.slice (some ⟨g', 0, none⟩) n n) n ((List.replicate n (-1 : Int)).map (Value.int .i64)) ∧ Below w.heap.size w w' := by
  obtain ⟨i0, hi0, hz0, hs0, hb0⟩ := info_parts int64_info
  have hsz : (Tryz.prog.info? 2).map (·.size) = some 1 := by rw [hi0, ← hs0]; rfl
  have hgl := World.block_lt_of_cell? w _ hc
  dsimp only at hgl
  have HM := hide fun W => mul1_any n W (by omega)
  go_enter Tryz.func71, Tryz.ntmps71
  go_upto_region 7 with (first | (go_at_call 97; refine (HM.out _).mono ?_; rintro e w' ⟨rfl, rfl⟩) | (refine wpList_make_full _ rfl _ _ _ rfl w.heap.size 2 i0 _ 1 Tryz.underlying31 hi0 hz0 hs0 .i64 .i64 (n : Int) (n : Int) n rfl rfl rfl rfl (by rw [hb0]; omega) (by unfold maxLen; omega) (Nat.le_refl _) ?_; intro w1 hown1 hgr1))
  have hr1 : w1.ownsRow w.heap.size 2 1 (.slice (some ⟨w.heap.size, 0, none⟩) n n) n (repC 0 n) := by
    have h := made_ints n
    rw [h] at hown1
    exact hown1
  have hb1 : Below w.heap.size w w1 := (Below.refl _ _).grown hgr1 (Nat.le_refl _) (by intro k hk; cases hk)
  have hg1 := hide (own_heap1 hr1)
  have hc1 := (hb1.cell (p := ⟨g, 0, none⟩) hgl).trans hc
  clear hown1 hgr1 hr1 hc
  have HN1 := hide (show (List.replicate 1 (Value.int .i64 (-1))).length = Nat.min 1 n by rw [List.length_replicate]; exact (Nat.min_eq_left (by omega)).symm)
  have HP1 := hide (show ∀ j v, (List.replicate 1 (Value.int .i64 (-1)))[j]? = some v → w1.cell? ((⟨g, 0, none⟩ : Addr).add j) = some v from fun j v hj => by
    match j, hj with
    | 0, hj => simp at hj; subst hj; exact hc1
    | j + 1, hj => simp at hj)
  have HF1 := hide (show 0 + (List.replicate 1 (Value.int .i64 (-1))).length ≤ (repC 0 n).length by rw [List.length_replicate, repC_len (Nat.zero_le _)]; omega)
  have HO1 := hide (show ∀ v ∈ List.replicate 1 (Value.int .i64 (-1)), v.oneCell' = true from fun v hv => by rw [List.eq_of_mem_replicate hv]; rfl)
  have HL1 := hide (show (((List.replicate 1 (Value.int .i64 (-1))).length : Nat) : Int) = 1 from rfl)
  go_wp2_with (with_reducible (refine wpList_copy_splice rfl _ _ 31 31 rfl 2 Tryz.underlying31 hsz _ _ _ _ _ _ rfl rfl w.heap.size 0 (repC 0 n) 2 hg1.out (List.replicate 1 (Value.int .i64 (-1))) HN1.out (fun _ => ⟨rfl, ⟨g, 0, none⟩, rfl, HP1.out⟩) HF1.out HO1.out w.heap.size w hb1 (Nat.le_refl _) ?_); intro w2 hg2 hb2)
  have HG2 : Hid (w2.heap[w.heap.size]? = some (.cells (repC 1 n).toArray 2 (0, 0))) := by
    have h := hg2.out
    rw [repC_splice (m := 0) (k := 1) (by omega)] at h
    exact h
  clear hg2 HN1 HP1 HF1 HO1 HL1 hg1 hb1 hc1 HM
  go_loopg [8] (n - 1) (fun gg i wr => ∃ m : Nat, 1 ≤ m ∧ m ≤ n ∧ Hid (gg = n - m) ∧ i = .int .i64 m ∧ Hid (wr.heap[w.heap.size]? = some (.cells (repC m n).toArray 2 (0, 0))) ∧ Below w.heap.size w wr)
  case atStart => exact ⟨1, Nat.le_refl _, by omega, rfl, by first | rfl | (simp) | go_num, HG2, hb2⟩
  case round =>
    obtain ⟨m, hm1, hm, hgg, rfl, HG, hb⟩ := hrel
    clear HG2 hb2
    by_cases hmt : m < n
    · have hm0 : (m : Int) < (n : Int) := by omega
      have hm9 : (m : Int) ≤ (n : Int) := by omega
      go_wp2_with fail
      have HGd : Hid (wr.drew.heap[w.heap.size]? = some (.cells (repC m n).toArray 2 (0, 0))) := HG.out
      have hbd : Below w.heap.size w wr.drew := hb.drew
      have hown := heap_own1 (repC_len hm) (by omega) (Nat.le_refl w.heap.size) HGd.out
      obtain ⟨k, hk⟩ : ∃ k, k = Nat.min m (n - m) := ⟨_, rfl⟩
      have hk1 : k ≤ m := by rw [hk]; exact Nat.min_le_left _ _
      have hk2 : k ≤ n - m := by rw [hk]; exact Nat.min_le_right _ _
      have hk0 : 1 ≤ k := by rw [hk]; exact Nat.le_min.2 ⟨hm1, by omega⟩
      have HN := hide (show (List.replicate k (Value.int .i64 (-1))).length = Nat.min m (n - m) by rw [List.length_replicate]; exact hk)
      have HP := hide (show ∀ j v, (List.replicate k (Value.int .i64 (-1)))[j]? = some v → wr.drew.cell? ((⟨w.heap.size, 0, none⟩ : Addr).add j) = some v from fun j v hj => by
        rw [List.getElem?_replicate] at hj
        split at hj
        · rename_i hjk
          have h := hown.cellAt j (by omega)
          rw [repC_get (by omega)] at h
          rw [← hj]
          have e : ((⟨w.heap.size, 0, none⟩ : Addr).add j) = ⟨w.heap.size, j, none⟩ := by by_cases hj0 : j = 0 <;> simp [Addr.add, hj0]
          rw [e]; exact h
        · cases hj)
      have HF := hide (show m + (List.replicate k (Value.int .i64 (-1))).length ≤ (repC m n).length by rw [List.length_replicate, repC_len hm]; omega)
      have HO := hide (show ∀ v ∈ List.replicate k (Value.int .i64 (-1)), v.oneCell' = true from fun v hv => by rw [List.eq_of_mem_replicate hv]; rfl)
      have HK := hide hk
      clear hown hk hb HG
      refine wp_region_held_drew (S := fun W => True) (by kernel_rfl) (trivial) (fun hHeld => ?_)
      generalize wr.drew = wd at *
      refine wpAnyH_take (i := 0) (v := ?_) rfl (by kernel_rfl) (by kernel_rfl) (by kernel_rfl) (fun _ _ _ h => h) (Or.inl ⟨by rfl, ?_⟩) (by assumption) ?_
      rotate_left 1
      · (intro w hSw; (try dsimp only at hSw); go_simp; try with_reducible rfl)
      try simp only [Act.put, List.getElem_toArray, List.getElem_cons_succ, List.getElem_cons_zero, List.setIfInBounds_toArray, List.set_cons_zero, List.set_cons_succ]
      refine wpAnyH_take (i := 1) (v := ?_) rfl (by kernel_rfl) (by kernel_rfl) (by kernel_rfl) (fun _ _ _ h => h) (Or.inl ⟨by rfl, ?_⟩) (by assumption) ?_
      rotate_left 1
      · (intro w hSw; (try dsimp only at hSw); go_simp; try with_reducible rfl)
      try simp only [Act.put, List.getElem_toArray, List.getElem_cons_succ, List.getElem_cons_zero, List.setIfInBounds_toArray, List.set_cons_zero, List.set_cons_succ]
      refine wpAnyH_take (i := 2) (v := ?_) rfl (by kernel_rfl) (by kernel_rfl) (by kernel_rfl) (fun _ _ _ h => h) (Or.inl ⟨by rfl, ?_⟩) (by assumption) ?_
      rotate_left 1
      · (intro w hSw; (try dsimp only at hSw); go_simp; try with_reducible rfl)
      try simp only [Act.put, List.getElem_toArray, List.getElem_cons_succ, List.getElem_cons_zero, List.setIfInBounds_toArray, List.set_cons_zero, List.set_cons_succ]
      refine wpAnyH_take (i := 3) (v := ?_) rfl (by kernel_rfl) (by kernel_rfl) (by kernel_rfl) (fun _ _ _ h => h) (Or.inl ⟨by rfl, ?_⟩) (by assumption) ?_
      rotate_left 1
      · (intro w hSw; (try dsimp only at hSw); go_simp; try with_reducible rfl)
      try simp only [Act.put, List.getElem_toArray, List.getElem_cons_succ, List.getElem_cons_zero, List.setIfInBounds_toArray, List.set_cons_zero, List.set_cons_succ]
      refine wpAnyH_take (i := 4) (v := ?_) rfl (by kernel_rfl) (by kernel_rfl) (by kernel_rfl) (fun _ _ _ h => h) (Or.inl ⟨by rfl, ?_⟩) (by assumption) ?_
      rotate_left 1
      · (intro w hSw; (try dsimp only at hSw); go_simp; try with_reducible rfl)
      try simp only [Act.put, List.getElem_toArray, List.getElem_cons_succ, List.getElem_cons_zero, List.setIfInBounds_toArray, List.set_cons_zero, List.set_cons_succ]
      refine wpAnyH_take (i := 5) (v := ?_) rfl (by kernel_rfl) (by kernel_rfl) (by kernel_rfl) (fun _ _ _ h => h) (Or.inl ⟨by rfl, ?_⟩) (by assumption) ?_
      rotate_left 1
      · (intro w hSw; (try dsimp only at hSw); go_simp; try with_reducible rfl)
      try simp only [Act.put, List.getElem_toArray, List.getElem_cons_succ, List.getElem_cons_zero, List.setIfInBounds_toArray, List.set_cons_zero, List.set_cons_succ]
      refine wpAnyH_take (i := 6) (v := ?_) rfl (by kernel_rfl) (by kernel_rfl) (by kernel_rfl) (fun _ _ _ h => h) (Or.inl ⟨by rfl, ?_⟩) (by assumption) ?_
      rotate_left 1
      · (intro w hSw; (try dsimp only at hSw); go_simp; try with_reducible rfl)
      try simp only [Act.put, List.getElem_toArray, List.getElem_cons_succ, List.getElem_cons_zero, List.setIfInBounds_toArray, List.set_cons_zero, List.set_cons_succ]
      refine wpAnyH_ready (rs := [7]) (by kernel_rfl) (by simp) ?_
      refine AllReadyH.cons rfl (fun K hK => ?_) AllReadyH.nil
      with_reducible refine step_copy_splice rfl (.tmp 41) (.tmp 44) 31 31 rfl 2 Tryz.underlying31 hsz _ _ _ _ _ _ rfl rfl w.heap.size m (repC m n) 2 HGd.out (List.replicate k (Value.int .i64 (-1))) HN.out (fun _ => ⟨by first | rfl | exact if_neg (by omega), ⟨w.heap.size, 0, none⟩, rfl, HP.out⟩) HF.out HO.out w.heap.size w hbd (Nat.le_refl _) ?_
      intro w4 hg4 hb4
      have HG4 : Hid (w4.heap[w.heap.size]? = some (.cells (repC (m + k) n).toArray 2 (0, 0))) := by
        have h := hg4.out
        rw [repC_splice (by omega)] at h
        exact h
      have hkl : (((List.replicate k (Value.int .i64 (-1))).length : Nat) : Int) = (k : Int) := by rw [List.length_replicate]
      rw [hkl]
      clear hg4 HN HP HF HO HGd hkl
      refine hK.out _ _ (trivial) (fun hHeld => ?_)
      clear hK K
      try simp only [Act.put, List.getElem_toArray, List.getElem_cons_succ, List.getElem_cons_zero, List.setIfInBounds_toArray, List.set_cons_zero, List.set_cons_succ]
      refine wpAnyH_take (i := 8) (v := ?_) rfl (by kernel_rfl) (by kernel_rfl) (by kernel_rfl) (fun _ _ _ h => h) (Or.inl ⟨by rfl, ?_⟩) (by assumption) ?_
      rotate_left 1
      · (intro w hSw; (try dsimp only at hSw); go_simp; try with_reducible rfl)
      try simp only [Act.put, List.getElem_toArray, List.getElem_cons_succ, List.getElem_cons_zero, List.setIfInBounds_toArray, List.set_cons_zero, List.set_cons_succ]
      refine wpAnyH_take (i := 9) (v := ?_) rfl (by kernel_rfl) (by kernel_rfl) (by kernel_rfl) (fun _ _ _ h => h) (Or.inl ⟨by rfl, ?_⟩) (by assumption) ?_
      rotate_left 1
      · (intro w hSw; (try dsimp only at hSw); go_simp; try with_reducible rfl)
      try simp only [Act.put, List.getElem_toArray, List.getElem_cons_succ, List.getElem_cons_zero, List.setIfInBounds_toArray, List.set_cons_zero, List.set_cons_succ]
      refine wpAnyH_done (by kernel_rfl) ?_ _
      go_wp2_with fail
      go_roundg (n - (m + k))
      case measure => have := hgg.out; omega
      case rel => exact ⟨m + k, by omega, by omega, rfl, by rw [show IntKind.i64.wrap ((m : Int) + (k : Int)) = (m : Int) + (k : Int) by rw [IntKind.wrap_i64] <;> omega, Int.natCast_add], HG4, hb4⟩
    · obtain rfl : m = n := by omega
      go_wp2_with fail
      go_ret
      have hg := HG.out
      have e : repC m m = (List.replicate m (-1 : Int)).map (Value.int .i64) := by simp [repC]
      rw [e] at hg
      exact ⟨w.heap.size, rfl, heap_own1 (by simp) (by omega) (Nat.le_refl _) hg, hb⟩
end Go.Proofs.YtaajkmjilcamgaaGreatDoor
