/-
  Networks in the program: what is a network, and its codes.
-/
import Derived.Test.YtflbddfmhjlknaaNetP
import Derived.Test.YtflbddfmhjlknaaRec
import Derived.Test.YtflbddfmhjlknaaLib
import Derived.Test.YtflbddfmhjlknaaLawH
import Derived.Test.YtflbddfmhjlknaaCarS
import Derived.Deep.DeepCutAuto
namespace Go.Proofs.Ytflbddfmhjlknaa
open Go.RowKit

/-- A tube of a valid network of n stations. -/
def OkTube (n : Int) (t : T3) : Prop := (0 ≤ t.a ∧ t.a ≤ n - 1) ∧ (0 ≤ t.b ∧ t.b ≤ n - 1) ∧ t.a ≠ t.b ∧ (1 ≤ t.c ∧ t.c ≤ 2000)
/-- A valid network. -/
def OkNet (n : Int) (tb : List T3) : Prop := (2 ≤ n ∧ n ≤ 10) ∧ tb.length ≤ 24 ∧ ∀ t ∈ tb, OkTube n t
def okTubeB (n : Int) (t : T3) : Bool := inB 0 (n - 1) t.a && inB 0 (n - 1) t.b && !(t.a == t.b) && inB 1 2000 t.c
theorem okTubeB_ok {n : Int} {t : T3} (h : OkTube n t) : okTubeB n t = true := by
  obtain ⟨h1, h2, h3, h4⟩ := h
  simp [okTubeB, inB_t h1, inB_t h2, inB_t h4, h3]
set_option maxRecDepth 100000 in
set_option maxHeartbeats 1000000 in
theorem isStation_any (n z : Int) (A : Option Addr) (m c : Nat) (w : World) (hn : 1 ≤ n ∧ n ≤ 10) :
    Calls Try.prog 162 #[.agg #[.int .i64 n, .slice A m c], .int .i64 z] w fun e w' => e = .returned (.bool (inB 0 (n - 1) z)) ∧ Below w.heap.size w w' := by
  obtain ⟨hn0, hn1⟩ := hn
  by_cases hz : 0 ≤ z ∧ z ≤ n - 1
  · rw [inB_t hz]
    obtain ⟨hz0, hz1⟩ := hz
    go_enter Try.func162, Try.ntmps162
    go_wp2_with (go_at_call 80; first | (refine (within_t _ _ _ _ (by omega)).mono ?_; rintro e w' ⟨rfl, rfl⟩) | (refine (within_f _ _ _ _ (by omega)).mono ?_; rintro e w' ⟨rfl, rfl⟩))
    go_ret
    exact ⟨rfl, (by repeat (first | exact Below.refl _ _ | assumption | (refine Below.alloc ?_ (by simp <;> omega) _) | refine Below.drew ?_ | refine bdn ?_ _))⟩
  · rw [inB_f (by omega)]
    have hz1 : z < 0 ∨ n - 1 < z := by omega
    clear hz
    go_enter Try.func162, Try.ntmps162
    go_wp2_with (go_at_call 80; first | (refine (within_t _ _ _ _ (by omega)).mono ?_; rintro e w' ⟨rfl, rfl⟩) | (refine (within_f _ _ _ _ (by omega)).mono ?_; rintro e w' ⟨rfl, rfl⟩))
    go_ret
    exact ⟨rfl, (by repeat (first | exact Below.refl _ _ | assumption | (refine Below.alloc ?_ (by simp <;> omega) _) | refine Below.drew ?_ | refine bdn ?_ _))⟩
set_option maxRecDepth 100000 in
set_option maxHeartbeats 2000000 in
theorem isTube_any (n : Int) (t : T3) (A : Option Addr) (m c : Nat) (w : World) (hn : 1 ≤ n ∧ n ≤ 10) :
    Calls Try.prog 136 #[.agg #[.int .i64 n, .slice A m c], .agg #[.int .i64 t.a, .int .i64 t.b, .int .i64 t.c]] w fun e w' => e = .returned (.bool (okTubeB n t)) ∧ Below w.heap.size w w' := by
  have HSA := hide fun W => isStation_any n t.a A m c W hn
  have HSB := hide fun W => isStation_any n t.b A m c W hn
  have b0 : Below w.heap.size w ((w.alloc (.cells #[.int .i64 n, .slice A m c] 87)).alloc (.cells #[.int .i64 t.a, .int .i64 t.b, .int .i64 t.c] 93)) := (by repeat (first | exact Below.refl _ _ | assumption | (refine Below.alloc ?_ (by simp <;> omega) _) | refine Below.drew ?_ | refine bdn ?_ _))
  have kn0 : ((w.alloc (.cells #[.int .i64 n, .slice A m c] 87)).alloc (.cells #[.int .i64 t.a, .int .i64 t.b, .int .i64 t.c] 93)).cell? ⟨w.heap.size, 0, none⟩ = some (.int .i64 n) := by simp [go_sem]
  have kn1 : ((w.alloc (.cells #[.int .i64 n, .slice A m c] 87)).alloc (.cells #[.int .i64 t.a, .int .i64 t.b, .int .i64 t.c] 93)).cell? ⟨w.heap.size, 1, none⟩ = some (.slice A m c) := by simp [go_sem]
  have kt0 : ((w.alloc (.cells #[.int .i64 n, .slice A m c] 87)).alloc (.cells #[.int .i64 t.a, .int .i64 t.b, .int .i64 t.c] 93)).cell? ⟨w.heap.size + 1, 0, none⟩ = some (.int .i64 t.a) := by simp [go_sem]
  have kt1 : ((w.alloc (.cells #[.int .i64 n, .slice A m c] 87)).alloc (.cells #[.int .i64 t.a, .int .i64 t.b, .int .i64 t.c] 93)).cell? ⟨w.heap.size + 1, 1, none⟩ = some (.int .i64 t.b) := by simp [go_sem]
  have kt2 : ((w.alloc (.cells #[.int .i64 n, .slice A m c] 87)).alloc (.cells #[.int .i64 t.a, .int .i64 t.b, .int .i64 t.c] 93)).cell? ⟨w.heap.size + 1, 2, none⟩ = some (.int .i64 t.c) := by simp [go_sem]
  have z0 : w.heap.size + 2 ≤ ((w.alloc (.cells #[.int .i64 n, .slice A m c] 87)).alloc (.cells #[.int .i64 t.a, .int .i64 t.b, .int .i64 t.c] 93)).heap.size := by simp
  clear hn
  by_cases h1 : 0 ≤ t.a ∧ t.a ≤ n - 1
  case neg =>
    have HR := hide (show okTubeB n t = false by simp [okTubeB, inB_f (show t.a < 0 ∨ n - 1 < t.a by omega)])
    rw [inB_f (show t.a < 0 ∨ n - 1 < t.a by omega)] at HSA
    clear h1
    go_enter Try.func136, Try.ntmps136
    go_upto_region 1 with fail
    generalize (w.alloc (.cells #[.int .i64 n, .slice A m c] 87)).alloc (.cells #[.int .i64 t.a, .int .i64 t.b, .int .i64 t.c] 93) = w0 at *
    go_wp2_with (first
      | (go_at_call 162; (with_reducible refine (HSA.out w0).mono ?_); rintro e w1 ⟨rfl, b1⟩; have q1 := (b1.cell (p := ⟨w.heap.size, 0, none⟩) (by dsimp only; omega)).trans kn0; have q2 := (b1.cell (p := ⟨w.heap.size, 1, none⟩) (by dsimp only; omega)).trans kn1; have q3 := (b1.cell (p := ⟨w.heap.size + 1, 0, none⟩) (by dsimp only; omega)).trans kt0; have q4 := (b1.cell (p := ⟨w.heap.size + 1, 1, none⟩) (by dsimp only; omega)).trans kt1; have q5 := (b1.cell (p := ⟨w.heap.size + 1, 2, none⟩) (by dsimp only; omega)).trans kt2; have z1 := b1.size)
      | (go_at_call 162; (with_reducible refine (HSB.out w1).mono ?_); rintro e w2 ⟨rfl, b2⟩; have r3 := (b2.cell (p := ⟨w.heap.size + 1, 0, none⟩) (by dsimp only; omega)).trans q3; have r4 := (b2.cell (p := ⟨w.heap.size + 1, 1, none⟩) (by dsimp only; omega)).trans q4; have r5 := (b2.cell (p := ⟨w.heap.size + 1, 2, none⟩) (by dsimp only; omega)).trans q5)
      | (go_at_call 80; first | (refine (within_t _ _ _ _ (by omega)).mono ?_; rintro e w' ⟨rfl, rfl⟩) | (refine (within_f _ _ _ _ (by omega)).mono ?_; rintro e w' ⟨rfl, rfl⟩)))
    go_ret
    have b1' := b0.trans (b1.mono b0.size)
    exact ⟨ret_b HR.out.symm, b1'⟩
  by_cases h2 : 0 ≤ t.b ∧ t.b ≤ n - 1
  case neg =>
    have HR := hide (show okTubeB n t = false by simp [okTubeB, inB_f (show t.b < 0 ∨ n - 1 < t.b by omega)])
    rw [inB_t h1] at HSA
    rw [inB_f (show t.b < 0 ∨ n - 1 < t.b by omega)] at HSB
    clear h1 h2
    go_enter Try.func136, Try.ntmps136
    go_upto_region 1 with fail
    generalize (w.alloc (.cells #[.int .i64 n, .slice A m c] 87)).alloc (.cells #[.int .i64 t.a, .int .i64 t.b, .int .i64 t.c] 93) = w0 at *
    go_wp2_with (first
      | (go_at_call 162; (with_reducible refine (HSA.out w0).mono ?_); rintro e w1 ⟨rfl, b1⟩; have q1 := (b1.cell (p := ⟨w.heap.size, 0, none⟩) (by dsimp only; omega)).trans kn0; have q2 := (b1.cell (p := ⟨w.heap.size, 1, none⟩) (by dsimp only; omega)).trans kn1; have q3 := (b1.cell (p := ⟨w.heap.size + 1, 0, none⟩) (by dsimp only; omega)).trans kt0; have q4 := (b1.cell (p := ⟨w.heap.size + 1, 1, none⟩) (by dsimp only; omega)).trans kt1; have q5 := (b1.cell (p := ⟨w.heap.size + 1, 2, none⟩) (by dsimp only; omega)).trans kt2; have z1 := b1.size)
      | (go_at_call 162; (with_reducible refine (HSB.out w1).mono ?_); rintro e w2 ⟨rfl, b2⟩; have r3 := (b2.cell (p := ⟨w.heap.size + 1, 0, none⟩) (by dsimp only; omega)).trans q3; have r4 := (b2.cell (p := ⟨w.heap.size + 1, 1, none⟩) (by dsimp only; omega)).trans q4; have r5 := (b2.cell (p := ⟨w.heap.size + 1, 2, none⟩) (by dsimp only; omega)).trans q5)
      | (go_at_call 80; first | (refine (within_t _ _ _ _ (by omega)).mono ?_; rintro e w' ⟨rfl, rfl⟩) | (refine (within_f _ _ _ _ (by omega)).mono ?_; rintro e w' ⟨rfl, rfl⟩)))
    go_ret
    have b1' := b0.trans (b1.mono b0.size)
    exact ⟨ret_b HR.out.symm, b1'.trans (b2.mono b1'.size)⟩
  rw [inB_t h1] at HSA
  rw [inB_t h2] at HSB
  by_cases h3 : t.a = t.b
  case pos =>
    have HR := hide (show okTubeB n t = false by simp [okTubeB, h3])
    have hB : (t.a != t.b) = false := by simp [h3]
    clear h1 h2 h3
    go_enter Try.func136, Try.ntmps136
    go_upto_region 1 with fail
    generalize (w.alloc (.cells #[.int .i64 n, .slice A m c] 87)).alloc (.cells #[.int .i64 t.a, .int .i64 t.b, .int .i64 t.c] 93) = w0 at *
    go_wp2_with (first
      | (go_at_call 162; (with_reducible refine (HSA.out w0).mono ?_); rintro e w1 ⟨rfl, b1⟩; have q1 := (b1.cell (p := ⟨w.heap.size, 0, none⟩) (by dsimp only; omega)).trans kn0; have q2 := (b1.cell (p := ⟨w.heap.size, 1, none⟩) (by dsimp only; omega)).trans kn1; have q3 := (b1.cell (p := ⟨w.heap.size + 1, 0, none⟩) (by dsimp only; omega)).trans kt0; have q4 := (b1.cell (p := ⟨w.heap.size + 1, 1, none⟩) (by dsimp only; omega)).trans kt1; have q5 := (b1.cell (p := ⟨w.heap.size + 1, 2, none⟩) (by dsimp only; omega)).trans kt2; have z1 := b1.size)
      | (go_at_call 162; (with_reducible refine (HSB.out w1).mono ?_); rintro e w2 ⟨rfl, b2⟩; have r3 := (b2.cell (p := ⟨w.heap.size + 1, 0, none⟩) (by dsimp only; omega)).trans q3; have r4 := (b2.cell (p := ⟨w.heap.size + 1, 1, none⟩) (by dsimp only; omega)).trans q4; have r5 := (b2.cell (p := ⟨w.heap.size + 1, 2, none⟩) (by dsimp only; omega)).trans q5)
      | (go_at_call 80; first | (refine (within_t _ _ _ _ (by omega)).mono ?_; rintro e w' ⟨rfl, rfl⟩) | (refine (within_f _ _ _ _ (by omega)).mono ?_; rintro e w' ⟨rfl, rfl⟩)))
    go_ret
    have b1' := b0.trans (b1.mono b0.size)
    exact ⟨ret_b HR.out.symm, b1'.trans (b2.mono b1'.size)⟩
  have hB : (t.a != t.b) = true := by simp [h3]
  by_cases h4 : 1 ≤ t.c ∧ t.c ≤ 2000
  case neg =>
    have HR := hide (show okTubeB n t = false by simp [okTubeB, inB_f (show t.c < 1 ∨ 2000 < t.c by omega)])
    have h5 : t.c < 1 ∨ 2000 < t.c := by omega
    clear h1 h2 h3 h4
    go_enter Try.func136, Try.ntmps136
    go_upto_region 1 with fail
    generalize (w.alloc (.cells #[.int .i64 n, .slice A m c] 87)).alloc (.cells #[.int .i64 t.a, .int .i64 t.b, .int .i64 t.c] 93) = w0 at *
    go_wp2_with (first
      | (go_at_call 162; (with_reducible refine (HSA.out w0).mono ?_); rintro e w1 ⟨rfl, b1⟩; have q1 := (b1.cell (p := ⟨w.heap.size, 0, none⟩) (by dsimp only; omega)).trans kn0; have q2 := (b1.cell (p := ⟨w.heap.size, 1, none⟩) (by dsimp only; omega)).trans kn1; have q3 := (b1.cell (p := ⟨w.heap.size + 1, 0, none⟩) (by dsimp only; omega)).trans kt0; have q4 := (b1.cell (p := ⟨w.heap.size + 1, 1, none⟩) (by dsimp only; omega)).trans kt1; have q5 := (b1.cell (p := ⟨w.heap.size + 1, 2, none⟩) (by dsimp only; omega)).trans kt2; have z1 := b1.size)
      | (go_at_call 162; (with_reducible refine (HSB.out w1).mono ?_); rintro e w2 ⟨rfl, b2⟩; have r3 := (b2.cell (p := ⟨w.heap.size + 1, 0, none⟩) (by dsimp only; omega)).trans q3; have r4 := (b2.cell (p := ⟨w.heap.size + 1, 1, none⟩) (by dsimp only; omega)).trans q4; have r5 := (b2.cell (p := ⟨w.heap.size + 1, 2, none⟩) (by dsimp only; omega)).trans q5)
      | (go_at_call 80; first | (refine (within_t _ _ _ _ (by omega)).mono ?_; rintro e w' ⟨rfl, rfl⟩) | (refine (within_f _ _ _ _ (by omega)).mono ?_; rintro e w' ⟨rfl, rfl⟩)))
    go_ret
    have b1' := b0.trans (b1.mono b0.size)
    exact ⟨ret_b HR.out.symm, b1'.trans (b2.mono b1'.size)⟩
  case pos =>
    have HR := hide (okTubeB_ok ⟨h1, h2, h3, h4⟩)
    obtain ⟨h5, h6⟩ := h4
    clear h1 h2 h3
    go_enter Try.func136, Try.ntmps136
    go_upto_region 1 with fail
    generalize (w.alloc (.cells #[.int .i64 n, .slice A m c] 87)).alloc (.cells #[.int .i64 t.a, .int .i64 t.b, .int .i64 t.c] 93) = w0 at *
    go_wp2_with (first
      | (go_at_call 162; (with_reducible refine (HSA.out w0).mono ?_); rintro e w1 ⟨rfl, b1⟩; have q1 := (b1.cell (p := ⟨w.heap.size, 0, none⟩) (by dsimp only; omega)).trans kn0; have q2 := (b1.cell (p := ⟨w.heap.size, 1, none⟩) (by dsimp only; omega)).trans kn1; have q3 := (b1.cell (p := ⟨w.heap.size + 1, 0, none⟩) (by dsimp only; omega)).trans kt0; have q4 := (b1.cell (p := ⟨w.heap.size + 1, 1, none⟩) (by dsimp only; omega)).trans kt1; have q5 := (b1.cell (p := ⟨w.heap.size + 1, 2, none⟩) (by dsimp only; omega)).trans kt2; have z1 := b1.size)
      | (go_at_call 162; (with_reducible refine (HSB.out w1).mono ?_); rintro e w2 ⟨rfl, b2⟩; have r3 := (b2.cell (p := ⟨w.heap.size + 1, 0, none⟩) (by dsimp only; omega)).trans q3; have r4 := (b2.cell (p := ⟨w.heap.size + 1, 1, none⟩) (by dsimp only; omega)).trans q4; have r5 := (b2.cell (p := ⟨w.heap.size + 1, 2, none⟩) (by dsimp only; omega)).trans q5)
      | (go_at_call 80; first | (refine (within_t _ _ _ _ (by omega)).mono ?_; rintro e w' ⟨rfl, rfl⟩) | (refine (within_f _ _ _ _ (by omega)).mono ?_; rintro e w' ⟨rfl, rfl⟩)))
    go_ret
    have b1' := b0.trans (b1.mono b0.size)
    exact ⟨ret_b HR.out.symm, b1'.trans (b2.mono b1'.size)⟩
set_option maxRecDepth 100000 in
set_option maxHeartbeats 1000000 in
theorem validNet1_any (n : Int) (t : T3) (A : Option Addr) (m c b : Nat) (w : World) (hn : 1 ≤ n ∧ n ≤ 10) (k0 : w.cell? ⟨b, 0, none⟩ = some (.int .i64 n)) (k1 : w.cell? ⟨b, 1, none⟩ = some (.slice A m c)) :
    Calls Try.prog 157 #[.agg #[.int .i64 t.a, .int .i64 t.b, .int .i64 t.c], .pointer (some ⟨b, 0, none⟩)] w fun e w' => e = .returned (.bool (!okTubeB n t)) ∧ Below w.heap.size w w' := by
  have hbl := World.block_lt_of_cell? w _ k0
  have b0 : Below w.heap.size w (w.alloc (.cells #[.int .i64 t.a, .int .i64 t.b, .int .i64 t.c] 93)) := (by repeat (first | exact Below.refl _ _ | assumption | (refine Below.alloc ?_ (by simp <;> omega) _) | refine Below.drew ?_ | refine bdn ?_ _))
  have HC := hide (isTube_any n t A m c (w.alloc (.cells #[.int .i64 t.a, .int .i64 t.b, .int .i64 t.c] 93)) hn)
  clear hn
  dsimp only at hbl
  go_enter Try.func157, Try.ntmps157
  go_wp2_with (go_at_call 136; refine (HC.out).mono ?_; rintro e w1 ⟨rfl, b1⟩)
  go_ret
  exact ⟨rfl, b0.trans (b1.mono b0.size)⟩
set_option maxRecDepth 100000 in
set_option maxHeartbeats 1000000 in
theorem validNet_any (n : Int) (tb : List T3) (A : Option Addr) (c : Nat) (w : World) (h : OkNet n tb) (hr : Rd3 w w.heap.size A tb) :
    Calls Try.prog 129 #[.agg #[.int .i64 n, .slice A tb.length c]] w fun e w' => e = .returned (.bool true) ∧ Below w.heap.size w w' := by
  obtain ⟨⟨hn0, hn1⟩, hl, ht⟩ := h
  have hcf := callFunc_gen (P := Try.prog) (F := 157) Try.func157 (by kernel_rfl) (by kernel_rfl)
  have b0 : Below w.heap.size w (w.alloc (.cells #[.int .i64 n, .slice A tb.length c] 87)) := (by repeat (first | exact Below.refl _ _ | assumption | (refine Below.alloc ?_ (by simp <;> omega) _) | refine Below.drew ?_ | refine bdn ?_ _))
  have k0 : (w.alloc (.cells #[.int .i64 n, .slice A tb.length c] 87)).cell? ⟨w.heap.size, 0, none⟩ = some (.int .i64 n) := by simp [go_sem]
  have k1 : (w.alloc (.cells #[.int .i64 n, .slice A tb.length c] 87)).cell? ⟨w.heap.size, 1, none⟩ = some (.slice A tb.length c) := by simp [go_sem]
  have z0 : w.heap.size < (w.alloc (.cells #[.int .i64 n, .slice A tb.length c] 87)).heap.size := by simp
  have hany : tb.any (fun t => !okTubeB n t) = false := by
    rw [List.any_eq_false]; intro t ht'; rw [okTubeB_ok (ht t ht')]; simp
  have HC := hide (containsFuncTube_any (fun t => !okTubeB n t) 157 #[.pointer (some ⟨w.heap.size, 0, none⟩)] tb A c (w.alloc (.cells #[.int .i64 n, .slice A tb.length c] 87)) (by omega) hcf ((hr.below b0).more b0.size) (fun t W hW => validNet1_any n t A tb.length c w.heap.size W (by omega) ((hW.cell z0).trans k0) ((hW.cell z0).trans k1)))
  rw [hany] at HC
  clear hany ht hr hcf
  go_enter Try.func129, Try.ntmps129
  go_upto_region 1 with fail
  generalize (w.alloc (.cells #[.int .i64 n, .slice A tb.length c] 87)) = w0 at *
  go_wp2_with (first | (go_at_call 80; first | (refine (within_t _ _ _ _ (by omega)).mono ?_; rintro e w' ⟨rfl, rfl⟩) | (refine (within_f _ _ _ _ (by omega)).mono ?_; rintro e w' ⟨rfl, rfl⟩)) | (go_at_call 156; refine (HC.out).mono ?_; rintro e w1 ⟨rfl, b1⟩))
  go_ret
  exact ⟨rfl, b0.trans (b1.mono b0.size)⟩
set_option maxRecDepth 100000 in
set_option maxHeartbeats 1000000 in
theorem netCode_any (n : Int) (tb : List T3) (zs : List Int) (A Az : Option Addr) (c cz : Nat) (w : World) (h : OkNet n tb) (hr : Rd3 w w.heap.size A tb) (hz : ∀ z ∈ zs, 0 ≤ z ∧ z ≤ n - 1) (hzl : zs.length ≤ 100) (hrz : RdI w w.heap.size Az zs) :
    Calls Try.prog 131 #[.agg #[.int .i64 n, .slice A tb.length c], .slice Az zs.length cz] w fun e w' => e = .returned (.int .i64 0) ∧ Below w.heap.size w w' := by
  obtain ⟨hn0, hn1⟩ := h.1
  have b0 : Below w.heap.size w (w.alloc (.cells #[.int .i64 n, .slice A tb.length c] 87)) := (by repeat (first | exact Below.refl _ _ | assumption | (refine Below.alloc ?_ (by simp <;> omega) _) | refine Below.drew ?_ | refine bdn ?_ _))
  have k0 : (w.alloc (.cells #[.int .i64 n, .slice A tb.length c] 87)).cell? ⟨w.heap.size, 0, none⟩ = some (.int .i64 n) := by simp [go_sem]
  have k1 : (w.alloc (.cells #[.int .i64 n, .slice A tb.length c] 87)).cell? ⟨w.heap.size, 1, none⟩ = some (.slice A tb.length c) := by simp [go_sem]
  have z0 : w.heap.size < (w.alloc (.cells #[.int .i64 n, .slice A tb.length c] 87)).heap.size := by simp
  have HV := hide (validNet_any n tb A c (w.alloc (.cells #[.int .i64 n, .slice A tb.length c] 87)) h ((hr.below b0).more b0.size))
  have HO := hide fun W (hW : Below w.heap.size w W) => outside_any zs 0 (n - 1) Az cz W (by omega) ((hrz.below hW).more hW.size)
  have hany : (zs.any fun z => !inB 0 (n - 1) z) = false := by
    rw [List.any_eq_false]; intro z hz'; rw [inB_t (hz z hz')]; simp
  clear h hr hz hrz
  go_enter Try.func131, Try.ntmps131
  go_upto_region 1 with fail
  generalize (w.alloc (.cells #[.int .i64 n, .slice A tb.length c] 87)) = w0 at *
  go_wp2_with (first
    | (go_at_call 129; (with_reducible refine (HV.out).mono ?_); rintro e w1 ⟨rfl, b1⟩; have q0 := (b1.cell (p := ⟨w.heap.size, 0, none⟩) z0).trans k0; have q1 := (b1.cell (p := ⟨w.heap.size, 1, none⟩) z0).trans k1; have bw1 := b0.trans (b1.mono b0.size))
    | (go_at_call 114; (with_reducible refine (HO.out _ bw1).mono ?_); rintro e w2 ⟨rfl, b2⟩; rw [hany]))
  go_ret
  exact ⟨rfl, bw1.trans (b2.mono bw1.size)⟩
end Go.Proofs.Ytflbddfmhjlknaa
