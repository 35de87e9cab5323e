/-
  The law FnExactFirstAbove returns true for every input. No condition. Printed by gen_exact.py.
-/
import Derived.Test.YtckkmgbclefljaaZon8
import Derived.Test.YtckkmgbclefljaaLawH
import Derived.Test.YtckkmgbclefljaaRows
import Derived.Test.YtckkmgbclefljaaOpenW
import Derived.Test.YtckkmgbclefljaaOpenZ
import Derived.ProofKit
import Derived.OpenShut
import Derived.Deep.RegionHeld3
namespace Go.Proofs.Ytckkmgbclefljaa
open Go.ChangeShapes Go.WideShapes Go.ChangeAt Go.RowKit

set_option maxRecDepth 100000 in
set_option maxHeartbeats 4000000 in
theorem xFirstAbove_walk (x_z : TZ) (v_z : Value) (z_zone : Int) (z_least : Int) (z_from : Int) (z_ticks : Int) (w : World) (r_z : R_Zoned w w.heap.size v_z x_z) (n_z : Len_Zoned x_z) (f_z : Fit_Zoned x_z) (lo_zone : -9223372036854775808 ≤ z_zone) (hi_zone : z_zone ≤ 9223372036854775807) (lo_least : -9223372036854775808 ≤ z_least) (hi_least : z_least ≤ 9223372036854775807) (lo_from : -9223372036854775808 ≤ z_from) (hi_from : z_from ≤ 9223372036854775807) (lo_ticks : -9223372036854775808 ≤ z_ticks) (hi_ticks : z_ticks ≤ 9223372036854775807) :
    Calls Try.prog 12 #[v_z, (.int .i64 z_zone), (.int .i64 z_least), (.int .i64 z_from), (.int .i64 z_ticks)] w fun e w' => e = .returned (.bool true) ∧ Below w.heap.size w w' := by
  have r0_z := r_z
  obtain ⟨A_z, c_z, B_z, d_z, rfl, _, _⟩ := r0_z
  by_cases g0 : ((size_Zoned x_z) : Int) ≤ (1048576 : Int)
  case neg =>
    go_enter Try.func12, Try.ntmps12
    have b0 : Below w.heap.size w (w.alloc (.cells #[.int .i64 x_z.z, .slice A_z x_z.of.length c_z, .slice B_z x_z.ch.length d_z] 31)) := (by repeat (first | exact Below.refl _ _ | assumption | (refine Below.alloc ?_ (by simp <;> omega) _) | refine Below.drew ?_ | refine bdn ?_ _))
    have z0 : w.heap.size + 1 ≤ (w.alloc (.cells #[.int .i64 x_z.z, .slice A_z x_z.of.length c_z, .slice B_z x_z.ch.length d_z] 31)).heap.size := by simp
    have kc0 : (w.alloc (.cells #[.int .i64 x_z.z, .slice A_z x_z.of.length c_z, .slice B_z x_z.ch.length d_z] 31)).cell? ⟨w.heap.size, 0, none⟩ = some (.int .i64 x_z.z) := by simp [go_sem]
    have kc1 : (w.alloc (.cells #[.int .i64 x_z.z, .slice A_z x_z.of.length c_z, .slice B_z x_z.ch.length d_z] 31)).cell? ⟨w.heap.size, 1, none⟩ = some (.slice A_z x_z.of.length c_z) := by simp [go_sem]
    have kc2 : (w.alloc (.cells #[.int .i64 x_z.z, .slice A_z x_z.of.length c_z, .slice B_z x_z.ch.length d_z] 31)).cell? ⟨w.heap.size, 2, none⟩ = some (.slice B_z x_z.ch.length d_z) := by simp [go_sem]
    go_wp2_with fail
    generalize (w.alloc (.cells #[.int .i64 x_z.z, .slice A_z x_z.of.length c_z, .slice B_z x_z.ch.length d_z] 31)) = w0 at *
    have q0 : Below (w.heap.size + 1) w0 w0 ∧ w0.cell? ⟨w.heap.size, 0, none⟩ = some (.int .i64 x_z.z) ∧ w0.cell? ⟨w.heap.size, 1, none⟩ = some (.slice A_z x_z.of.length c_z) ∧ w0.cell? ⟨w.heap.size, 2, none⟩ = some (.slice B_z x_z.ch.length d_z) := ⟨Below.refl _ _, kc0, kc1, kc2⟩
    have hsz0 := hide (szF_no (n := (size_Zoned x_z)) (left := (1048576 : Int)) (by omega))
    go_wp2_with fail
    refine (L_sz_Zoned x_z (.agg #[.int .i64 x_z.z, .slice A_z x_z.of.length c_z, .slice B_z x_z.ch.length d_z]) _ w.heap.size _ n_z (by omega) (by omega) (r_z.below b0)).mono ?_
    rintro e w1 ⟨rfl, s1⟩
    rw [hsz0.out]
    have z1 := s1.size
    have b1 : Below w.heap.size w w1 := b0.trans (s1.mono b0.size)
    have q1 : Below (w.heap.size + 1) w0 w1 ∧ w1.cell? ⟨w.heap.size, 0, none⟩ = some (.int .i64 x_z.z) ∧ w1.cell? ⟨w.heap.size, 1, none⟩ = some (.slice A_z x_z.of.length c_z) ∧ w1.cell? ⟨w.heap.size, 2, none⟩ = some (.slice B_z x_z.ch.length d_z) := ⟨q0.1.trans (s1.mono (by omega)), (s1.cell (by dsimp only; omega)).trans q0.2.1, (s1.cell (by dsimp only; omega)).trans q0.2.2.1, (s1.cell (by dsimp only; omega)).trans q0.2.2.2⟩
    clear kc0 kc1 kc2
    go_wp2_with fail
    go_ret
    exact ⟨rfl, b1⟩
  have m_z : Small_Zoned x_z := small_Zoned (by omega)
  go_enter Try.func12, Try.ntmps12
  have b0 : Below w.heap.size w (w.alloc (.cells #[.int .i64 x_z.z, .slice A_z x_z.of.length c_z, .slice B_z x_z.ch.length d_z] 31)) := (by repeat (first | exact Below.refl _ _ | assumption | (refine Below.alloc ?_ (by simp <;> omega) _) | refine Below.drew ?_ | refine bdn ?_ _))
  have z0 : w.heap.size + 1 ≤ (w.alloc (.cells #[.int .i64 x_z.z, .slice A_z x_z.of.length c_z, .slice B_z x_z.ch.length d_z] 31)).heap.size := by simp
  have kc0 : (w.alloc (.cells #[.int .i64 x_z.z, .slice A_z x_z.of.length c_z, .slice B_z x_z.ch.length d_z] 31)).cell? ⟨w.heap.size, 0, none⟩ = some (.int .i64 x_z.z) := by simp [go_sem]
  have kc1 : (w.alloc (.cells #[.int .i64 x_z.z, .slice A_z x_z.of.length c_z, .slice B_z x_z.ch.length d_z] 31)).cell? ⟨w.heap.size, 1, none⟩ = some (.slice A_z x_z.of.length c_z) := by simp [go_sem]
  have kc2 : (w.alloc (.cells #[.int .i64 x_z.z, .slice A_z x_z.of.length c_z, .slice B_z x_z.ch.length d_z] 31)).cell? ⟨w.heap.size, 2, none⟩ = some (.slice B_z x_z.ch.length d_z) := by simp [go_sem]
  go_wp2_with fail
  generalize (w.alloc (.cells #[.int .i64 x_z.z, .slice A_z x_z.of.length c_z, .slice B_z x_z.ch.length d_z] 31)) = w0 at *
  have q0 : Below (w.heap.size + 1) w0 w0 ∧ w0.cell? ⟨w.heap.size, 0, none⟩ = some (.int .i64 x_z.z) ∧ w0.cell? ⟨w.heap.size, 1, none⟩ = some (.slice A_z x_z.of.length c_z) ∧ w0.cell? ⟨w.heap.size, 2, none⟩ = some (.slice B_z x_z.ch.length d_z) := ⟨Below.refl _ _, kc0, kc1, kc2⟩
  have hsz0 := hide (szF_yes (n := (size_Zoned x_z)) (left := (1048576 : Int)) (by omega))
  go_wp2_with fail
  refine (L_sz_Zoned x_z (.agg #[.int .i64 x_z.z, .slice A_z x_z.of.length c_z, .slice B_z x_z.ch.length d_z]) _ w.heap.size _ n_z (by omega) (by omega) (r_z.below b0)).mono ?_
  rintro e w1 ⟨rfl, s1⟩
  rw [hsz0.out]
  have z1 := s1.size
  have b1 : Below w.heap.size w w1 := b0.trans (s1.mono b0.size)
  have q1 : Below (w.heap.size + 1) w0 w1 ∧ w1.cell? ⟨w.heap.size, 0, none⟩ = some (.int .i64 x_z.z) ∧ w1.cell? ⟨w.heap.size, 1, none⟩ = some (.slice A_z x_z.of.length c_z) ∧ w1.cell? ⟨w.heap.size, 2, none⟩ = some (.slice B_z x_z.ch.length d_z) := ⟨q0.1.trans (s1.mono (by omega)), (s1.cell (by dsimp only; omega)).trans q0.2.1, (s1.cell (by dsimp only; omega)).trans q0.2.2.1, (s1.cell (by dsimp only; omega)).trans q0.2.2.2⟩
  clear kc0 kc1 kc2
  have kk := q1.2
  obtain ⟨kc0, kc1, kc2⟩ := kk
  go_wp2_with fail
  refine (L_to_Zoned x_z (.agg #[.int .i64 x_z.z, .slice A_z x_z.of.length c_z, .slice B_z x_z.ch.length d_z]) _ m_z ((r_z.below b1).more b1.size)).mono ?_
  rintro e w2 ⟨v_t1, rfl, o_t1, s2⟩
  have z2 := s2.size
  have b2 : Below w.heap.size w w2 := b1.trans (s2.mono b1.size)
  have q2 : Below (w.heap.size + 1) w0 w2 ∧ w2.cell? ⟨w.heap.size, 0, none⟩ = some (.int .i64 x_z.z) ∧ w2.cell? ⟨w.heap.size, 1, none⟩ = some (.slice A_z x_z.of.length c_z) ∧ w2.cell? ⟨w.heap.size, 2, none⟩ = some (.slice B_z x_z.ch.length d_z) := ⟨q1.1.trans (s2.mono (by omega)), (s2.cell (by dsimp only; omega)).trans q1.2.1, (s2.cell (by dsimp only; omega)).trans q1.2.2.1, (s2.cell (by dsimp only; omega)).trans q1.2.2.2⟩
  go_wp2_with fail
  refine (S_FirstAbove x_z v_t1 z_zone z_least z_from z_ticks _ m_z f_z o_t1.r lo_zone hi_zone lo_least hi_least lo_from hi_from lo_ticks hi_ticks).mono ?_
  rintro e w3 ⟨rfl, s3⟩
  have z3 := s3.size
  have b3 : Below w.heap.size w w3 := b2.trans (s3.mono b2.size)
  have q3 : Below (w.heap.size + 1) w0 w3 ∧ w3.cell? ⟨w.heap.size, 0, none⟩ = some (.int .i64 x_z.z) ∧ w3.cell? ⟨w.heap.size, 1, none⟩ = some (.slice A_z x_z.of.length c_z) ∧ w3.cell? ⟨w.heap.size, 2, none⟩ = some (.slice B_z x_z.ch.length d_z) := ⟨q2.1.trans (s3.mono (by omega)), (s3.cell (by dsimp only; omega)).trans q2.2.1, (s3.cell (by dsimp only; omega)).trans q2.2.2.1, (s3.cell (by dsimp only; omega)).trans q2.2.2.2⟩
  clear o_t1
  clear kc0 kc1 kc2
  have kk := q3.2
  obtain ⟨kc0, kc1, kc2⟩ := kk
  go_wp2_with fail
  refine (L_to_Zoned x_z (.agg #[.int .i64 x_z.z, .slice A_z x_z.of.length c_z, .slice B_z x_z.ch.length d_z]) _ m_z ((r_z.below b3).more b3.size)).mono ?_
  rintro e w4 ⟨v_x0, rfl, o_x0, s4⟩
  have z4 := s4.size
  have b4 : Below w.heap.size w w4 := b3.trans (s4.mono b3.size)
  have q4 : Below (w.heap.size + 1) w0 w4 ∧ w4.cell? ⟨w.heap.size, 0, none⟩ = some (.int .i64 x_z.z) ∧ w4.cell? ⟨w.heap.size, 1, none⟩ = some (.slice A_z x_z.of.length c_z) ∧ w4.cell? ⟨w.heap.size, 2, none⟩ = some (.slice B_z x_z.ch.length d_z) := ⟨q3.1.trans (s4.mono (by omega)), (s4.cell (by dsimp only; omega)).trans q3.2.1, (s4.cell (by dsimp only; omega)).trans q3.2.2.1, (s4.cell (by dsimp only; omega)).trans q3.2.2.2⟩
  obtain ⟨A_x0, c_x0, B_x0, d_x0, e_x0, _, _⟩ := o_x0.r
  subst e_x0
  clear kc0 kc1 kc2
  have s5 : Below w4.heap.size w4 (w4.alloc (.cells #[.int .i64 x_z.z, .slice A_x0 x_z.of.length c_x0, .slice B_x0 x_z.ch.length d_x0] 36)) := (Below.refl _ _).alloc (Nat.le_refl _) _
  have z5 : w4.heap.size + 1 ≤ (w4.alloc (.cells #[.int .i64 x_z.z, .slice A_x0 x_z.of.length c_x0, .slice B_x0 x_z.ch.length d_x0] 36)).heap.size := by simp
  have b5 : Below w.heap.size w (w4.alloc (.cells #[.int .i64 x_z.z, .slice A_x0 x_z.of.length c_x0, .slice B_x0 x_z.ch.length d_x0] 36)) := b4.trans (s5.mono b4.size)
  have q5 : Below (w.heap.size + 1) w0 (w4.alloc (.cells #[.int .i64 x_z.z, .slice A_x0 x_z.of.length c_x0, .slice B_x0 x_z.ch.length d_x0] 36)) ∧ (w4.alloc (.cells #[.int .i64 x_z.z, .slice A_x0 x_z.of.length c_x0, .slice B_x0 x_z.ch.length d_x0] 36)).cell? ⟨w.heap.size, 0, none⟩ = some (.int .i64 x_z.z) ∧ (w4.alloc (.cells #[.int .i64 x_z.z, .slice A_x0 x_z.of.length c_x0, .slice B_x0 x_z.ch.length d_x0] 36)).cell? ⟨w.heap.size, 1, none⟩ = some (.slice A_z x_z.of.length c_z) ∧ (w4.alloc (.cells #[.int .i64 x_z.z, .slice A_x0 x_z.of.length c_x0, .slice B_x0 x_z.ch.length d_x0] 36)).cell? ⟨w.heap.size, 2, none⟩ = some (.slice B_z x_z.ch.length d_z) ∧ (w4.alloc (.cells #[.int .i64 x_z.z, .slice A_x0 x_z.of.length c_x0, .slice B_x0 x_z.ch.length d_x0] 36)).cell? ⟨w4.heap.size, 0, none⟩ = some (.int .i64 x_z.z) ∧ (w4.alloc (.cells #[.int .i64 x_z.z, .slice A_x0 x_z.of.length c_x0, .slice B_x0 x_z.ch.length d_x0] 36)).cell? ⟨w4.heap.size, 1, none⟩ = some (.slice A_x0 x_z.of.length c_x0) ∧ (w4.alloc (.cells #[.int .i64 x_z.z, .slice A_x0 x_z.of.length c_x0, .slice B_x0 x_z.ch.length d_x0] 36)).cell? ⟨w4.heap.size, 2, none⟩ = some (.slice B_x0 x_z.ch.length d_x0) := ⟨q4.1.trans (s5.mono (by omega)), (s5.cell (by dsimp only; omega)).trans q4.2.1, (s5.cell (by dsimp only; omega)).trans q4.2.2.1, (s5.cell (by dsimp only; omega)).trans q4.2.2.2, (by simp [go_sem]), (by simp [go_sem]), (by simp [go_sem])⟩
  replace o_x0 := o_x0.below s5 (by omega)
  go_wp2_with fail
  generalize (w4.alloc (.cells #[.int .i64 x_z.z, .slice A_x0 x_z.of.length c_x0, .slice B_x0 x_z.ch.length d_x0] 36)) = w5 at *
  have kk := q5.2
  obtain ⟨kc0, kc1, kc2, kc3, kc4, kc5⟩ := kk
  refine (P_FirstAbove x_z (.agg #[.int .i64 x_z.z, .slice A_x0 x_z.of.length c_x0, .slice B_x0 x_z.ch.length d_x0]) z_zone z_least z_from z_ticks _ m_z f_z o_x0.r lo_zone hi_zone lo_least hi_least lo_from hi_from lo_ticks hi_ticks).mono ?_
  rintro e w6 ⟨rfl, s6⟩
  have z6 := s6.size
  have b6 : Below w.heap.size w w6 := b5.trans (s6.mono b5.size)
  have q6 : Below (w.heap.size + 1) w0 w6 ∧ w6.cell? ⟨w.heap.size, 0, none⟩ = some (.int .i64 x_z.z) ∧ w6.cell? ⟨w.heap.size, 1, none⟩ = some (.slice A_z x_z.of.length c_z) ∧ w6.cell? ⟨w.heap.size, 2, none⟩ = some (.slice B_z x_z.ch.length d_z) ∧ w6.cell? ⟨w4.heap.size, 0, none⟩ = some (.int .i64 x_z.z) ∧ w6.cell? ⟨w4.heap.size, 1, none⟩ = some (.slice A_x0 x_z.of.length c_x0) ∧ w6.cell? ⟨w4.heap.size, 2, none⟩ = some (.slice B_x0 x_z.ch.length d_x0) := ⟨q5.1.trans (s6.mono (by omega)), (s6.cell (by dsimp only; omega)).trans q5.2.1, (s6.cell (by dsimp only; omega)).trans q5.2.2.1, (s6.cell (by dsimp only; omega)).trans q5.2.2.2.1, (s6.cell (by dsimp only; omega)).trans q5.2.2.2.2.1, (s6.cell (by dsimp only; omega)).trans q5.2.2.2.2.2.1, (s6.cell (by dsimp only; omega)).trans q5.2.2.2.2.2.2⟩
  replace o_x0 := o_x0.below s6 (by omega)
  clear kc0 kc1 kc2 kc3 kc4 kc5
  have kk := q6.2
  obtain ⟨kc0, kc1, kc2, kc3, kc4, kc5⟩ := kk
  go_wp2_with fail
  have bd6 : Below w.heap.size w w6.drew := b6.drew
  have qd6 : Below (w.heap.size + 1) w0 w6.drew ∧ w6.drew.cell? ⟨w.heap.size, 0, none⟩ = some (.int .i64 x_z.z) ∧ w6.drew.cell? ⟨w.heap.size, 1, none⟩ = some (.slice A_z x_z.of.length c_z) ∧ w6.drew.cell? ⟨w.heap.size, 2, none⟩ = some (.slice B_z x_z.ch.length d_z) ∧ w6.drew.cell? ⟨w4.heap.size, 0, none⟩ = some (.int .i64 x_z.z) ∧ w6.drew.cell? ⟨w4.heap.size, 1, none⟩ = some (.slice A_x0 x_z.of.length c_x0) ∧ w6.drew.cell? ⟨w4.heap.size, 2, none⟩ = some (.slice B_x0 x_z.ch.length d_x0) := ⟨q6.1.drew, q6.2⟩
  replace o_x0 : O_Zoned w6.drew w3.heap.size w4.heap.size (.agg #[.int .i64 x_z.z, .slice A_x0 x_z.of.length c_x0, .slice B_x0 x_z.ch.length d_x0]) (x_z) := o_x0
  have zd6a : w6.heap.size ≤ w6.drew.heap.size := Nat.le_refl _
  have zd6b : w6.drew.heap.size ≤ w6.heap.size := Nat.le_refl _
  go_region_held3 (fun W => Below (w.heap.size + 1) w0 W ∧ W.cell? ⟨w.heap.size, 0, none⟩ = some (.int .i64 x_z.z) ∧ W.cell? ⟨w.heap.size, 1, none⟩ = some (.slice A_z x_z.of.length c_z) ∧ W.cell? ⟨w.heap.size, 2, none⟩ = some (.slice B_z x_z.ch.length d_z) ∧ W.cell? ⟨w4.heap.size, 0, none⟩ = some (.int .i64 x_z.z) ∧ W.cell? ⟨w4.heap.size, 1, none⟩ = some (.slice A_x0 x_z.of.length c_x0) ∧ W.cell? ⟨w4.heap.size, 2, none⟩ = some (.slice B_x0 x_z.ch.length d_x0))
    (first | exact qd6 | exact q7 | exact q8)
    (first | (go_at_call 21; (with_reducible refine (L_to_Zoned x_z (.agg #[.int .i64 x_z.z, .slice A_z x_z.of.length c_z, .slice B_z x_z.ch.length d_z]) _ m_z ((r_z.below bd6).more bd6.size)).mono ?_); rintro e w7 ⟨v_t2, rfl, o_t2, s7⟩; have z7 := s7.size; have b7 : Below w.heap.size w w7 := bd6.trans (s7.mono bd6.size); have q7 : Below (w.heap.size + 1) w0 w7 ∧ w7.cell? ⟨w.heap.size, 0, none⟩ = some (.int .i64 x_z.z) ∧ w7.cell? ⟨w.heap.size, 1, none⟩ = some (.slice A_z x_z.of.length c_z) ∧ w7.cell? ⟨w.heap.size, 2, none⟩ = some (.slice B_z x_z.ch.length d_z) ∧ w7.cell? ⟨w4.heap.size, 0, none⟩ = some (.int .i64 x_z.z) ∧ w7.cell? ⟨w4.heap.size, 1, none⟩ = some (.slice A_x0 x_z.of.length c_x0) ∧ w7.cell? ⟨w4.heap.size, 2, none⟩ = some (.slice B_x0 x_z.ch.length d_x0) := ⟨qd6.1.trans (s7.mono (by omega)), (s7.cell (by dsimp only; omega)).trans qd6.2.1, (s7.cell (by dsimp only; omega)).trans qd6.2.2.1, (s7.cell (by dsimp only; omega)).trans qd6.2.2.2.1, (s7.cell (by dsimp only; omega)).trans qd6.2.2.2.2.1, (s7.cell (by dsimp only; omega)).trans qd6.2.2.2.2.2.1, (s7.cell (by dsimp only; omega)).trans qd6.2.2.2.2.2.2⟩; replace o_x0 := o_x0.below s7 (by omega)) | (go_at_call 23; (with_reducible refine (L_eq_Zoned _ _ _ _ _ _ _ _ o_x0 o_t2).mono ?_); rintro e w8 ⟨rfl, s8⟩; have z8 := s8.size; have b8 : Below w.heap.size w w8 := b7.trans (s8.mono b7.size); have q8 : Below (w.heap.size + 1) w0 w8 ∧ w8.cell? ⟨w.heap.size, 0, none⟩ = some (.int .i64 x_z.z) ∧ w8.cell? ⟨w.heap.size, 1, none⟩ = some (.slice A_z x_z.of.length c_z) ∧ w8.cell? ⟨w.heap.size, 2, none⟩ = some (.slice B_z x_z.ch.length d_z) ∧ w8.cell? ⟨w4.heap.size, 0, none⟩ = some (.int .i64 x_z.z) ∧ w8.cell? ⟨w4.heap.size, 1, none⟩ = some (.slice A_x0 x_z.of.length c_x0) ∧ w8.cell? ⟨w4.heap.size, 2, none⟩ = some (.slice B_x0 x_z.ch.length d_x0) := ⟨q7.1.trans (s8.mono (by omega)), (s8.cell (by dsimp only; omega)).trans q7.2.1, (s8.cell (by dsimp only; omega)).trans q7.2.2.1, (s8.cell (by dsimp only; omega)).trans q7.2.2.2.1, (s8.cell (by dsimp only; omega)).trans q7.2.2.2.2.1, (s8.cell (by dsimp only; omega)).trans q7.2.2.2.2.2.1, (s8.cell (by dsimp only; omega)).trans q7.2.2.2.2.2.2⟩; replace o_x0 := o_x0.below s8 (by omega); replace o_t2 := o_t2.below s8 (by omega); clear o_t2))
  clear kc0 kc1 kc2 kc3 kc4 kc5
  go_wp2_with fail
  go_ret
  exact ⟨rfl, b8⟩

theorem fnExactFirstAbove_own : ownKnob Try.prog.godebug = none := by kernel_rfl
theorem fnExactFirstAbove_laid : laidOutB Try.prog = true := by kernel_rfl
set_option maxRecDepth 100000 in
theorem fnExactFirstAbove_lifted (os : Os) (started : os.Started) (H : Type) (enc : TypeId × Value → H) :
    ReturnsInHanded {} Try.checked os 12 .any (Rows.fnExactFirstAboveSpec.pre6 enc Try.prog Try.f12 Rows.fnExactFirstAboveRow.domain false) (Rows.fnExactFirstAboveSpec.post enc Try.prog Try.f12 false true false false) := by
  refine returnsInHanded_of_change (C := Try.checked) fnExactFirstAbove_own started (by kernel_rfl) Try.func12
    (ChangeSpec.witness6 (enc := enc) (C := Try.checked) false ⟨#[], #[.agg #[.int .i64 0, .slice none 0 0, .slice none 0 0], .int .i64 0, .int .i64 0, .int .i64 0, .int .i64 0], []⟩ 8 (by kernel_rfl) (by kernel_rfl) (by kernel_rfl) (by kernel_rfl)) ?_
  intro W base args ds gs before hval0 hW hcnd _
  have hval : ∀ (j : Nat) t v, Try.f12.params[j]? = some t → args[j]? = some v → Value.okWide Try.prog W .any base t v := hval0
  have hW' := hW
  obtain ⟨p, q, hA0, hV, rfl, hfz, hnd⟩ := hW
  have hA : DataW.TrodAll enc Try.prog W 0 (fun _ => true) true Try.f12.params.toList args.toList ds p := hA0
  rw [Try.params12] at hA hval
  obtain ⟨v0, vs0, d0, ds0, p0, q0, hargs, rfl, rfl, h0, r0⟩ := trodAll_cons hA
  obtain ⟨v1, vs1, d1, ds1, p1, q1, rfl, rfl, rfl, h1, r1⟩ := trodAll_cons r0
  obtain ⟨v2, vs2, d2, ds2, p2, q2, rfl, rfl, rfl, h2, r2⟩ := trodAll_cons r1
  obtain ⟨v3, vs3, d3, ds3, p3, q3, rfl, rfl, rfl, h3, r3⟩ := trodAll_cons r2
  obtain ⟨v4, vs4, d4, ds4, p4, q4, rfl, rfl, rfl, h4, r4⟩ := trodAll_cons r3
  obtain ⟨rfl, rfl, rfl⟩ := trodAll_nil r4
  obtain rfl : args = #[v0, v1, v2, v3, v4] := by cases args; simp_all
  obtain ⟨rfl, rfl⟩ := trodVars_none hV
  have k0 := h0
  have lt0 : ∀ x ∈ p0, x.block < W.heap.size := by obtain ⟨m, hm⟩ := k0; exact DataW.trod_lt m _ _ _ hm
  obtain ⟨zz0, A0, c0, B0, e0, rfl, rd0, rt0, len0, bd0⟩ := open_ZN Try.underlying31 (by kernel_rfl) (by kernel_rfl) Try.underlying2 Try.underlying28 Try.underlying2 (by kernel_rfl) Try.underlying29 Try.underlying87 (by kernel_rfl) (by kernel_rfl) Try.underlying2 Try.underlying2 Try.underlying2 (hval 0 31 v0 rfl rfl) h0
  have k1 := h1
  have lt1 : ∀ x ∈ p1, x.block < W.heap.size := by obtain ⟨m, hm⟩ := k1; exact DataW.trod_lt m _ _ _ hm
  obtain ⟨z1, rfl, bd1a, bd1b⟩ := open_Z Try.underlying2 (hval 1 2 v1 rfl rfl) h1
  have k2 := h2
  have lt2 : ∀ x ∈ p2, x.block < W.heap.size := by obtain ⟨m, hm⟩ := k2; exact DataW.trod_lt m _ _ _ hm
  obtain ⟨z2, rfl, bd2a, bd2b⟩ := open_Z Try.underlying2 (hval 2 2 v2 rfl rfl) h2
  have k3 := h3
  have lt3 : ∀ x ∈ p3, x.block < W.heap.size := by obtain ⟨m, hm⟩ := k3; exact DataW.trod_lt m _ _ _ hm
  obtain ⟨z3, rfl, bd3a, bd3b⟩ := open_Z Try.underlying2 (hval 3 2 v3 rfl rfl) h3
  have k4 := h4
  have lt4 : ∀ x ∈ p4, x.block < W.heap.size := by obtain ⟨m, hm⟩ := k4; exact DataW.trod_lt m _ _ _ hm
  obtain ⟨z4, rfl, bd4a, bd4b⟩ := open_Z Try.underlying2 (hval 4 2 v4 rfl rfl) h4
  clear hA0 hval0
  refine (xFirstAbove_walk zz0 (.agg #[.int .i64 zz0.z, .slice A0 zz0.of.length c0, .slice B0 zz0.ch.length e0]) z1 z2 z3 z4 W ⟨A0, c0, B0, e0, rfl, rd0, rt0⟩ len0 bd0 bd1a bd1b bd2a bd2b bd3a bd3b bd4a bd4b).mono fun e W' ⟨he, bel⟩ => ?_
  subst he
  exact ⟨_, rfl, _, _, _, [], _, [], hW', trodAll_mk1 (shut_bool Try.underlying4 _), (trodAll_cons_mk (Below.trod fnExactFirstAbove_laid (by kernel_rfl) (of_decide_eq_true (by kernel_rfl)) k0 bel lt0) (trodAll_cons_mk (Below.trod fnExactFirstAbove_laid (by kernel_rfl) (of_decide_eq_true (by kernel_rfl)) k1 bel lt1) (trodAll_cons_mk (Below.trod fnExactFirstAbove_laid (by kernel_rfl) (of_decide_eq_true (by kernel_rfl)) k2 bel lt2) (trodAll_cons_mk (Below.trod fnExactFirstAbove_laid (by kernel_rfl) (of_decide_eq_true (by kernel_rfl)) k3 bel lt3) (trodAll_cons_mk (Below.trod fnExactFirstAbove_laid (by kernel_rfl) (of_decide_eq_true (by kernel_rfl)) k4 bel lt4) trodAll_mk0))))), rfl, bel.frame _, fun h => by cases h⟩
theorem fnExactFirstAbove_holds : Rows.FnExactFirstAboveSaid :=
  OpenClaim.holds_of_wide 12 Try.f12 rfl rfl rfl rfl rfl rfl rfl ⟨rfl, rfl, rfl, rfl, rfl⟩ rfl rfl rfl rfl rfl (by kernel_rfl) Try.func12 (by kernel_rfl)
    (of_decide_eq_true (by kernel_rfl)) (by unfold Func.isWrapper; first | (rw [if_pos (by decide +kernel)]; kernel_rfl) | (rw [if_neg (by decide +kernel)]; exact ⟨rfl, rfl⟩))
    (fun os started H enc _ => fnExactFirstAbove_lifted os started H enc)
#print axioms fnExactFirstAbove_holds
end Go.Proofs.Ytckkmgbclefljaa
