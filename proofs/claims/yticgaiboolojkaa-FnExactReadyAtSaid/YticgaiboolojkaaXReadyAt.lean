/-
  The law FnExactReadyAt returns true for every input. No condition. Printed by gen_exact.py.
-/
import Derived.Test.YticgaiboolojkaaZonR
import Derived.Test.YticgaiboolojkaaLawH
import Derived.Test.YticgaiboolojkaaRows
import Derived.Test.YticgaiboolojkaaOpenW
import Derived.Test.YticgaiboolojkaaOpenZ
import Derived.ProofKit
import Derived.OpenShut
import Derived.Deep.RegionHeld3
namespace Go.Proofs.Yticgaiboolojkaa
open Go.ChangeShapes Go.WideShapes Go.ChangeAt Go.RowKit

set_option maxRecDepth 100000 in
set_option maxHeartbeats 4000000 in
theorem xReadyAt_walk (x_z : TZ) (v_z : Value) (x_way : List Int) (v_way : Value) (z_from : Int) (w : World) (r_z : R_Zoned w w.heap.size v_z x_z) (n_z : Len_Zoned x_z) (f_z : Fit_Zoned x_z) (r_way : R_Int64S w w.heap.size v_way x_way) (n_way : x_way.length ≤ 9223372036854775807) (f_way : ∀ z ∈ x_way, -9223372036854775808 ≤ z ∧ z ≤ 9223372036854775807) (lo_from : -9223372036854775808 ≤ z_from) (hi_from : z_from ≤ 9223372036854775807) :
    Calls Try.prog 5 #[v_z, v_way, (.int .i64 z_from)] w fun e w' => e = .returned (.bool true) ∧ Below w.heap.size w w' := by
  have r0_z := r_z
  obtain ⟨A_z, c_z, B_z, d_z, rfl, _, _⟩ := r0_z
  by_cases g0 : (x_way.length : Int) ≤ 1048576
  case neg =>
    have r0_way := r_way
    obtain ⟨A_way, c_way, rfl, _⟩ := r0_way
    go_enter Try.func5, Try.ntmps5
    go_wp2_with fail
    go_ret
    exact ⟨rfl, (by repeat (first | exact Below.refl _ _ | assumption | (refine Below.alloc ?_ (by simp <;> omega) _) | refine Below.drew ?_ | refine bdn ?_ _))⟩
  by_cases g1 : ((size_Zoned x_z) : Int) ≤ (1048576 : Int)
  case neg =>
    have r0_way := r_way
    obtain ⟨A_way, c_way, rfl, _⟩ := r0_way
    go_enter Try.func5, Try.ntmps5
    have b0 : Below w.heap.size w (w.alloc (.cells #[.int .i64 x_z.z, .slice A_z x_z.of.length c_z, .slice B_z x_z.ch.length d_z] 44)) := (by repeat (first | exact Below.refl _ _ | assumption | (refine Below.alloc ?_ (by simp <;> omega) _) | refine Below.drew ?_ | refine bdn ?_ _))
    have z0 : w.heap.size + 1 ≤ (w.alloc (.cells #[.int .i64 x_z.z, .slice A_z x_z.of.length c_z, .slice B_z x_z.ch.length d_z] 44)).heap.size := by simp
    have kc0 : (w.alloc (.cells #[.int .i64 x_z.z, .slice A_z x_z.of.length c_z, .slice B_z x_z.ch.length d_z] 44)).cell? ⟨w.heap.size, 0, none⟩ = some (.int .i64 x_z.z) := by simp [go_sem]
    have kc1 : (w.alloc (.cells #[.int .i64 x_z.z, .slice A_z x_z.of.length c_z, .slice B_z x_z.ch.length d_z] 44)).cell? ⟨w.heap.size, 1, none⟩ = some (.slice A_z x_z.of.length c_z) := by simp [go_sem]
    have kc2 : (w.alloc (.cells #[.int .i64 x_z.z, .slice A_z x_z.of.length c_z, .slice B_z x_z.ch.length d_z] 44)).cell? ⟨w.heap.size, 2, none⟩ = some (.slice B_z x_z.ch.length d_z) := by simp [go_sem]
    go_wp2_with fail
    generalize (w.alloc (.cells #[.int .i64 x_z.z, .slice A_z x_z.of.length c_z, .slice B_z x_z.ch.length d_z] 44)) = w0 at *
    have q0 : Below (w.heap.size + 1) w0 w0 ∧ w0.cell? ⟨w.heap.size, 0, none⟩ = some (.int .i64 x_z.z) ∧ w0.cell? ⟨w.heap.size, 1, none⟩ = some (.slice A_z x_z.of.length c_z) ∧ w0.cell? ⟨w.heap.size, 2, none⟩ = some (.slice B_z x_z.ch.length d_z) := ⟨Below.refl _ _, kc0, kc1, kc2⟩
    have hsz1 := hide (szF_no (n := (size_Zoned x_z)) (left := (1048576 : Int)) (by omega))
    go_wp2_with fail
    refine (L_sz_Zoned x_z (.agg #[.int .i64 x_z.z, .slice A_z x_z.of.length c_z, .slice B_z x_z.ch.length d_z]) _ w.heap.size _ n_z (by omega) (by omega) (r_z.below b0)).mono ?_
    rintro e w1 ⟨rfl, s1⟩
    rw [hsz1.out]
    have z1 := s1.size
    have b1 : Below w.heap.size w w1 := b0.trans (s1.mono b0.size)
    have q1 : Below (w.heap.size + 1) w0 w1 ∧ w1.cell? ⟨w.heap.size, 0, none⟩ = some (.int .i64 x_z.z) ∧ w1.cell? ⟨w.heap.size, 1, none⟩ = some (.slice A_z x_z.of.length c_z) ∧ w1.cell? ⟨w.heap.size, 2, none⟩ = some (.slice B_z x_z.ch.length d_z) := ⟨q0.1.trans (s1.mono (by omega)), (s1.cell (by dsimp only; omega)).trans q0.2.1, (s1.cell (by dsimp only; omega)).trans q0.2.2.1, (s1.cell (by dsimp only; omega)).trans q0.2.2.2⟩
    clear kc0 kc1 kc2
    go_wp2_with fail
    go_ret
    exact ⟨rfl, b1⟩
  have m_z : Small_Zoned x_z := small_Zoned (by omega)
  have r0_way := r_way
  obtain ⟨A_way, c_way, rfl, _⟩ := r0_way
  go_enter Try.func5, Try.ntmps5
  have b0 : Below w.heap.size w (w.alloc (.cells #[.int .i64 x_z.z, .slice A_z x_z.of.length c_z, .slice B_z x_z.ch.length d_z] 44)) := (by repeat (first | exact Below.refl _ _ | assumption | (refine Below.alloc ?_ (by simp <;> omega) _) | refine Below.drew ?_ | refine bdn ?_ _))
  have z0 : w.heap.size + 1 ≤ (w.alloc (.cells #[.int .i64 x_z.z, .slice A_z x_z.of.length c_z, .slice B_z x_z.ch.length d_z] 44)).heap.size := by simp
  have kc0 : (w.alloc (.cells #[.int .i64 x_z.z, .slice A_z x_z.of.length c_z, .slice B_z x_z.ch.length d_z] 44)).cell? ⟨w.heap.size, 0, none⟩ = some (.int .i64 x_z.z) := by simp [go_sem]
  have kc1 : (w.alloc (.cells #[.int .i64 x_z.z, .slice A_z x_z.of.length c_z, .slice B_z x_z.ch.length d_z] 44)).cell? ⟨w.heap.size, 1, none⟩ = some (.slice A_z x_z.of.length c_z) := by simp [go_sem]
  have kc2 : (w.alloc (.cells #[.int .i64 x_z.z, .slice A_z x_z.of.length c_z, .slice B_z x_z.ch.length d_z] 44)).cell? ⟨w.heap.size, 2, none⟩ = some (.slice B_z x_z.ch.length d_z) := by simp [go_sem]
  go_wp2_with fail
  generalize (w.alloc (.cells #[.int .i64 x_z.z, .slice A_z x_z.of.length c_z, .slice B_z x_z.ch.length d_z] 44)) = w0 at *
  have q0 : Below (w.heap.size + 1) w0 w0 ∧ w0.cell? ⟨w.heap.size, 0, none⟩ = some (.int .i64 x_z.z) ∧ w0.cell? ⟨w.heap.size, 1, none⟩ = some (.slice A_z x_z.of.length c_z) ∧ w0.cell? ⟨w.heap.size, 2, none⟩ = some (.slice B_z x_z.ch.length d_z) := ⟨Below.refl _ _, kc0, kc1, kc2⟩
  have hsz1 := hide (szF_yes (n := (size_Zoned x_z)) (left := (1048576 : Int)) (by omega))
  go_wp2_with fail
  refine (L_sz_Zoned x_z (.agg #[.int .i64 x_z.z, .slice A_z x_z.of.length c_z, .slice B_z x_z.ch.length d_z]) _ w.heap.size _ n_z (by omega) (by omega) (r_z.below b0)).mono ?_
  rintro e w1 ⟨rfl, s1⟩
  rw [hsz1.out]
  have z1 := s1.size
  have b1 : Below w.heap.size w w1 := b0.trans (s1.mono b0.size)
  have q1 : Below (w.heap.size + 1) w0 w1 ∧ w1.cell? ⟨w.heap.size, 0, none⟩ = some (.int .i64 x_z.z) ∧ w1.cell? ⟨w.heap.size, 1, none⟩ = some (.slice A_z x_z.of.length c_z) ∧ w1.cell? ⟨w.heap.size, 2, none⟩ = some (.slice B_z x_z.ch.length d_z) := ⟨q0.1.trans (s1.mono (by omega)), (s1.cell (by dsimp only; omega)).trans q0.2.1, (s1.cell (by dsimp only; omega)).trans q0.2.2.1, (s1.cell (by dsimp only; omega)).trans q0.2.2.2⟩
  clear kc0 kc1 kc2
  have kk := q1.2
  obtain ⟨kc0, kc1, kc2⟩ := kk
  go_wp2_with fail
  refine (L_to_Zoned x_z (.agg #[.int .i64 x_z.z, .slice A_z x_z.of.length c_z, .slice B_z x_z.ch.length d_z]) _ m_z ((r_z.below b1).more b1.size)).mono ?_
  rintro e w2 ⟨v_t1, rfl, o_t1, s2⟩
  have z2 := s2.size
  have b2 : Below w.heap.size w w2 := b1.trans (s2.mono b1.size)
  have q2 : Below (w.heap.size + 1) w0 w2 ∧ w2.cell? ⟨w.heap.size, 0, none⟩ = some (.int .i64 x_z.z) ∧ w2.cell? ⟨w.heap.size, 1, none⟩ = some (.slice A_z x_z.of.length c_z) ∧ w2.cell? ⟨w.heap.size, 2, none⟩ = some (.slice B_z x_z.ch.length d_z) := ⟨q1.1.trans (s2.mono (by omega)), (s2.cell (by dsimp only; omega)).trans q1.2.1, (s2.cell (by dsimp only; omega)).trans q1.2.2.1, (s2.cell (by dsimp only; omega)).trans q1.2.2.2⟩
  go_wp2_with fail
  refine (L_to_Int64S x_way (.slice A_way x_way.length c_way) _ (by omega) ((r_way.below b2).more b2.size)).mono ?_
  rintro e w3 ⟨v_t2, rfl, o_t2, s3⟩
  have z3 := s3.size
  have b3 : Below w.heap.size w w3 := b2.trans (s3.mono b2.size)
  have q3 : Below (w.heap.size + 1) w0 w3 ∧ w3.cell? ⟨w.heap.size, 0, none⟩ = some (.int .i64 x_z.z) ∧ w3.cell? ⟨w.heap.size, 1, none⟩ = some (.slice A_z x_z.of.length c_z) ∧ w3.cell? ⟨w.heap.size, 2, none⟩ = some (.slice B_z x_z.ch.length d_z) := ⟨q2.1.trans (s3.mono (by omega)), (s3.cell (by dsimp only; omega)).trans q2.2.1, (s3.cell (by dsimp only; omega)).trans q2.2.2.1, (s3.cell (by dsimp only; omega)).trans q2.2.2.2⟩
  replace o_t1 := o_t1.below s3 (by omega)
  go_wp2_with fail
  refine (S_ReadyAt x_z v_t1 x_way v_t2 z_from _ m_z f_z o_t1.r (by omega) f_way o_t2.r lo_from hi_from).mono ?_
  rintro e w4 ⟨rfl, s4⟩
  have z4 := s4.size
  have b4 : Below w.heap.size w w4 := b3.trans (s4.mono b3.size)
  have q4 : Below (w.heap.size + 1) w0 w4 ∧ w4.cell? ⟨w.heap.size, 0, none⟩ = some (.int .i64 x_z.z) ∧ w4.cell? ⟨w.heap.size, 1, none⟩ = some (.slice A_z x_z.of.length c_z) ∧ w4.cell? ⟨w.heap.size, 2, none⟩ = some (.slice B_z x_z.ch.length d_z) := ⟨q3.1.trans (s4.mono (by omega)), (s4.cell (by dsimp only; omega)).trans q3.2.1, (s4.cell (by dsimp only; omega)).trans q3.2.2.1, (s4.cell (by dsimp only; omega)).trans q3.2.2.2⟩
  clear o_t1
  clear o_t2
  clear kc0 kc1 kc2
  have kk := q4.2
  obtain ⟨kc0, kc1, kc2⟩ := kk
  go_wp2_with fail
  refine (L_to_Zoned x_z (.agg #[.int .i64 x_z.z, .slice A_z x_z.of.length c_z, .slice B_z x_z.ch.length d_z]) _ m_z ((r_z.below b4).more b4.size)).mono ?_
  rintro e w5 ⟨v_x0, rfl, o_x0, s5⟩
  have z5 := s5.size
  have b5 : Below w.heap.size w w5 := b4.trans (s5.mono b4.size)
  have q5 : Below (w.heap.size + 1) w0 w5 ∧ w5.cell? ⟨w.heap.size, 0, none⟩ = some (.int .i64 x_z.z) ∧ w5.cell? ⟨w.heap.size, 1, none⟩ = some (.slice A_z x_z.of.length c_z) ∧ w5.cell? ⟨w.heap.size, 2, none⟩ = some (.slice B_z x_z.ch.length d_z) := ⟨q4.1.trans (s5.mono (by omega)), (s5.cell (by dsimp only; omega)).trans q4.2.1, (s5.cell (by dsimp only; omega)).trans q4.2.2.1, (s5.cell (by dsimp only; omega)).trans q4.2.2.2⟩
  obtain ⟨A_x0, c_x0, B_x0, d_x0, e_x0, _, _⟩ := o_x0.r
  subst e_x0
  clear kc0 kc1 kc2
  have s6 : Below w5.heap.size w5 (w5.alloc (.cells #[.int .i64 x_z.z, .slice A_x0 x_z.of.length c_x0, .slice B_x0 x_z.ch.length d_x0] 50)) := (Below.refl _ _).alloc (Nat.le_refl _) _
  have z6 : w5.heap.size + 1 ≤ (w5.alloc (.cells #[.int .i64 x_z.z, .slice A_x0 x_z.of.length c_x0, .slice B_x0 x_z.ch.length d_x0] 50)).heap.size := by simp
  have b6 : Below w.heap.size w (w5.alloc (.cells #[.int .i64 x_z.z, .slice A_x0 x_z.of.length c_x0, .slice B_x0 x_z.ch.length d_x0] 50)) := b5.trans (s6.mono b5.size)
  have q6 : Below (w.heap.size + 1) w0 (w5.alloc (.cells #[.int .i64 x_z.z, .slice A_x0 x_z.of.length c_x0, .slice B_x0 x_z.ch.length d_x0] 50)) ∧ (w5.alloc (.cells #[.int .i64 x_z.z, .slice A_x0 x_z.of.length c_x0, .slice B_x0 x_z.ch.length d_x0] 50)).cell? ⟨w.heap.size, 0, none⟩ = some (.int .i64 x_z.z) ∧ (w5.alloc (.cells #[.int .i64 x_z.z, .slice A_x0 x_z.of.length c_x0, .slice B_x0 x_z.ch.length d_x0] 50)).cell? ⟨w.heap.size, 1, none⟩ = some (.slice A_z x_z.of.length c_z) ∧ (w5.alloc (.cells #[.int .i64 x_z.z, .slice A_x0 x_z.of.length c_x0, .slice B_x0 x_z.ch.length d_x0] 50)).cell? ⟨w.heap.size, 2, none⟩ = some (.slice B_z x_z.ch.length d_z) ∧ (w5.alloc (.cells #[.int .i64 x_z.z, .slice A_x0 x_z.of.length c_x0, .slice B_x0 x_z.ch.length d_x0] 50)).cell? ⟨w5.heap.size, 0, none⟩ = some (.int .i64 x_z.z) ∧ (w5.alloc (.cells #[.int .i64 x_z.z, .slice A_x0 x_z.of.length c_x0, .slice B_x0 x_z.ch.length d_x0] 50)).cell? ⟨w5.heap.size, 1, none⟩ = some (.slice A_x0 x_z.of.length c_x0) ∧ (w5.alloc (.cells #[.int .i64 x_z.z, .slice A_x0 x_z.of.length c_x0, .slice B_x0 x_z.ch.length d_x0] 50)).cell? ⟨w5.heap.size, 2, none⟩ = some (.slice B_x0 x_z.ch.length d_x0) := ⟨q5.1.trans (s6.mono (by omega)), (s6.cell (by dsimp only; omega)).trans q5.2.1, (s6.cell (by dsimp only; omega)).trans q5.2.2.1, (s6.cell (by dsimp only; omega)).trans q5.2.2.2, (by simp [go_sem]), (by simp [go_sem]), (by simp [go_sem])⟩
  replace o_x0 := o_x0.below s6 (by omega)
  go_wp2_with fail
  generalize (w5.alloc (.cells #[.int .i64 x_z.z, .slice A_x0 x_z.of.length c_x0, .slice B_x0 x_z.ch.length d_x0] 50)) = w6 at *
  refine (L_to_Int64S x_way (.slice A_way x_way.length c_way) _ (by omega) ((r_way.below b6).more b6.size)).mono ?_
  rintro e w7 ⟨v_x1, rfl, o_x1, s7⟩
  have z7 := s7.size
  have b7 : Below w.heap.size w w7 := b6.trans (s7.mono b6.size)
  have q7 : Below (w.heap.size + 1) w0 w7 ∧ w7.cell? ⟨w.heap.size, 0, none⟩ = some (.int .i64 x_z.z) ∧ w7.cell? ⟨w.heap.size, 1, none⟩ = some (.slice A_z x_z.of.length c_z) ∧ w7.cell? ⟨w.heap.size, 2, none⟩ = some (.slice B_z x_z.ch.length d_z) ∧ w7.cell? ⟨w5.heap.size, 0, none⟩ = some (.int .i64 x_z.z) ∧ w7.cell? ⟨w5.heap.size, 1, none⟩ = some (.slice A_x0 x_z.of.length c_x0) ∧ w7.cell? ⟨w5.heap.size, 2, none⟩ = some (.slice B_x0 x_z.ch.length d_x0) := ⟨q6.1.trans (s7.mono (by omega)), (s7.cell (by dsimp only; omega)).trans q6.2.1, (s7.cell (by dsimp only; omega)).trans q6.2.2.1, (s7.cell (by dsimp only; omega)).trans q6.2.2.2.1, (s7.cell (by dsimp only; omega)).trans q6.2.2.2.2.1, (s7.cell (by dsimp only; omega)).trans q6.2.2.2.2.2.1, (s7.cell (by dsimp only; omega)).trans q6.2.2.2.2.2.2⟩
  replace o_x0 := o_x0.below s7 (by omega)
  have kk := q7.2
  obtain ⟨kc0, kc1, kc2, kc3, kc4, kc5⟩ := kk
  go_wp2_with fail
  refine (P_ReadyAt x_z (.agg #[.int .i64 x_z.z, .slice A_x0 x_z.of.length c_x0, .slice B_x0 x_z.ch.length d_x0]) x_way v_x1 z_from _ m_z f_z o_x0.r (by omega) f_way o_x1.r lo_from hi_from).mono ?_
  rintro e w8 ⟨rfl, s8⟩
  have z8 := s8.size
  have b8 : Below w.heap.size w w8 := b7.trans (s8.mono b7.size)
  have q8 : Below (w.heap.size + 1) w0 w8 ∧ w8.cell? ⟨w.heap.size, 0, none⟩ = some (.int .i64 x_z.z) ∧ w8.cell? ⟨w.heap.size, 1, none⟩ = some (.slice A_z x_z.of.length c_z) ∧ w8.cell? ⟨w.heap.size, 2, none⟩ = some (.slice B_z x_z.ch.length d_z) ∧ w8.cell? ⟨w5.heap.size, 0, none⟩ = some (.int .i64 x_z.z) ∧ w8.cell? ⟨w5.heap.size, 1, none⟩ = some (.slice A_x0 x_z.of.length c_x0) ∧ w8.cell? ⟨w5.heap.size, 2, none⟩ = some (.slice B_x0 x_z.ch.length d_x0) := ⟨q7.1.trans (s8.mono (by omega)), (s8.cell (by dsimp only; omega)).trans q7.2.1, (s8.cell (by dsimp only; omega)).trans q7.2.2.1, (s8.cell (by dsimp only; omega)).trans q7.2.2.2.1, (s8.cell (by dsimp only; omega)).trans q7.2.2.2.2.1, (s8.cell (by dsimp only; omega)).trans q7.2.2.2.2.2.1, (s8.cell (by dsimp only; omega)).trans q7.2.2.2.2.2.2⟩
  replace o_x0 := o_x0.below s8 (by omega)
  replace o_x1 := o_x1.below s8 (by omega)
  clear kc0 kc1 kc2 kc3 kc4 kc5
  have kk := q8.2
  obtain ⟨kc0, kc1, kc2, kc3, kc4, kc5⟩ := kk
  go_wp2_with fail
  have bd8 : Below w.heap.size w w8.drew := b8.drew
  have qd8 : Below (w.heap.size + 1) w0 w8.drew ∧ w8.drew.cell? ⟨w.heap.size, 0, none⟩ = some (.int .i64 x_z.z) ∧ w8.drew.cell? ⟨w.heap.size, 1, none⟩ = some (.slice A_z x_z.of.length c_z) ∧ w8.drew.cell? ⟨w.heap.size, 2, none⟩ = some (.slice B_z x_z.ch.length d_z) ∧ w8.drew.cell? ⟨w5.heap.size, 0, none⟩ = some (.int .i64 x_z.z) ∧ w8.drew.cell? ⟨w5.heap.size, 1, none⟩ = some (.slice A_x0 x_z.of.length c_x0) ∧ w8.drew.cell? ⟨w5.heap.size, 2, none⟩ = some (.slice B_x0 x_z.ch.length d_x0) := ⟨q8.1.drew, q8.2⟩
  replace o_x0 : O_Zoned w8.drew w4.heap.size w5.heap.size (.agg #[.int .i64 x_z.z, .slice A_x0 x_z.of.length c_x0, .slice B_x0 x_z.ch.length d_x0]) (x_z) := o_x0
  replace o_x1 : O_Int64S w8.drew w6.heap.size w7.heap.size v_x1 (x_way) := o_x1
  have zd8a : w8.heap.size ≤ w8.drew.heap.size := Nat.le_refl _
  have zd8b : w8.drew.heap.size ≤ w8.heap.size := Nat.le_refl _
  go_region_held3 (fun W => Below (w.heap.size + 1) w0 W ∧ W.cell? ⟨w.heap.size, 0, none⟩ = some (.int .i64 x_z.z) ∧ W.cell? ⟨w.heap.size, 1, none⟩ = some (.slice A_z x_z.of.length c_z) ∧ W.cell? ⟨w.heap.size, 2, none⟩ = some (.slice B_z x_z.ch.length d_z) ∧ W.cell? ⟨w5.heap.size, 0, none⟩ = some (.int .i64 x_z.z) ∧ W.cell? ⟨w5.heap.size, 1, none⟩ = some (.slice A_x0 x_z.of.length c_x0) ∧ W.cell? ⟨w5.heap.size, 2, none⟩ = some (.slice B_x0 x_z.ch.length d_x0))
    (first | exact qd8 | exact q9 | exact q10)
    (first | (go_at_call 32; (with_reducible refine (L_to_Zoned x_z (.agg #[.int .i64 x_z.z, .slice A_z x_z.of.length c_z, .slice B_z x_z.ch.length d_z]) _ m_z ((r_z.below bd8).more bd8.size)).mono ?_); rintro e w9 ⟨v_t3, rfl, o_t3, s9⟩; have z9 := s9.size; have b9 : Below w.heap.size w w9 := bd8.trans (s9.mono bd8.size); have q9 : Below (w.heap.size + 1) w0 w9 ∧ w9.cell? ⟨w.heap.size, 0, none⟩ = some (.int .i64 x_z.z) ∧ w9.cell? ⟨w.heap.size, 1, none⟩ = some (.slice A_z x_z.of.length c_z) ∧ w9.cell? ⟨w.heap.size, 2, none⟩ = some (.slice B_z x_z.ch.length d_z) ∧ w9.cell? ⟨w5.heap.size, 0, none⟩ = some (.int .i64 x_z.z) ∧ w9.cell? ⟨w5.heap.size, 1, none⟩ = some (.slice A_x0 x_z.of.length c_x0) ∧ w9.cell? ⟨w5.heap.size, 2, none⟩ = some (.slice B_x0 x_z.ch.length d_x0) := ⟨qd8.1.trans (s9.mono (by omega)), (s9.cell (by dsimp only; omega)).trans qd8.2.1, (s9.cell (by dsimp only; omega)).trans qd8.2.2.1, (s9.cell (by dsimp only; omega)).trans qd8.2.2.2.1, (s9.cell (by dsimp only; omega)).trans qd8.2.2.2.2.1, (s9.cell (by dsimp only; omega)).trans qd8.2.2.2.2.2.1, (s9.cell (by dsimp only; omega)).trans qd8.2.2.2.2.2.2⟩; replace o_x0 := o_x0.below s9 (by omega); replace o_x1 := o_x1.below s9 (by omega)) | (go_at_call 34; (with_reducible refine (L_eq_Zoned _ _ _ _ _ _ _ _ o_x0 o_t3).mono ?_); rintro e w10 ⟨rfl, s10⟩; have z10 := s10.size; have b10 : Below w.heap.size w w10 := b9.trans (s10.mono b9.size); have q10 : Below (w.heap.size + 1) w0 w10 ∧ w10.cell? ⟨w.heap.size, 0, none⟩ = some (.int .i64 x_z.z) ∧ w10.cell? ⟨w.heap.size, 1, none⟩ = some (.slice A_z x_z.of.length c_z) ∧ w10.cell? ⟨w.heap.size, 2, none⟩ = some (.slice B_z x_z.ch.length d_z) ∧ w10.cell? ⟨w5.heap.size, 0, none⟩ = some (.int .i64 x_z.z) ∧ w10.cell? ⟨w5.heap.size, 1, none⟩ = some (.slice A_x0 x_z.of.length c_x0) ∧ w10.cell? ⟨w5.heap.size, 2, none⟩ = some (.slice B_x0 x_z.ch.length d_x0) := ⟨q9.1.trans (s10.mono (by omega)), (s10.cell (by dsimp only; omega)).trans q9.2.1, (s10.cell (by dsimp only; omega)).trans q9.2.2.1, (s10.cell (by dsimp only; omega)).trans q9.2.2.2.1, (s10.cell (by dsimp only; omega)).trans q9.2.2.2.2.1, (s10.cell (by dsimp only; omega)).trans q9.2.2.2.2.2.1, (s10.cell (by dsimp only; omega)).trans q9.2.2.2.2.2.2⟩; replace o_x0 := o_x0.below s10 (by omega); replace o_x1 := o_x1.below s10 (by omega); replace o_t3 := o_t3.below s10 (by omega); clear o_t3))
  clear kc0 kc1 kc2 kc3 kc4 kc5
  go_wp2_with fail
  refine (L_to_Int64S x_way (.slice A_way x_way.length c_way) _ (by omega) ((r_way.below b10).more b10.size)).mono ?_
  rintro e w11 ⟨v_t4, rfl, o_t4, s11⟩
  have z11 := s11.size
  have b11 : Below w.heap.size w w11 := b10.trans (s11.mono b10.size)
  have q11 : Below (w.heap.size + 1) w0 w11 ∧ w11.cell? ⟨w.heap.size, 0, none⟩ = some (.int .i64 x_z.z) ∧ w11.cell? ⟨w.heap.size, 1, none⟩ = some (.slice A_z x_z.of.length c_z) ∧ w11.cell? ⟨w.heap.size, 2, none⟩ = some (.slice B_z x_z.ch.length d_z) ∧ w11.cell? ⟨w5.heap.size, 0, none⟩ = some (.int .i64 x_z.z) ∧ w11.cell? ⟨w5.heap.size, 1, none⟩ = some (.slice A_x0 x_z.of.length c_x0) ∧ w11.cell? ⟨w5.heap.size, 2, none⟩ = some (.slice B_x0 x_z.ch.length d_x0) := ⟨q10.1.trans (s11.mono (by omega)), (s11.cell (by dsimp only; omega)).trans q10.2.1, (s11.cell (by dsimp only; omega)).trans q10.2.2.1, (s11.cell (by dsimp only; omega)).trans q10.2.2.2.1, (s11.cell (by dsimp only; omega)).trans q10.2.2.2.2.1, (s11.cell (by dsimp only; omega)).trans q10.2.2.2.2.2.1, (s11.cell (by dsimp only; omega)).trans q10.2.2.2.2.2.2⟩
  replace o_x0 := o_x0.below s11 (by omega)
  replace o_x1 := o_x1.below s11 (by omega)
  go_wp2_with fail
  refine (L_eq_Int64S _ _ _ _ _ _ _ _ o_x1 o_t4).mono ?_
  rintro e w12 ⟨rfl, s12⟩
  have z12 := s12.size
  have b12 : Below w.heap.size w w12 := b11.trans (s12.mono b11.size)
  have q12 : Below (w.heap.size + 1) w0 w12 ∧ w12.cell? ⟨w.heap.size, 0, none⟩ = some (.int .i64 x_z.z) ∧ w12.cell? ⟨w.heap.size, 1, none⟩ = some (.slice A_z x_z.of.length c_z) ∧ w12.cell? ⟨w.heap.size, 2, none⟩ = some (.slice B_z x_z.ch.length d_z) ∧ w12.cell? ⟨w5.heap.size, 0, none⟩ = some (.int .i64 x_z.z) ∧ w12.cell? ⟨w5.heap.size, 1, none⟩ = some (.slice A_x0 x_z.of.length c_x0) ∧ w12.cell? ⟨w5.heap.size, 2, none⟩ = some (.slice B_x0 x_z.ch.length d_x0) := ⟨q11.1.trans (s12.mono (by omega)), (s12.cell (by dsimp only; omega)).trans q11.2.1, (s12.cell (by dsimp only; omega)).trans q11.2.2.1, (s12.cell (by dsimp only; omega)).trans q11.2.2.2.1, (s12.cell (by dsimp only; omega)).trans q11.2.2.2.2.1, (s12.cell (by dsimp only; omega)).trans q11.2.2.2.2.2.1, (s12.cell (by dsimp only; omega)).trans q11.2.2.2.2.2.2⟩
  replace o_x0 := o_x0.below s12 (by omega)
  replace o_x1 := o_x1.below s12 (by omega)
  replace o_t4 := o_t4.below s12 (by omega)
  clear o_t4
  go_wp2_with fail
  go_ret
  exact ⟨rfl, b12⟩

theorem fnExactReadyAt_own : ownKnob Try.prog.godebug = none := by kernel_rfl
theorem fnExactReadyAt_laid : laidOutB Try.prog = true := by kernel_rfl
set_option maxRecDepth 100000 in
theorem fnExactReadyAt_lifted (os : Os) (started : os.Started) (H : Type) (enc : TypeId × Value → H) :
    ReturnsInHanded {} Try.checked os 5 .any (Rows.fnExactReadyAtSpec.pre6 enc Try.prog Try.f5 Rows.fnExactReadyAtRow.domain false) (Rows.fnExactReadyAtSpec.post enc Try.prog Try.f5 false true false false) := by
  refine returnsInHanded_of_change (C := Try.checked) fnExactReadyAt_own started (by kernel_rfl) Try.func5
    (ChangeSpec.witness6 (enc := enc) (C := Try.checked) false ⟨#[], #[.agg #[.int .i64 0, .slice none 0 0, .slice none 0 0], .slice none 0 0, .int .i64 0], []⟩ 8 (by kernel_rfl) (by kernel_rfl) (by kernel_rfl) (by kernel_rfl)) ?_
  intro W base args ds gs before hval0 hW hcnd _
  have hval : ∀ (j : Nat) t v, Try.f5.params[j]? = some t → args[j]? = some v → Value.okWide Try.prog W .any base t v := hval0
  have hW' := hW
  obtain ⟨p, q, hA0, hV, rfl, hfz, hnd⟩ := hW
  have hA : DataW.TrodAll enc Try.prog W 0 (fun _ => true) true Try.f5.params.toList args.toList ds p := hA0
  rw [Try.params5] at hA hval
  obtain ⟨v0, vs0, d0, ds0, p0, q0, hargs, rfl, rfl, h0, r0⟩ := trodAll_cons hA
  obtain ⟨v1, vs1, d1, ds1, p1, q1, rfl, rfl, rfl, h1, r1⟩ := trodAll_cons r0
  obtain ⟨v2, vs2, d2, ds2, p2, q2, rfl, rfl, rfl, h2, r2⟩ := trodAll_cons r1
  obtain ⟨rfl, rfl, rfl⟩ := trodAll_nil r2
  obtain rfl : args = #[v0, v1, v2] := by cases args; simp_all
  obtain ⟨rfl, rfl⟩ := trodVars_none hV
  have k0 := h0
  have lt0 : ∀ x ∈ p0, x.block < W.heap.size := by obtain ⟨m, hm⟩ := k0; exact DataW.trod_lt m _ _ _ hm
  obtain ⟨zz0, A0, c0, B0, e0, rfl, rd0, rt0, len0, bd0⟩ := open_ZN Try.underlying44 (by kernel_rfl) (by kernel_rfl) Try.underlying2 Try.underlying22 Try.underlying2 (by kernel_rfl) Try.underlying42 Try.underlying114 (by kernel_rfl) (by kernel_rfl) Try.underlying2 Try.underlying2 Try.underlying2 (hval 0 44 v0 rfl rfl) h0
  have k1 := h1
  have lt1 : ∀ x ∈ p1, x.block < W.heap.size := by obtain ⟨m, hm⟩ := k1; exact DataW.trod_lt m _ _ _ hm
  obtain ⟨A1, c1, zs1, rfl, rd1, len1, bd1⟩ := open_I Try.underlying22 Try.underlying2 (by kernel_rfl) (hval 1 22 v1 rfl rfl) h1
  have k2 := h2
  have lt2 : ∀ x ∈ p2, x.block < W.heap.size := by obtain ⟨m, hm⟩ := k2; exact DataW.trod_lt m _ _ _ hm
  obtain ⟨z2, rfl, bd2a, bd2b⟩ := open_Z Try.underlying2 (hval 2 2 v2 rfl rfl) h2
  clear hA0 hval0
  refine (xReadyAt_walk zz0 (.agg #[.int .i64 zz0.z, .slice A0 zz0.of.length c0, .slice B0 zz0.ch.length e0]) zs1 (.slice A1 zs1.length c1) z2 W ⟨A0, c0, B0, e0, rfl, rd0, rt0⟩ len0 bd0 ⟨A1, c1, rfl, rd1⟩ len1 bd1 bd2a bd2b).mono fun e W' ⟨he, bel⟩ => ?_
  subst he
  exact ⟨_, rfl, _, _, _, [], _, [], hW', trodAll_mk1 (shut_bool Try.underlying4 _), (trodAll_cons_mk (Below.trod fnExactReadyAt_laid (by kernel_rfl) (of_decide_eq_true (by kernel_rfl)) k0 bel lt0) (trodAll_cons_mk (Below.trod fnExactReadyAt_laid (by kernel_rfl) (of_decide_eq_true (by kernel_rfl)) k1 bel lt1) (trodAll_cons_mk (Below.trod fnExactReadyAt_laid (by kernel_rfl) (of_decide_eq_true (by kernel_rfl)) k2 bel lt2) trodAll_mk0))), rfl, bel.frame _, fun h => by cases h⟩
theorem fnExactReadyAt_holds : Rows.FnExactReadyAtSaid :=
  OpenClaim.holds_of_wide 5 Try.f5 rfl rfl rfl rfl rfl rfl rfl ⟨rfl, rfl, rfl, rfl, rfl⟩ rfl rfl rfl rfl rfl (by kernel_rfl) Try.func5 (by kernel_rfl)
    (of_decide_eq_true (by kernel_rfl)) (by unfold Func.isWrapper; first | (rw [if_pos (by decide +kernel)]; kernel_rfl) | (rw [if_neg (by decide +kernel)]; exact ⟨rfl, rfl⟩))
    (fun os started H enc _ => fnExactReadyAt_lifted os started H enc)
#print axioms fnExactReadyAt_holds
end Go.Proofs.Yticgaiboolojkaa
