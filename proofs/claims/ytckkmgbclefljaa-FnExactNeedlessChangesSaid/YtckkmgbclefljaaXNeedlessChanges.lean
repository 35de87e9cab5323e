/-
  The law FnExactNeedlessChanges returns true for every input. No condition. Printed by gen_exact.py.
-/
import Derived.Test.YtckkmgbclefljaaZon9
import Derived.Test.YtckkmgbclefljaaLawH
import Derived.Test.YtckkmgbclefljaaRows
import Derived.Test.YtckkmgbclefljaaOpenW
import Derived.Test.YtckkmgbclefljaaOpenZ
import Derived.ProofKit
import Derived.OpenShut
import Derived.Deep.RegionHeld3
namespace Go.Proofs.Ytckkmgbclefljaa
open Go.ChangeShapes Go.WideShapes Go.ChangeAt Go.RowKit

set_option maxRecDepth 100000 in
set_option maxHeartbeats 4000000 in
theorem xNeedlessChanges_walk (x_z : TZ) (v_z : Value) (w : World) (r_z : R_Zoned w w.heap.size v_z x_z) (n_z : Len_Zoned x_z) (f_z : Fit_Zoned x_z) :
    Calls Try.prog 9 #[v_z] w fun e w' => e = .returned (.bool true) ∧ Below w.heap.size w w' := by
  have r0_z := r_z
  obtain ⟨A_z, c_z, B_z, d_z, rfl, _, _⟩ := r0_z
  by_cases g0 : ((size_Zoned x_z) : Int) ≤ (1048576 : Int)
  case neg =>
    go_enter Try.func9, Try.ntmps9
    have b0 : Below w.heap.size w (w.alloc (.cells #[.int .i64 x_z.z, .slice A_z x_z.of.length c_z, .slice B_z x_z.ch.length d_z] 31)) := (by repeat (first | exact Below.refl _ _ | assumption | (refine Below.alloc ?_ (by simp <;> omega) _) | refine Below.drew ?_ | refine bdn ?_ _))
    have z0 : w.heap.size + 1 ≤ (w.alloc (.cells #[.int .i64 x_z.z, .slice A_z x_z.of.length c_z, .slice B_z x_z.ch.length d_z] 31)).heap.size := by simp
    have kc0 : (w.alloc (.cells #[.int .i64 x_z.z, .slice A_z x_z.of.length c_z, .slice B_z x_z.ch.length d_z] 31)).cell? ⟨w.heap.size, 0, none⟩ = some (.int .i64 x_z.z) := by simp [go_sem]
    have kc1 : (w.alloc (.cells #[.int .i64 x_z.z, .slice A_z x_z.of.length c_z, .slice B_z x_z.ch.length d_z] 31)).cell? ⟨w.heap.size, 1, none⟩ = some (.slice A_z x_z.of.length c_z) := by simp [go_sem]
    have kc2 : (w.alloc (.cells #[.int .i64 x_z.z, .slice A_z x_z.of.length c_z, .slice B_z x_z.ch.length d_z] 31)).cell? ⟨w.heap.size, 2, none⟩ = some (.slice B_z x_z.ch.length d_z) := by simp [go_sem]
    go_wp2_with fail
    generalize (w.alloc (.cells #[.int .i64 x_z.z, .slice A_z x_z.of.length c_z, .slice B_z x_z.ch.length d_z] 31)) = w0 at *
    have q0 : Below (w.heap.size + 1) w0 w0 ∧ w0.cell? ⟨w.heap.size, 0, none⟩ = some (.int .i64 x_z.z) ∧ w0.cell? ⟨w.heap.size, 1, none⟩ = some (.slice A_z x_z.of.length c_z) ∧ w0.cell? ⟨w.heap.size, 2, none⟩ = some (.slice B_z x_z.ch.length d_z) := ⟨Below.refl _ _, kc0, kc1, kc2⟩
    have hsz0 := hide (szF_no (n := (size_Zoned x_z)) (left := (1048576 : Int)) (by omega))
    go_wp2_with fail
    refine (L_sz_Zoned x_z (.agg #[.int .i64 x_z.z, .slice A_z x_z.of.length c_z, .slice B_z x_z.ch.length d_z]) _ w.heap.size _ n_z (by omega) (by omega) (r_z.below b0)).mono ?_
    rintro e w1 ⟨rfl, s1⟩
    rw [hsz0.out]
    have z1 := s1.size
    have b1 : Below w.heap.size w w1 := b0.trans (s1.mono b0.size)
    have q1 : Below (w.heap.size + 1) w0 w1 ∧ w1.cell? ⟨w.heap.size, 0, none⟩ = some (.int .i64 x_z.z) ∧ w1.cell? ⟨w.heap.size, 1, none⟩ = some (.slice A_z x_z.of.length c_z) ∧ w1.cell? ⟨w.heap.size, 2, none⟩ = some (.slice B_z x_z.ch.length d_z) := ⟨q0.1.trans (s1.mono (by omega)), (s1.cell (by dsimp only; omega)).trans q0.2.1, (s1.cell (by dsimp only; omega)).trans q0.2.2.1, (s1.cell (by dsimp only; omega)).trans q0.2.2.2⟩
    clear kc0 kc1 kc2
    go_wp2_with fail
    go_ret
    exact ⟨rfl, b1⟩
  have m_z : Small_Zoned x_z := small_Zoned (by omega)
  go_enter Try.func9, Try.ntmps9
  have b0 : Below w.heap.size w (w.alloc (.cells #[.int .i64 x_z.z, .slice A_z x_z.of.length c_z, .slice B_z x_z.ch.length d_z] 31)) := (by repeat (first | exact Below.refl _ _ | assumption | (refine Below.alloc ?_ (by simp <;> omega) _) | refine Below.drew ?_ | refine bdn ?_ _))
  have z0 : w.heap.size + 1 ≤ (w.alloc (.cells #[.int .i64 x_z.z, .slice A_z x_z.of.length c_z, .slice B_z x_z.ch.length d_z] 31)).heap.size := by simp
  have kc0 : (w.alloc (.cells #[.int .i64 x_z.z, .slice A_z x_z.of.length c_z, .slice B_z x_z.ch.length d_z] 31)).cell? ⟨w.heap.size, 0, none⟩ = some (.int .i64 x_z.z) := by simp [go_sem]
  have kc1 : (w.alloc (.cells #[.int .i64 x_z.z, .slice A_z x_z.of.length c_z, .slice B_z x_z.ch.length d_z] 31)).cell? ⟨w.heap.size, 1, none⟩ = some (.slice A_z x_z.of.length c_z) := by simp [go_sem]
  have kc2 : (w.alloc (.cells #[.int .i64 x_z.z, .slice A_z x_z.of.length c_z, .slice B_z x_z.ch.length d_z] 31)).cell? ⟨w.heap.size, 2, none⟩ = some (.slice B_z x_z.ch.length d_z) := by simp [go_sem]
  go_wp2_with fail
  generalize (w.alloc (.cells #[.int .i64 x_z.z, .slice A_z x_z.of.length c_z, .slice B_z x_z.ch.length d_z] 31)) = w0 at *
  have q0 : Below (w.heap.size + 1) w0 w0 ∧ w0.cell? ⟨w.heap.size, 0, none⟩ = some (.int .i64 x_z.z) ∧ w0.cell? ⟨w.heap.size, 1, none⟩ = some (.slice A_z x_z.of.length c_z) ∧ w0.cell? ⟨w.heap.size, 2, none⟩ = some (.slice B_z x_z.ch.length d_z) := ⟨Below.refl _ _, kc0, kc1, kc2⟩
  have hsz0 := hide (szF_yes (n := (size_Zoned x_z)) (left := (1048576 : Int)) (by omega))
  go_wp2_with fail
  refine (L_sz_Zoned x_z (.agg #[.int .i64 x_z.z, .slice A_z x_z.of.length c_z, .slice B_z x_z.ch.length d_z]) _ w.heap.size _ n_z (by omega) (by omega) (r_z.below b0)).mono ?_
  rintro e w1 ⟨rfl, s1⟩
  rw [hsz0.out]
  have z1 := s1.size
  have b1 : Below w.heap.size w w1 := b0.trans (s1.mono b0.size)
  have q1 : Below (w.heap.size + 1) w0 w1 ∧ w1.cell? ⟨w.heap.size, 0, none⟩ = some (.int .i64 x_z.z) ∧ w1.cell? ⟨w.heap.size, 1, none⟩ = some (.slice A_z x_z.of.length c_z) ∧ w1.cell? ⟨w.heap.size, 2, none⟩ = some (.slice B_z x_z.ch.length d_z) := ⟨q0.1.trans (s1.mono (by omega)), (s1.cell (by dsimp only; omega)).trans q0.2.1, (s1.cell (by dsimp only; omega)).trans q0.2.2.1, (s1.cell (by dsimp only; omega)).trans q0.2.2.2⟩
  clear kc0 kc1 kc2
  have kk := q1.2
  obtain ⟨kc0, kc1, kc2⟩ := kk
  go_wp2_with fail
  refine (L_to_Zoned x_z (.agg #[.int .i64 x_z.z, .slice A_z x_z.of.length c_z, .slice B_z x_z.ch.length d_z]) _ m_z ((r_z.below b1).more b1.size)).mono ?_
  rintro e w2 ⟨v_t1, rfl, o_t1, s2⟩
  have z2 := s2.size
  have b2 : Below w.heap.size w w2 := b1.trans (s2.mono b1.size)
  have q2 : Below (w.heap.size + 1) w0 w2 ∧ w2.cell? ⟨w.heap.size, 0, none⟩ = some (.int .i64 x_z.z) ∧ w2.cell? ⟨w.heap.size, 1, none⟩ = some (.slice A_z x_z.of.length c_z) ∧ w2.cell? ⟨w.heap.size, 2, none⟩ = some (.slice B_z x_z.ch.length d_z) := ⟨q1.1.trans (s2.mono (by omega)), (s2.cell (by dsimp only; omega)).trans q1.2.1, (s2.cell (by dsimp only; omega)).trans q1.2.2.1, (s2.cell (by dsimp only; omega)).trans q1.2.2.2⟩
  go_wp2_with fail
  refine (S_NeedlessChanges x_z v_t1 _ m_z f_z o_t1.r).mono ?_
  rintro e w3 ⟨v_w0, rfl, o_w0, s3⟩
  have z3 := s3.size
  have b3 : Below w.heap.size w w3 := b2.trans (s3.mono b2.size)
  have q3 : Below (w.heap.size + 1) w0 w3 ∧ w3.cell? ⟨w.heap.size, 0, none⟩ = some (.int .i64 x_z.z) ∧ w3.cell? ⟨w.heap.size, 1, none⟩ = some (.slice A_z x_z.of.length c_z) ∧ w3.cell? ⟨w.heap.size, 2, none⟩ = some (.slice B_z x_z.ch.length d_z) := ⟨q2.1.trans (s3.mono (by omega)), (s3.cell (by dsimp only; omega)).trans q2.2.1, (s3.cell (by dsimp only; omega)).trans q2.2.2.1, (s3.cell (by dsimp only; omega)).trans q2.2.2.2⟩
  clear o_t1
  clear kc0 kc1 kc2
  have kk := q3.2
  obtain ⟨kc0, kc1, kc2⟩ := kk
  go_wp2_with fail
  refine (L_to_Zoned x_z (.agg #[.int .i64 x_z.z, .slice A_z x_z.of.length c_z, .slice B_z x_z.ch.length d_z]) _ m_z ((r_z.below b3).more b3.size)).mono ?_
  rintro e w4 ⟨v_x0, rfl, o_x0, s4⟩
  have z4 := s4.size
  have b4 : Below w.heap.size w w4 := b3.trans (s4.mono b3.size)
  have q4 : Below (w.heap.size + 1) w0 w4 ∧ w4.cell? ⟨w.heap.size, 0, none⟩ = some (.int .i64 x_z.z) ∧ w4.cell? ⟨w.heap.size, 1, none⟩ = some (.slice A_z x_z.of.length c_z) ∧ w4.cell? ⟨w.heap.size, 2, none⟩ = some (.slice B_z x_z.ch.length d_z) := ⟨q3.1.trans (s4.mono (by omega)), (s4.cell (by dsimp only; omega)).trans q3.2.1, (s4.cell (by dsimp only; omega)).trans q3.2.2.1, (s4.cell (by dsimp only; omega)).trans q3.2.2.2⟩
  replace o_w0 := o_w0.below s4 (by omega)
  obtain ⟨A_x0, c_x0, B_x0, d_x0, e_x0, _, _⟩ := o_x0.r
  subst e_x0
  clear kc0 kc1 kc2
  have s5 : Below w4.heap.size w4 (w4.alloc (.cells #[.int .i64 x_z.z, .slice A_x0 x_z.of.length c_x0, .slice B_x0 x_z.ch.length d_x0] 36)) := (Below.refl _ _).alloc (Nat.le_refl _) _
  have z5 : w4.heap.size + 1 ≤ (w4.alloc (.cells #[.int .i64 x_z.z, .slice A_x0 x_z.of.length c_x0, .slice B_x0 x_z.ch.length d_x0] 36)).heap.size := by simp
  have b5 : Below w.heap.size w (w4.alloc (.cells #[.int .i64 x_z.z, .slice A_x0 x_z.of.length c_x0, .slice B_x0 x_z.ch.length d_x0] 36)) := b4.trans (s5.mono b4.size)
  have q5 : Below (w.heap.size + 1) w0 (w4.alloc (.cells #[.int .i64 x_z.z, .slice A_x0 x_z.of.length c_x0, .slice B_x0 x_z.ch.length d_x0] 36)) ∧ (w4.alloc (.cells #[.int .i64 x_z.z, .slice A_x0 x_z.of.length c_x0, .slice B_x0 x_z.ch.length d_x0] 36)).cell? ⟨w.heap.size, 0, none⟩ = some (.int .i64 x_z.z) ∧ (w4.alloc (.cells #[.int .i64 x_z.z, .slice A_x0 x_z.of.length c_x0, .slice B_x0 x_z.ch.length d_x0] 36)).cell? ⟨w.heap.size, 1, none⟩ = some (.slice A_z x_z.of.length c_z) ∧ (w4.alloc (.cells #[.int .i64 x_z.z, .slice A_x0 x_z.of.length c_x0, .slice B_x0 x_z.ch.length d_x0] 36)).cell? ⟨w.heap.size, 2, none⟩ = some (.slice B_z x_z.ch.length d_z) ∧ (w4.alloc (.cells #[.int .i64 x_z.z, .slice A_x0 x_z.of.length c_x0, .slice B_x0 x_z.ch.length d_x0] 36)).cell? ⟨w4.heap.size, 0, none⟩ = some (.int .i64 x_z.z) ∧ (w4.alloc (.cells #[.int .i64 x_z.z, .slice A_x0 x_z.of.length c_x0, .slice B_x0 x_z.ch.length d_x0] 36)).cell? ⟨w4.heap.size, 1, none⟩ = some (.slice A_x0 x_z.of.length c_x0) ∧ (w4.alloc (.cells #[.int .i64 x_z.z, .slice A_x0 x_z.of.length c_x0, .slice B_x0 x_z.ch.length d_x0] 36)).cell? ⟨w4.heap.size, 2, none⟩ = some (.slice B_x0 x_z.ch.length d_x0) := ⟨q4.1.trans (s5.mono (by omega)), (s5.cell (by dsimp only; omega)).trans q4.2.1, (s5.cell (by dsimp only; omega)).trans q4.2.2.1, (s5.cell (by dsimp only; omega)).trans q4.2.2.2, (by simp [go_sem]), (by simp [go_sem]), (by simp [go_sem])⟩
  replace o_w0 := o_w0.below s5 (by omega)
  replace o_x0 := o_x0.below s5 (by omega)
  go_wp2_with fail
  generalize (w4.alloc (.cells #[.int .i64 x_z.z, .slice A_x0 x_z.of.length c_x0, .slice B_x0 x_z.ch.length d_x0] 36)) = w5 at *
  have kk := q5.2
  obtain ⟨kc0, kc1, kc2, kc3, kc4, kc5⟩ := kk
  refine (P_NeedlessChanges x_z (.agg #[.int .i64 x_z.z, .slice A_x0 x_z.of.length c_x0, .slice B_x0 x_z.ch.length d_x0]) _ m_z f_z o_x0.r).mono ?_
  rintro e w6 ⟨v_g0, rfl, o_g0, s6⟩
  have z6 := s6.size
  have b6 : Below w.heap.size w w6 := b5.trans (s6.mono b5.size)
  have q6 : Below (w.heap.size + 1) w0 w6 ∧ w6.cell? ⟨w.heap.size, 0, none⟩ = some (.int .i64 x_z.z) ∧ w6.cell? ⟨w.heap.size, 1, none⟩ = some (.slice A_z x_z.of.length c_z) ∧ w6.cell? ⟨w.heap.size, 2, none⟩ = some (.slice B_z x_z.ch.length d_z) ∧ w6.cell? ⟨w4.heap.size, 0, none⟩ = some (.int .i64 x_z.z) ∧ w6.cell? ⟨w4.heap.size, 1, none⟩ = some (.slice A_x0 x_z.of.length c_x0) ∧ w6.cell? ⟨w4.heap.size, 2, none⟩ = some (.slice B_x0 x_z.ch.length d_x0) := ⟨q5.1.trans (s6.mono (by omega)), (s6.cell (by dsimp only; omega)).trans q5.2.1, (s6.cell (by dsimp only; omega)).trans q5.2.2.1, (s6.cell (by dsimp only; omega)).trans q5.2.2.2.1, (s6.cell (by dsimp only; omega)).trans q5.2.2.2.2.1, (s6.cell (by dsimp only; omega)).trans q5.2.2.2.2.2.1, (s6.cell (by dsimp only; omega)).trans q5.2.2.2.2.2.2⟩
  replace o_w0 := o_w0.below s6 (by omega)
  replace o_x0 := o_x0.below s6 (by omega)
  clear kc0 kc1 kc2 kc3 kc4 kc5
  go_wp2_with fail
  refine (L_eq_Int64S _ _ _ _ _ _ _ _ o_g0 o_w0).mono ?_
  rintro e w7 ⟨rfl, s7⟩
  have z7 := s7.size
  have b7 : Below w.heap.size w w7 := b6.trans (s7.mono b6.size)
  have q7 : Below (w.heap.size + 1) w0 w7 ∧ w7.cell? ⟨w.heap.size, 0, none⟩ = some (.int .i64 x_z.z) ∧ w7.cell? ⟨w.heap.size, 1, none⟩ = some (.slice A_z x_z.of.length c_z) ∧ w7.cell? ⟨w.heap.size, 2, none⟩ = some (.slice B_z x_z.ch.length d_z) ∧ w7.cell? ⟨w4.heap.size, 0, none⟩ = some (.int .i64 x_z.z) ∧ w7.cell? ⟨w4.heap.size, 1, none⟩ = some (.slice A_x0 x_z.of.length c_x0) ∧ w7.cell? ⟨w4.heap.size, 2, none⟩ = some (.slice B_x0 x_z.ch.length d_x0) := ⟨q6.1.trans (s7.mono (by omega)), (s7.cell (by dsimp only; omega)).trans q6.2.1, (s7.cell (by dsimp only; omega)).trans q6.2.2.1, (s7.cell (by dsimp only; omega)).trans q6.2.2.2.1, (s7.cell (by dsimp only; omega)).trans q6.2.2.2.2.1, (s7.cell (by dsimp only; omega)).trans q6.2.2.2.2.2.1, (s7.cell (by dsimp only; omega)).trans q6.2.2.2.2.2.2⟩
  replace o_w0 := o_w0.below s7 (by omega)
  replace o_x0 := o_x0.below s7 (by omega)
  replace o_g0 := o_g0.below s7 (by omega)
  have kk := q7.2
  obtain ⟨kc0, kc1, kc2, kc3, kc4, kc5⟩ := kk
  go_wp2_with fail
  have bd7 : Below w.heap.size w w7.drew := b7.drew
  have qd7 : Below (w.heap.size + 1) w0 w7.drew ∧ w7.drew.cell? ⟨w.heap.size, 0, none⟩ = some (.int .i64 x_z.z) ∧ w7.drew.cell? ⟨w.heap.size, 1, none⟩ = some (.slice A_z x_z.of.length c_z) ∧ w7.drew.cell? ⟨w.heap.size, 2, none⟩ = some (.slice B_z x_z.ch.length d_z) ∧ w7.drew.cell? ⟨w4.heap.size, 0, none⟩ = some (.int .i64 x_z.z) ∧ w7.drew.cell? ⟨w4.heap.size, 1, none⟩ = some (.slice A_x0 x_z.of.length c_x0) ∧ w7.drew.cell? ⟨w4.heap.size, 2, none⟩ = some (.slice B_x0 x_z.ch.length d_x0) := ⟨q7.1.drew, q7.2⟩
  replace o_w0 : O_Int64S w7.drew w2.heap.size w3.heap.size v_w0 ((needlessChanges x_z).1) := o_w0
  replace o_x0 : O_Zoned w7.drew w3.heap.size w4.heap.size (.agg #[.int .i64 x_z.z, .slice A_x0 x_z.of.length c_x0, .slice B_x0 x_z.ch.length d_x0]) (x_z) := o_x0
  replace o_g0 : O_Int64S w7.drew w5.heap.size w6.heap.size v_g0 ((needlessChanges x_z).1) := o_g0
  have zd7a : w7.heap.size ≤ w7.drew.heap.size := Nat.le_refl _
  have zd7b : w7.drew.heap.size ≤ w7.heap.size := Nat.le_refl _
  go_region_held3 (fun W => Below (w.heap.size + 1) w0 W ∧ W.cell? ⟨w.heap.size, 0, none⟩ = some (.int .i64 x_z.z) ∧ W.cell? ⟨w.heap.size, 1, none⟩ = some (.slice A_z x_z.of.length c_z) ∧ W.cell? ⟨w.heap.size, 2, none⟩ = some (.slice B_z x_z.ch.length d_z) ∧ W.cell? ⟨w4.heap.size, 0, none⟩ = some (.int .i64 x_z.z) ∧ W.cell? ⟨w4.heap.size, 1, none⟩ = some (.slice A_x0 x_z.of.length c_x0) ∧ W.cell? ⟨w4.heap.size, 2, none⟩ = some (.slice B_x0 x_z.ch.length d_x0))
    (first | exact qd7 | exact q8 | exact q9)
    (first | (go_at_call 21; (with_reducible refine (L_to_Zoned x_z (.agg #[.int .i64 x_z.z, .slice A_z x_z.of.length c_z, .slice B_z x_z.ch.length d_z]) _ m_z ((r_z.below bd7).more bd7.size)).mono ?_); rintro e w8 ⟨v_t2, rfl, o_t2, s8⟩; have z8 := s8.size; have b8 : Below w.heap.size w w8 := bd7.trans (s8.mono bd7.size); have q8 : Below (w.heap.size + 1) w0 w8 ∧ w8.cell? ⟨w.heap.size, 0, none⟩ = some (.int .i64 x_z.z) ∧ w8.cell? ⟨w.heap.size, 1, none⟩ = some (.slice A_z x_z.of.length c_z) ∧ w8.cell? ⟨w.heap.size, 2, none⟩ = some (.slice B_z x_z.ch.length d_z) ∧ w8.cell? ⟨w4.heap.size, 0, none⟩ = some (.int .i64 x_z.z) ∧ w8.cell? ⟨w4.heap.size, 1, none⟩ = some (.slice A_x0 x_z.of.length c_x0) ∧ w8.cell? ⟨w4.heap.size, 2, none⟩ = some (.slice B_x0 x_z.ch.length d_x0) := ⟨qd7.1.trans (s8.mono (by omega)), (s8.cell (by dsimp only; omega)).trans qd7.2.1, (s8.cell (by dsimp only; omega)).trans qd7.2.2.1, (s8.cell (by dsimp only; omega)).trans qd7.2.2.2.1, (s8.cell (by dsimp only; omega)).trans qd7.2.2.2.2.1, (s8.cell (by dsimp only; omega)).trans qd7.2.2.2.2.2.1, (s8.cell (by dsimp only; omega)).trans qd7.2.2.2.2.2.2⟩; replace o_w0 := o_w0.below s8 (by omega); replace o_x0 := o_x0.below s8 (by omega); replace o_g0 := o_g0.below s8 (by omega)) | (go_at_call 23; (with_reducible refine (L_eq_Zoned _ _ _ _ _ _ _ _ o_x0 o_t2).mono ?_); rintro e w9 ⟨rfl, s9⟩; have z9 := s9.size; have b9 : Below w.heap.size w w9 := b8.trans (s9.mono b8.size); have q9 : Below (w.heap.size + 1) w0 w9 ∧ w9.cell? ⟨w.heap.size, 0, none⟩ = some (.int .i64 x_z.z) ∧ w9.cell? ⟨w.heap.size, 1, none⟩ = some (.slice A_z x_z.of.length c_z) ∧ w9.cell? ⟨w.heap.size, 2, none⟩ = some (.slice B_z x_z.ch.length d_z) ∧ w9.cell? ⟨w4.heap.size, 0, none⟩ = some (.int .i64 x_z.z) ∧ w9.cell? ⟨w4.heap.size, 1, none⟩ = some (.slice A_x0 x_z.of.length c_x0) ∧ w9.cell? ⟨w4.heap.size, 2, none⟩ = some (.slice B_x0 x_z.ch.length d_x0) := ⟨q8.1.trans (s9.mono (by omega)), (s9.cell (by dsimp only; omega)).trans q8.2.1, (s9.cell (by dsimp only; omega)).trans q8.2.2.1, (s9.cell (by dsimp only; omega)).trans q8.2.2.2.1, (s9.cell (by dsimp only; omega)).trans q8.2.2.2.2.1, (s9.cell (by dsimp only; omega)).trans q8.2.2.2.2.2.1, (s9.cell (by dsimp only; omega)).trans q8.2.2.2.2.2.2⟩; replace o_w0 := o_w0.below s9 (by omega); replace o_x0 := o_x0.below s9 (by omega); replace o_g0 := o_g0.below s9 (by omega); replace o_t2 := o_t2.below s9 (by omega); clear o_t2))
  clear kc0 kc1 kc2 kc3 kc4 kc5
  obtain ⟨c10a, c10b⟩ := o_x0.cnt
  have kk := q9.2
  obtain ⟨kc0, kc1, kc2, kc3, kc4, kc5⟩ := kk
  go_wp2_with fail
  refine (L_mark_Zoned _ _ _ _ _ _ (by omega) (by omega) (by omega) o_x0).mono ?_
  rintro e w10 ⟨rfl, o_x0', s10⟩
  clear o_x0; have o_x0 := o_x0'; clear o_x0'
  have z10 := s10.size
  have b10 : Below w.heap.size w w10 := b9.trans (s10.below (by omega) (by omega))
  have q10 : Below (w.heap.size + 1) w0 w10 ∧ w10.cell? ⟨w.heap.size, 0, none⟩ = some (.int .i64 x_z.z) ∧ w10.cell? ⟨w.heap.size, 1, none⟩ = some (.slice A_z x_z.of.length c_z) ∧ w10.cell? ⟨w.heap.size, 2, none⟩ = some (.slice B_z x_z.ch.length d_z) ∧ w10.cell? ⟨w4.heap.size, 0, none⟩ = some (.int .i64 x_z.z) ∧ w10.cell? ⟨w4.heap.size, 1, none⟩ = some (.slice A_x0 x_z.of.length c_x0) ∧ w10.cell? ⟨w4.heap.size, 2, none⟩ = some (.slice B_x0 x_z.ch.length d_x0) := ⟨q9.1.trans (s10.below (B := w.heap.size + 1) (by omega) (by omega)), (s10.cell (by dsimp only; omega) (by dsimp only; omega)).trans q9.2.1, (s10.cell (by dsimp only; omega) (by dsimp only; omega)).trans q9.2.2.1, (s10.cell (by dsimp only; omega) (by dsimp only; omega)).trans q9.2.2.2.1, (s10.cell (by dsimp only; omega) (by dsimp only; omega)).trans q9.2.2.2.2.1, (s10.cell (by dsimp only; omega) (by dsimp only; omega)).trans q9.2.2.2.2.2.1, (s10.cell (by dsimp only; omega) (by dsimp only; omega)).trans q9.2.2.2.2.2.2⟩
  replace o_w0 := o_w0.kept s10 (by omega)
  replace o_g0 := o_g0.kept s10 (by omega)
  clear kc0 kc1 kc2 kc3 kc4 kc5
  clear o_x0
  go_wp2_with fail
  refine (L_eq_Int64S _ _ _ _ _ _ _ _ o_g0 o_w0).mono ?_
  rintro e w11 ⟨rfl, s11⟩
  have z11 := s11.size
  have b11 : Below w.heap.size w w11 := b10.trans (s11.mono b10.size)
  have q11 : Below (w.heap.size + 1) w0 w11 ∧ w11.cell? ⟨w.heap.size, 0, none⟩ = some (.int .i64 x_z.z) ∧ w11.cell? ⟨w.heap.size, 1, none⟩ = some (.slice A_z x_z.of.length c_z) ∧ w11.cell? ⟨w.heap.size, 2, none⟩ = some (.slice B_z x_z.ch.length d_z) ∧ w11.cell? ⟨w4.heap.size, 0, none⟩ = some (.int .i64 x_z.z) ∧ w11.cell? ⟨w4.heap.size, 1, none⟩ = some (.slice A_x0 x_z.of.length c_x0) ∧ w11.cell? ⟨w4.heap.size, 2, none⟩ = some (.slice B_x0 x_z.ch.length d_x0) := ⟨q10.1.trans (s11.mono (by omega)), (s11.cell (by dsimp only; omega)).trans q10.2.1, (s11.cell (by dsimp only; omega)).trans q10.2.2.1, (s11.cell (by dsimp only; omega)).trans q10.2.2.2.1, (s11.cell (by dsimp only; omega)).trans q10.2.2.2.2.1, (s11.cell (by dsimp only; omega)).trans q10.2.2.2.2.2.1, (s11.cell (by dsimp only; omega)).trans q10.2.2.2.2.2.2⟩
  replace o_w0 := o_w0.below s11 (by omega)
  replace o_g0 := o_g0.below s11 (by omega)
  obtain ⟨c12a, c12b⟩ := o_g0.cnt
  go_wp2_with fail
  refine (L_mark_Int64S _ _ _ _ _ _ (by omega) (by omega) o_g0).mono ?_
  rintro e w12 ⟨rfl, o_g0', s12⟩
  clear o_g0; have o_g0 := o_g0'; clear o_g0'
  have z12 := s12.size
  have b12 : Below w.heap.size w w12 := b11.trans (s12.below (by omega) (by omega))
  have q12 : Below (w.heap.size + 1) w0 w12 ∧ w12.cell? ⟨w.heap.size, 0, none⟩ = some (.int .i64 x_z.z) ∧ w12.cell? ⟨w.heap.size, 1, none⟩ = some (.slice A_z x_z.of.length c_z) ∧ w12.cell? ⟨w.heap.size, 2, none⟩ = some (.slice B_z x_z.ch.length d_z) ∧ w12.cell? ⟨w4.heap.size, 0, none⟩ = some (.int .i64 x_z.z) ∧ w12.cell? ⟨w4.heap.size, 1, none⟩ = some (.slice A_x0 x_z.of.length c_x0) ∧ w12.cell? ⟨w4.heap.size, 2, none⟩ = some (.slice B_x0 x_z.ch.length d_x0) := ⟨q11.1.trans (s12.below (B := w.heap.size + 1) (by omega) (by omega)), (s12.cell (by dsimp only; omega) (by dsimp only; omega)).trans q11.2.1, (s12.cell (by dsimp only; omega) (by dsimp only; omega)).trans q11.2.2.1, (s12.cell (by dsimp only; omega) (by dsimp only; omega)).trans q11.2.2.2.1, (s12.cell (by dsimp only; omega) (by dsimp only; omega)).trans q11.2.2.2.2.1, (s12.cell (by dsimp only; omega) (by dsimp only; omega)).trans q11.2.2.2.2.2.1, (s12.cell (by dsimp only; omega) (by dsimp only; omega)).trans q11.2.2.2.2.2.2⟩
  replace o_w0 := o_w0.kept s12 (by omega)
  go_wp2_with fail
  refine (L_held_Int64S _ _ _ _ _ _ (by omega) (by omega) o_g0).mono ?_
  rintro e w13 ⟨rfl, s13⟩
  have z13 := s13.size
  have b13 : Below w.heap.size w w13 := b12.trans (s13.mono b12.size)
  have q13 : Below (w.heap.size + 1) w0 w13 ∧ w13.cell? ⟨w.heap.size, 0, none⟩ = some (.int .i64 x_z.z) ∧ w13.cell? ⟨w.heap.size, 1, none⟩ = some (.slice A_z x_z.of.length c_z) ∧ w13.cell? ⟨w.heap.size, 2, none⟩ = some (.slice B_z x_z.ch.length d_z) ∧ w13.cell? ⟨w4.heap.size, 0, none⟩ = some (.int .i64 x_z.z) ∧ w13.cell? ⟨w4.heap.size, 1, none⟩ = some (.slice A_x0 x_z.of.length c_x0) ∧ w13.cell? ⟨w4.heap.size, 2, none⟩ = some (.slice B_x0 x_z.ch.length d_x0) := ⟨q12.1.trans (s13.mono (by omega)), (s13.cell (by dsimp only; omega)).trans q12.2.1, (s13.cell (by dsimp only; omega)).trans q12.2.2.1, (s13.cell (by dsimp only; omega)).trans q12.2.2.2.1, (s13.cell (by dsimp only; omega)).trans q12.2.2.2.2.1, (s13.cell (by dsimp only; omega)).trans q12.2.2.2.2.2.1, (s13.cell (by dsimp only; omega)).trans q12.2.2.2.2.2.2⟩
  replace o_w0 := o_w0.below s13 (by omega)
  replace o_g0 := o_g0.below s13 (by omega)
  have kk := q13.2
  obtain ⟨kc0, kc1, kc2, kc3, kc4, kc5⟩ := kk
  go_wp2_with fail
  refine (L_to_Zoned x_z (.agg #[.int .i64 x_z.z, .slice A_z x_z.of.length c_z, .slice B_z x_z.ch.length d_z]) _ m_z ((r_z.below b13).more b13.size)).mono ?_
  rintro e w14 ⟨v_t3, rfl, o_t3, s14⟩
  have z14 := s14.size
  have b14 : Below w.heap.size w w14 := b13.trans (s14.mono b13.size)
  have q14 : Below (w.heap.size + 1) w0 w14 ∧ w14.cell? ⟨w.heap.size, 0, none⟩ = some (.int .i64 x_z.z) ∧ w14.cell? ⟨w.heap.size, 1, none⟩ = some (.slice A_z x_z.of.length c_z) ∧ w14.cell? ⟨w.heap.size, 2, none⟩ = some (.slice B_z x_z.ch.length d_z) ∧ w14.cell? ⟨w4.heap.size, 0, none⟩ = some (.int .i64 x_z.z) ∧ w14.cell? ⟨w4.heap.size, 1, none⟩ = some (.slice A_x0 x_z.of.length c_x0) ∧ w14.cell? ⟨w4.heap.size, 2, none⟩ = some (.slice B_x0 x_z.ch.length d_x0) := ⟨q13.1.trans (s14.mono (by omega)), (s14.cell (by dsimp only; omega)).trans q13.2.1, (s14.cell (by dsimp only; omega)).trans q13.2.2.1, (s14.cell (by dsimp only; omega)).trans q13.2.2.2.1, (s14.cell (by dsimp only; omega)).trans q13.2.2.2.2.1, (s14.cell (by dsimp only; omega)).trans q13.2.2.2.2.2.1, (s14.cell (by dsimp only; omega)).trans q13.2.2.2.2.2.2⟩
  replace o_w0 := o_w0.below s14 (by omega)
  replace o_g0 := o_g0.below s14 (by omega)
  go_wp2_with fail
  refine (P_NeedlessChanges x_z v_t3 _ m_z f_z o_t3.r).mono ?_
  rintro e w15 ⟨v_h0, rfl, o_h0, s15⟩
  have z15 := s15.size
  have b15 : Below w.heap.size w w15 := b14.trans (s15.mono b14.size)
  have q15 : Below (w.heap.size + 1) w0 w15 ∧ w15.cell? ⟨w.heap.size, 0, none⟩ = some (.int .i64 x_z.z) ∧ w15.cell? ⟨w.heap.size, 1, none⟩ = some (.slice A_z x_z.of.length c_z) ∧ w15.cell? ⟨w.heap.size, 2, none⟩ = some (.slice B_z x_z.ch.length d_z) ∧ w15.cell? ⟨w4.heap.size, 0, none⟩ = some (.int .i64 x_z.z) ∧ w15.cell? ⟨w4.heap.size, 1, none⟩ = some (.slice A_x0 x_z.of.length c_x0) ∧ w15.cell? ⟨w4.heap.size, 2, none⟩ = some (.slice B_x0 x_z.ch.length d_x0) := ⟨q14.1.trans (s15.mono (by omega)), (s15.cell (by dsimp only; omega)).trans q14.2.1, (s15.cell (by dsimp only; omega)).trans q14.2.2.1, (s15.cell (by dsimp only; omega)).trans q14.2.2.2.1, (s15.cell (by dsimp only; omega)).trans q14.2.2.2.2.1, (s15.cell (by dsimp only; omega)).trans q14.2.2.2.2.2.1, (s15.cell (by dsimp only; omega)).trans q14.2.2.2.2.2.2⟩
  replace o_w0 := o_w0.below s15 (by omega)
  replace o_g0 := o_g0.below s15 (by omega)
  clear o_t3
  clear kc0 kc1 kc2 kc3 kc4 kc5
  go_wp2_with fail
  refine (L_eq_Int64S _ _ _ _ _ _ _ _ o_h0 o_w0).mono ?_
  rintro e w16 ⟨rfl, s16⟩
  have z16 := s16.size
  have b16 : Below w.heap.size w w16 := b15.trans (s16.mono b15.size)
  have q16 : Below (w.heap.size + 1) w0 w16 ∧ w16.cell? ⟨w.heap.size, 0, none⟩ = some (.int .i64 x_z.z) ∧ w16.cell? ⟨w.heap.size, 1, none⟩ = some (.slice A_z x_z.of.length c_z) ∧ w16.cell? ⟨w.heap.size, 2, none⟩ = some (.slice B_z x_z.ch.length d_z) ∧ w16.cell? ⟨w4.heap.size, 0, none⟩ = some (.int .i64 x_z.z) ∧ w16.cell? ⟨w4.heap.size, 1, none⟩ = some (.slice A_x0 x_z.of.length c_x0) ∧ w16.cell? ⟨w4.heap.size, 2, none⟩ = some (.slice B_x0 x_z.ch.length d_x0) := ⟨q15.1.trans (s16.mono (by omega)), (s16.cell (by dsimp only; omega)).trans q15.2.1, (s16.cell (by dsimp only; omega)).trans q15.2.2.1, (s16.cell (by dsimp only; omega)).trans q15.2.2.2.1, (s16.cell (by dsimp only; omega)).trans q15.2.2.2.2.1, (s16.cell (by dsimp only; omega)).trans q15.2.2.2.2.2.1, (s16.cell (by dsimp only; omega)).trans q15.2.2.2.2.2.2⟩
  replace o_w0 := o_w0.below s16 (by omega)
  replace o_g0 := o_g0.below s16 (by omega)
  replace o_h0 := o_h0.below s16 (by omega)
  go_wp2_with fail
  refine (L_held_Int64S _ _ _ _ _ _ (by omega) (by omega) o_g0).mono ?_
  rintro e w17 ⟨rfl, s17⟩
  have z17 := s17.size
  have b17 : Below w.heap.size w w17 := b16.trans (s17.mono b16.size)
  have q17 : Below (w.heap.size + 1) w0 w17 ∧ w17.cell? ⟨w.heap.size, 0, none⟩ = some (.int .i64 x_z.z) ∧ w17.cell? ⟨w.heap.size, 1, none⟩ = some (.slice A_z x_z.of.length c_z) ∧ w17.cell? ⟨w.heap.size, 2, none⟩ = some (.slice B_z x_z.ch.length d_z) ∧ w17.cell? ⟨w4.heap.size, 0, none⟩ = some (.int .i64 x_z.z) ∧ w17.cell? ⟨w4.heap.size, 1, none⟩ = some (.slice A_x0 x_z.of.length c_x0) ∧ w17.cell? ⟨w4.heap.size, 2, none⟩ = some (.slice B_x0 x_z.ch.length d_x0) := ⟨q16.1.trans (s17.mono (by omega)), (s17.cell (by dsimp only; omega)).trans q16.2.1, (s17.cell (by dsimp only; omega)).trans q16.2.2.1, (s17.cell (by dsimp only; omega)).trans q16.2.2.2.1, (s17.cell (by dsimp only; omega)).trans q16.2.2.2.2.1, (s17.cell (by dsimp only; omega)).trans q16.2.2.2.2.2.1, (s17.cell (by dsimp only; omega)).trans q16.2.2.2.2.2.2⟩
  replace o_w0 := o_w0.below s17 (by omega)
  replace o_g0 := o_g0.below s17 (by omega)
  replace o_h0 := o_h0.below s17 (by omega)
  go_wp2_with fail
  go_ret
  exact ⟨rfl, b17⟩

theorem fnExactNeedlessChanges_own : ownKnob Try.prog.godebug = none := by kernel_rfl
theorem fnExactNeedlessChanges_laid : laidOutB Try.prog = true := by kernel_rfl
set_option maxRecDepth 100000 in
theorem fnExactNeedlessChanges_lifted (os : Os) (started : os.Started) (H : Type) (enc : TypeId × Value → H) :
    ReturnsInHanded {} Try.checked os 9 .any (Rows.fnExactNeedlessChangesSpec.pre6 enc Try.prog Try.f9 Rows.fnExactNeedlessChangesRow.domain false) (Rows.fnExactNeedlessChangesSpec.post enc Try.prog Try.f9 false true false false) := by
  refine returnsInHanded_of_change (C := Try.checked) fnExactNeedlessChanges_own started (by kernel_rfl) Try.func9
    (ChangeSpec.witness6 (enc := enc) (C := Try.checked) false ⟨#[], #[.agg #[.int .i64 0, .slice none 0 0, .slice none 0 0]], []⟩ 8 (by kernel_rfl) (by kernel_rfl) (by kernel_rfl) (by kernel_rfl)) ?_
  intro W base args ds gs before hval0 hW hcnd _
  have hval : ∀ (j : Nat) t v, Try.f9.params[j]? = some t → args[j]? = some v → Value.okWide Try.prog W .any base t v := hval0
  have hW' := hW
  obtain ⟨p, q, hA0, hV, rfl, hfz, hnd⟩ := hW
  have hA : DataW.TrodAll enc Try.prog W 0 (fun _ => true) true Try.f9.params.toList args.toList ds p := hA0
  rw [Try.params9] at hA hval
  obtain ⟨v0, vs0, d0, ds0, p0, q0, hargs, rfl, rfl, h0, r0⟩ := trodAll_cons hA
  obtain ⟨rfl, rfl, rfl⟩ := trodAll_nil r0
  obtain rfl : args = #[v0] := by cases args; simp_all
  obtain ⟨rfl, rfl⟩ := trodVars_none hV
  have k0 := h0
  have lt0 : ∀ x ∈ p0, x.block < W.heap.size := by obtain ⟨m, hm⟩ := k0; exact DataW.trod_lt m _ _ _ hm
  obtain ⟨zz0, A0, c0, B0, e0, rfl, rd0, rt0, len0, bd0⟩ := open_ZN Try.underlying31 (by kernel_rfl) (by kernel_rfl) Try.underlying2 Try.underlying28 Try.underlying2 (by kernel_rfl) Try.underlying29 Try.underlying87 (by kernel_rfl) (by kernel_rfl) Try.underlying2 Try.underlying2 Try.underlying2 (hval 0 31 v0 rfl rfl) h0
  clear hA0 hval0
  refine (xNeedlessChanges_walk zz0 (.agg #[.int .i64 zz0.z, .slice A0 zz0.of.length c0, .slice B0 zz0.ch.length e0]) W ⟨A0, c0, B0, e0, rfl, rd0, rt0⟩ len0 bd0).mono fun e W' ⟨he, bel⟩ => ?_
  subst he
  exact ⟨_, rfl, _, _, _, [], _, [], hW', trodAll_mk1 (shut_bool Try.underlying4 _), (trodAll_cons_mk (Below.trod fnExactNeedlessChanges_laid (by kernel_rfl) (of_decide_eq_true (by kernel_rfl)) k0 bel lt0) trodAll_mk0), rfl, bel.frame _, fun h => by cases h⟩
theorem fnExactNeedlessChanges_holds : Rows.FnExactNeedlessChangesSaid :=
  OpenClaim.holds_of_wide 9 Try.f9 rfl rfl rfl rfl rfl rfl rfl ⟨rfl, rfl, rfl, rfl, rfl⟩ rfl rfl rfl rfl rfl (by kernel_rfl) Try.func9 (by kernel_rfl)
    (of_decide_eq_true (by kernel_rfl)) (by unfold Func.isWrapper; first | (rw [if_pos (by decide +kernel)]; kernel_rfl) | (rw [if_neg (by decide +kernel)]; exact ⟨rfl, rfl⟩))
    (fun os started H enc _ => fnExactNeedlessChanges_lifted os started H enc)
#print axioms fnExactNeedlessChanges_holds
end Go.Proofs.Ytckkmgbclefljaa
