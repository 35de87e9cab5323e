/-
  The law FnExactSendCarriers returns true for every input. No condition. Printed by gen_exact.py.
-/
import Derived.Test.YtgkmgncenljdaaaCarSend
import Derived.Test.YtgkmgncenljdaaaLawH
import Derived.Test.YtgkmgncenljdaaaRows
import Derived.Test.YtgkmgncenljdaaaOpenW
import Derived.ProofKit
import Derived.OpenShut
import Derived.Deep.RegionHeld3
namespace Go.Proofs.Ytgkmgncenljdaaa
open Go.ChangeShapes Go.WideShapes Go.ChangeAt Go.RowKit

set_option maxRecDepth 100000 in
set_option maxHeartbeats 4000000 in
theorem xSendCarriers_walk (x_stock : List Int) (v_stock : Value) (y_m : T3) (w : World) (r_stock : R_Int64S w w.heap.size v_stock x_stock) (n_stock : x_stock.length ≤ 9223372036854775807) (f_stock : ∀ z ∈ x_stock, -9223372036854775808 ≤ z ∧ z ≤ 9223372036854775807) (f_m : y_m.Fits) :
    Calls Try.prog 11 #[v_stock, (.agg #[.int .i64 y_m.a, .int .i64 y_m.b, .int .i64 y_m.c])] w fun e w' => e = .returned (.bool true) ∧ Below w.heap.size w w' := by
  by_cases g0 : (x_stock.length : Int) ≤ 1048576
  case neg =>
    have r0_stock := r_stock
    obtain ⟨A_stock, c_stock, rfl, _⟩ := r0_stock
    go_enter Try.func11, Try.ntmps11
    go_wp2_with fail
    go_ret
    exact ⟨rfl, (by repeat (first | exact Below.refl _ _ | assumption | (refine Below.alloc ?_ (by simp <;> omega) _) | refine Below.drew ?_ | refine bdn ?_ _))⟩
  have r0_stock := r_stock
  obtain ⟨A_stock, c_stock, rfl, _⟩ := r0_stock
  go_enter Try.func11, Try.ntmps11
  have b0 : Below w.heap.size w (w.alloc (.cells #[.int .i64 y_m.a, .int .i64 y_m.b, .int .i64 y_m.c] 50)) := (by repeat (first | exact Below.refl _ _ | assumption | (refine Below.alloc ?_ (by simp <;> omega) _) | refine Below.drew ?_ | refine bdn ?_ _))
  have z0 : w.heap.size + 1 ≤ (w.alloc (.cells #[.int .i64 y_m.a, .int .i64 y_m.b, .int .i64 y_m.c] 50)).heap.size := by simp
  have kc0 : (w.alloc (.cells #[.int .i64 y_m.a, .int .i64 y_m.b, .int .i64 y_m.c] 50)).cell? ⟨w.heap.size, 0, none⟩ = some (.int .i64 y_m.a) := by simp [go_sem]
  have kc1 : (w.alloc (.cells #[.int .i64 y_m.a, .int .i64 y_m.b, .int .i64 y_m.c] 50)).cell? ⟨w.heap.size, 1, none⟩ = some (.int .i64 y_m.b) := by simp [go_sem]
  have kc2 : (w.alloc (.cells #[.int .i64 y_m.a, .int .i64 y_m.b, .int .i64 y_m.c] 50)).cell? ⟨w.heap.size, 2, none⟩ = some (.int .i64 y_m.c) := by simp [go_sem]
  go_wp2_with fail
  generalize (w.alloc (.cells #[.int .i64 y_m.a, .int .i64 y_m.b, .int .i64 y_m.c] 50)) = w0 at *
  have q0 : Below (w.heap.size + 1) w0 w0 ∧ w0.cell? ⟨w.heap.size, 0, none⟩ = some (.int .i64 y_m.a) ∧ w0.cell? ⟨w.heap.size, 1, none⟩ = some (.int .i64 y_m.b) ∧ w0.cell? ⟨w.heap.size, 2, none⟩ = some (.int .i64 y_m.c) := ⟨Below.refl _ _, kc0, kc1, kc2⟩
  go_wp2_with fail
  have bd0 : Below w.heap.size w w0.drew := b0.drew
  have qd0 : Below (w.heap.size + 1) w0 w0.drew ∧ w0.drew.cell? ⟨w.heap.size, 0, none⟩ = some (.int .i64 y_m.a) ∧ w0.drew.cell? ⟨w.heap.size, 1, none⟩ = some (.int .i64 y_m.b) ∧ w0.drew.cell? ⟨w.heap.size, 2, none⟩ = some (.int .i64 y_m.c) := ⟨q0.1.drew, q0.2⟩
  have zd0a : w0.heap.size ≤ w0.drew.heap.size := Nat.le_refl _
  have zd0b : w0.drew.heap.size ≤ w0.heap.size := Nat.le_refl _
  go_region_held3 (fun W => Below (w.heap.size + 1) w0 W ∧ W.cell? ⟨w.heap.size, 0, none⟩ = some (.int .i64 y_m.a) ∧ W.cell? ⟨w.heap.size, 1, none⟩ = some (.int .i64 y_m.b) ∧ W.cell? ⟨w.heap.size, 2, none⟩ = some (.int .i64 y_m.c))
    (first | exact qd0 | exact q1 | exact q2 | exact q3)
    (first | (go_at_call 16; (with_reducible refine (L_to_Int64S x_stock (.slice A_stock x_stock.length c_stock) _ (by omega) ((r_stock.below bd0).more bd0.size)).mono ?_); rintro e w1 ⟨v_t1, rfl, o_t1, s1⟩; have z1 := s1.size; have b1 : Below w.heap.size w w1 := bd0.trans (s1.mono bd0.size); have q1 : Below (w.heap.size + 1) w0 w1 ∧ w1.cell? ⟨w.heap.size, 0, none⟩ = some (.int .i64 y_m.a) ∧ w1.cell? ⟨w.heap.size, 1, none⟩ = some (.int .i64 y_m.b) ∧ w1.cell? ⟨w.heap.size, 2, none⟩ = some (.int .i64 y_m.c) := ⟨qd0.1.trans (s1.mono (by omega)), (s1.cell (by dsimp only; omega)).trans qd0.2.1, (s1.cell (by dsimp only; omega)).trans qd0.2.2.1, (s1.cell (by dsimp only; omega)).trans qd0.2.2.2⟩) | (go_at_call 44; (with_reducible refine (toMove_any y_m _).mono ?_); rintro e w2 ⟨rfl, s2⟩; have z2 := s2.size; have b2 : Below w.heap.size w w2 := b1.trans (s2.mono b1.size); have q2 : Below (w.heap.size + 1) w0 w2 ∧ w2.cell? ⟨w.heap.size, 0, none⟩ = some (.int .i64 y_m.a) ∧ w2.cell? ⟨w.heap.size, 1, none⟩ = some (.int .i64 y_m.b) ∧ w2.cell? ⟨w.heap.size, 2, none⟩ = some (.int .i64 y_m.c) := ⟨q1.1.trans (s2.mono (by omega)), (s2.cell (by dsimp only; omega)).trans q1.2.1, (s2.cell (by dsimp only; omega)).trans q1.2.2.1, (s2.cell (by dsimp only; omega)).trans q1.2.2.2⟩; replace o_t1 := o_t1.below s2 (by omega)) | (go_at_call 43; (with_reducible refine (S_SendCarriers x_stock v_t1 y_m _ (by omega) f_stock o_t1.r f_m).mono ?_); rintro e w3 ⟨v_w0, rfl, o_w0, s3⟩; have z3 := s3.size; have b3 : Below w.heap.size w w3 := b2.trans (s3.mono b2.size); have q3 : Below (w.heap.size + 1) w0 w3 ∧ w3.cell? ⟨w.heap.size, 0, none⟩ = some (.int .i64 y_m.a) ∧ w3.cell? ⟨w.heap.size, 1, none⟩ = some (.int .i64 y_m.b) ∧ w3.cell? ⟨w.heap.size, 2, none⟩ = some (.int .i64 y_m.c) := ⟨q2.1.trans (s3.mono (by omega)), (s3.cell (by dsimp only; omega)).trans q2.2.1, (s3.cell (by dsimp only; omega)).trans q2.2.2.1, (s3.cell (by dsimp only; omega)).trans q2.2.2.2⟩; clear o_t1))
  clear kc0 kc1 kc2
  go_wp2_with fail
  refine (L_to_Int64S x_stock (.slice A_stock x_stock.length c_stock) _ (by omega) ((r_stock.below b3).more b3.size)).mono ?_
  rintro e w4 ⟨v_x0, rfl, o_x0, s4⟩
  have z4 := s4.size
  have b4 : Below w.heap.size w w4 := b3.trans (s4.mono b3.size)
  have q4 : Below (w.heap.size + 1) w0 w4 ∧ w4.cell? ⟨w.heap.size, 0, none⟩ = some (.int .i64 y_m.a) ∧ w4.cell? ⟨w.heap.size, 1, none⟩ = some (.int .i64 y_m.b) ∧ w4.cell? ⟨w.heap.size, 2, none⟩ = some (.int .i64 y_m.c) := ⟨q3.1.trans (s4.mono (by omega)), (s4.cell (by dsimp only; omega)).trans q3.2.1, (s4.cell (by dsimp only; omega)).trans q3.2.2.1, (s4.cell (by dsimp only; omega)).trans q3.2.2.2⟩
  replace o_w0 := o_w0.below s4 (by omega)
  have kk := q4.2
  obtain ⟨kc0, kc1, kc2⟩ := kk
  go_wp2_with fail
  refine (toMove_any y_m _).mono ?_
  rintro e w5 ⟨rfl, s5⟩
  have z5 := s5.size
  have b5 : Below w.heap.size w w5 := b4.trans (s5.mono b4.size)
  have q5 : Below (w.heap.size + 1) w0 w5 ∧ w5.cell? ⟨w.heap.size, 0, none⟩ = some (.int .i64 y_m.a) ∧ w5.cell? ⟨w.heap.size, 1, none⟩ = some (.int .i64 y_m.b) ∧ w5.cell? ⟨w.heap.size, 2, none⟩ = some (.int .i64 y_m.c) := ⟨q4.1.trans (s5.mono (by omega)), (s5.cell (by dsimp only; omega)).trans q4.2.1, (s5.cell (by dsimp only; omega)).trans q4.2.2.1, (s5.cell (by dsimp only; omega)).trans q4.2.2.2⟩
  replace o_w0 := o_w0.below s5 (by omega)
  replace o_x0 := o_x0.below s5 (by omega)
  go_wp2_with fail
  refine (P_SendCarriers x_stock v_x0 y_m _ (by omega) f_stock o_x0.r f_m).mono ?_
  rintro e w6 ⟨v_g0, rfl, o_g0, s6⟩
  have z6 := s6.size
  have b6 : Below w.heap.size w w6 := b5.trans (s6.mono b5.size)
  have q6 : Below (w.heap.size + 1) w0 w6 ∧ w6.cell? ⟨w.heap.size, 0, none⟩ = some (.int .i64 y_m.a) ∧ w6.cell? ⟨w.heap.size, 1, none⟩ = some (.int .i64 y_m.b) ∧ w6.cell? ⟨w.heap.size, 2, none⟩ = some (.int .i64 y_m.c) := ⟨q5.1.trans (s6.mono (by omega)), (s6.cell (by dsimp only; omega)).trans q5.2.1, (s6.cell (by dsimp only; omega)).trans q5.2.2.1, (s6.cell (by dsimp only; omega)).trans q5.2.2.2⟩
  replace o_w0 := o_w0.below s6 (by omega)
  replace o_x0 := o_x0.below s6 (by omega)
  clear kc0 kc1 kc2
  go_wp2_with fail
  refine (L_eq_Int64S _ _ _ _ _ _ _ _ o_g0 o_w0).mono ?_
  rintro e w7 ⟨rfl, s7⟩
  have z7 := s7.size
  have b7 : Below w.heap.size w w7 := b6.trans (s7.mono b6.size)
  have q7 : Below (w.heap.size + 1) w0 w7 ∧ w7.cell? ⟨w.heap.size, 0, none⟩ = some (.int .i64 y_m.a) ∧ w7.cell? ⟨w.heap.size, 1, none⟩ = some (.int .i64 y_m.b) ∧ w7.cell? ⟨w.heap.size, 2, none⟩ = some (.int .i64 y_m.c) := ⟨q6.1.trans (s7.mono (by omega)), (s7.cell (by dsimp only; omega)).trans q6.2.1, (s7.cell (by dsimp only; omega)).trans q6.2.2.1, (s7.cell (by dsimp only; omega)).trans q6.2.2.2⟩
  replace o_w0 := o_w0.below s7 (by omega)
  replace o_x0 := o_x0.below s7 (by omega)
  replace o_g0 := o_g0.below s7 (by omega)
  go_wp2_with fail
  refine (L_to_Int64S x_stock (.slice A_stock x_stock.length c_stock) _ (by omega) ((r_stock.below b7).more b7.size)).mono ?_
  rintro e w8 ⟨v_t2, rfl, o_t2, s8⟩
  have z8 := s8.size
  have b8 : Below w.heap.size w w8 := b7.trans (s8.mono b7.size)
  have q8 : Below (w.heap.size + 1) w0 w8 ∧ w8.cell? ⟨w.heap.size, 0, none⟩ = some (.int .i64 y_m.a) ∧ w8.cell? ⟨w.heap.size, 1, none⟩ = some (.int .i64 y_m.b) ∧ w8.cell? ⟨w.heap.size, 2, none⟩ = some (.int .i64 y_m.c) := ⟨q7.1.trans (s8.mono (by omega)), (s8.cell (by dsimp only; omega)).trans q7.2.1, (s8.cell (by dsimp only; omega)).trans q7.2.2.1, (s8.cell (by dsimp only; omega)).trans q7.2.2.2⟩
  replace o_w0 := o_w0.below s8 (by omega)
  replace o_x0 := o_x0.below s8 (by omega)
  replace o_g0 := o_g0.below s8 (by omega)
  go_wp2_with fail
  refine (L_eq_Int64S _ _ _ _ _ _ _ _ o_x0 o_t2).mono ?_
  rintro e w9 ⟨rfl, s9⟩
  have z9 := s9.size
  have b9 : Below w.heap.size w w9 := b8.trans (s9.mono b8.size)
  have q9 : Below (w.heap.size + 1) w0 w9 ∧ w9.cell? ⟨w.heap.size, 0, none⟩ = some (.int .i64 y_m.a) ∧ w9.cell? ⟨w.heap.size, 1, none⟩ = some (.int .i64 y_m.b) ∧ w9.cell? ⟨w.heap.size, 2, none⟩ = some (.int .i64 y_m.c) := ⟨q8.1.trans (s9.mono (by omega)), (s9.cell (by dsimp only; omega)).trans q8.2.1, (s9.cell (by dsimp only; omega)).trans q8.2.2.1, (s9.cell (by dsimp only; omega)).trans q8.2.2.2⟩
  replace o_w0 := o_w0.below s9 (by omega)
  replace o_x0 := o_x0.below s9 (by omega)
  replace o_g0 := o_g0.below s9 (by omega)
  replace o_t2 := o_t2.below s9 (by omega)
  clear o_t2
  obtain ⟨c10a, c10b⟩ := o_x0.cnt
  go_wp2_with fail
  refine (L_mark_Int64S _ _ _ _ _ _ (by omega) (by omega) o_x0).mono ?_
  rintro e w10 ⟨rfl, o_x0', s10⟩
  clear o_x0; have o_x0 := o_x0'; clear o_x0'
  have z10 := s10.size
  have b10 : Below w.heap.size w w10 := b9.trans (s10.below (by omega) (by omega))
  have q10 : Below (w.heap.size + 1) w0 w10 ∧ w10.cell? ⟨w.heap.size, 0, none⟩ = some (.int .i64 y_m.a) ∧ w10.cell? ⟨w.heap.size, 1, none⟩ = some (.int .i64 y_m.b) ∧ w10.cell? ⟨w.heap.size, 2, none⟩ = some (.int .i64 y_m.c) := ⟨q9.1.trans (s10.below (B := w.heap.size + 1) (by omega) (by omega)), ((s10.below (B := w.heap.size + 1) (by omega) (by omega)).cell (by dsimp only; omega)).trans q9.2.1, ((s10.below (B := w.heap.size + 1) (by omega) (by omega)).cell (by dsimp only; omega)).trans q9.2.2.1, ((s10.below (B := w.heap.size + 1) (by omega) (by omega)).cell (by dsimp only; omega)).trans q9.2.2.2⟩
  replace o_w0 := o_w0.kept s10 (by omega)
  replace o_g0 := o_g0.kept s10 (by omega)
  clear o_x0
  go_wp2_with fail
  refine (L_eq_Int64S _ _ _ _ _ _ _ _ o_g0 o_w0).mono ?_
  rintro e w11 ⟨rfl, s11⟩
  have z11 := s11.size
  have b11 : Below w.heap.size w w11 := b10.trans (s11.mono b10.size)
  have q11 : Below (w.heap.size + 1) w0 w11 ∧ w11.cell? ⟨w.heap.size, 0, none⟩ = some (.int .i64 y_m.a) ∧ w11.cell? ⟨w.heap.size, 1, none⟩ = some (.int .i64 y_m.b) ∧ w11.cell? ⟨w.heap.size, 2, none⟩ = some (.int .i64 y_m.c) := ⟨q10.1.trans (s11.mono (by omega)), (s11.cell (by dsimp only; omega)).trans q10.2.1, (s11.cell (by dsimp only; omega)).trans q10.2.2.1, (s11.cell (by dsimp only; omega)).trans q10.2.2.2⟩
  replace o_w0 := o_w0.below s11 (by omega)
  replace o_g0 := o_g0.below s11 (by omega)
  obtain ⟨c12a, c12b⟩ := o_g0.cnt
  go_wp2_with fail
  refine (L_mark_Int64S _ _ _ _ _ _ (by omega) (by omega) o_g0).mono ?_
  rintro e w12 ⟨rfl, o_g0', s12⟩
  clear o_g0; have o_g0 := o_g0'; clear o_g0'
  have z12 := s12.size
  have b12 : Below w.heap.size w w12 := b11.trans (s12.below (by omega) (by omega))
  have q12 : Below (w.heap.size + 1) w0 w12 ∧ w12.cell? ⟨w.heap.size, 0, none⟩ = some (.int .i64 y_m.a) ∧ w12.cell? ⟨w.heap.size, 1, none⟩ = some (.int .i64 y_m.b) ∧ w12.cell? ⟨w.heap.size, 2, none⟩ = some (.int .i64 y_m.c) := ⟨q11.1.trans (s12.below (B := w.heap.size + 1) (by omega) (by omega)), ((s12.below (B := w.heap.size + 1) (by omega) (by omega)).cell (by dsimp only; omega)).trans q11.2.1, ((s12.below (B := w.heap.size + 1) (by omega) (by omega)).cell (by dsimp only; omega)).trans q11.2.2.1, ((s12.below (B := w.heap.size + 1) (by omega) (by omega)).cell (by dsimp only; omega)).trans q11.2.2.2⟩
  replace o_w0 := o_w0.kept s12 (by omega)
  go_wp2_with fail
  refine (L_held_Int64S _ _ _ _ _ _ (by omega) (by omega) o_g0).mono ?_
  rintro e w13 ⟨rfl, s13⟩
  have z13 := s13.size
  have b13 : Below w.heap.size w w13 := b12.trans (s13.mono b12.size)
  have q13 : Below (w.heap.size + 1) w0 w13 ∧ w13.cell? ⟨w.heap.size, 0, none⟩ = some (.int .i64 y_m.a) ∧ w13.cell? ⟨w.heap.size, 1, none⟩ = some (.int .i64 y_m.b) ∧ w13.cell? ⟨w.heap.size, 2, none⟩ = some (.int .i64 y_m.c) := ⟨q12.1.trans (s13.mono (by omega)), (s13.cell (by dsimp only; omega)).trans q12.2.1, (s13.cell (by dsimp only; omega)).trans q12.2.2.1, (s13.cell (by dsimp only; omega)).trans q12.2.2.2⟩
  replace o_w0 := o_w0.below s13 (by omega)
  replace o_g0 := o_g0.below s13 (by omega)
  have kk := q13.2
  obtain ⟨kc0, kc1, kc2⟩ := kk
  go_wp2_with fail
  have bd13 : Below w.heap.size w w13.drew := b13.drew
  have qd13 : Below (w.heap.size + 1) w0 w13.drew ∧ w13.drew.cell? ⟨w.heap.size, 0, none⟩ = some (.int .i64 y_m.a) ∧ w13.drew.cell? ⟨w.heap.size, 1, none⟩ = some (.int .i64 y_m.b) ∧ w13.drew.cell? ⟨w.heap.size, 2, none⟩ = some (.int .i64 y_m.c) := ⟨q13.1.drew, q13.2⟩
  replace o_w0 : O_Int64S w13.drew w2.heap.size w3.heap.size v_w0 ((sendCarriers x_stock y_m).1) := o_w0
  replace o_g0 : O_Int64S w13.drew w5.heap.size w6.heap.size v_g0 (mark_Int64S ((sendCarriers x_stock y_m).1) 1) := o_g0
  have zd13a : w13.heap.size ≤ w13.drew.heap.size := Nat.le_refl _
  have zd13b : w13.drew.heap.size ≤ w13.heap.size := Nat.le_refl _
  go_region_held3 (fun W => Below (w.heap.size + 1) w0 W ∧ W.cell? ⟨w.heap.size, 0, none⟩ = some (.int .i64 y_m.a) ∧ W.cell? ⟨w.heap.size, 1, none⟩ = some (.int .i64 y_m.b) ∧ W.cell? ⟨w.heap.size, 2, none⟩ = some (.int .i64 y_m.c))
    (first | exact qd13 | exact q14 | exact q15 | exact q16)
    (first | (go_at_call 16; (with_reducible refine (L_to_Int64S x_stock (.slice A_stock x_stock.length c_stock) _ (by omega) ((r_stock.below bd13).more bd13.size)).mono ?_); rintro e w14 ⟨v_t3, rfl, o_t3, s14⟩; have z14 := s14.size; have b14 : Below w.heap.size w w14 := bd13.trans (s14.mono bd13.size); have q14 : Below (w.heap.size + 1) w0 w14 ∧ w14.cell? ⟨w.heap.size, 0, none⟩ = some (.int .i64 y_m.a) ∧ w14.cell? ⟨w.heap.size, 1, none⟩ = some (.int .i64 y_m.b) ∧ w14.cell? ⟨w.heap.size, 2, none⟩ = some (.int .i64 y_m.c) := ⟨qd13.1.trans (s14.mono (by omega)), (s14.cell (by dsimp only; omega)).trans qd13.2.1, (s14.cell (by dsimp only; omega)).trans qd13.2.2.1, (s14.cell (by dsimp only; omega)).trans qd13.2.2.2⟩; replace o_w0 := o_w0.below s14 (by omega); replace o_g0 := o_g0.below s14 (by omega)) | (go_at_call 44; (with_reducible refine (toMove_any y_m _).mono ?_); rintro e w15 ⟨rfl, s15⟩; have z15 := s15.size; have b15 : Below w.heap.size w w15 := b14.trans (s15.mono b14.size); have q15 : Below (w.heap.size + 1) w0 w15 ∧ w15.cell? ⟨w.heap.size, 0, none⟩ = some (.int .i64 y_m.a) ∧ w15.cell? ⟨w.heap.size, 1, none⟩ = some (.int .i64 y_m.b) ∧ w15.cell? ⟨w.heap.size, 2, none⟩ = some (.int .i64 y_m.c) := ⟨q14.1.trans (s15.mono (by omega)), (s15.cell (by dsimp only; omega)).trans q14.2.1, (s15.cell (by dsimp only; omega)).trans q14.2.2.1, (s15.cell (by dsimp only; omega)).trans q14.2.2.2⟩; replace o_w0 := o_w0.below s15 (by omega); replace o_g0 := o_g0.below s15 (by omega); replace o_t3 := o_t3.below s15 (by omega)) | (go_at_call 45; (with_reducible refine (P_SendCarriers x_stock v_t3 y_m _ (by omega) f_stock o_t3.r f_m).mono ?_); rintro e w16 ⟨v_h0, rfl, o_h0, s16⟩; have z16 := s16.size; have b16 : Below w.heap.size w w16 := b15.trans (s16.mono b15.size); have q16 : Below (w.heap.size + 1) w0 w16 ∧ w16.cell? ⟨w.heap.size, 0, none⟩ = some (.int .i64 y_m.a) ∧ w16.cell? ⟨w.heap.size, 1, none⟩ = some (.int .i64 y_m.b) ∧ w16.cell? ⟨w.heap.size, 2, none⟩ = some (.int .i64 y_m.c) := ⟨q15.1.trans (s16.mono (by omega)), (s16.cell (by dsimp only; omega)).trans q15.2.1, (s16.cell (by dsimp only; omega)).trans q15.2.2.1, (s16.cell (by dsimp only; omega)).trans q15.2.2.2⟩; replace o_w0 := o_w0.below s16 (by omega); replace o_g0 := o_g0.below s16 (by omega); clear o_t3))
  clear kc0 kc1 kc2
  go_wp2_with fail
  refine (L_eq_Int64S _ _ _ _ _ _ _ _ o_h0 o_w0).mono ?_
  rintro e w17 ⟨rfl, s17⟩
  have z17 := s17.size
  have b17 : Below w.heap.size w w17 := b16.trans (s17.mono b16.size)
  have q17 : Below (w.heap.size + 1) w0 w17 ∧ w17.cell? ⟨w.heap.size, 0, none⟩ = some (.int .i64 y_m.a) ∧ w17.cell? ⟨w.heap.size, 1, none⟩ = some (.int .i64 y_m.b) ∧ w17.cell? ⟨w.heap.size, 2, none⟩ = some (.int .i64 y_m.c) := ⟨q16.1.trans (s17.mono (by omega)), (s17.cell (by dsimp only; omega)).trans q16.2.1, (s17.cell (by dsimp only; omega)).trans q16.2.2.1, (s17.cell (by dsimp only; omega)).trans q16.2.2.2⟩
  replace o_w0 := o_w0.below s17 (by omega)
  replace o_g0 := o_g0.below s17 (by omega)
  replace o_h0 := o_h0.below s17 (by omega)
  go_wp2_with fail
  refine (L_held_Int64S _ _ _ _ _ _ (by omega) (by omega) o_g0).mono ?_
  rintro e w18 ⟨rfl, s18⟩
  have z18 := s18.size
  have b18 : Below w.heap.size w w18 := b17.trans (s18.mono b17.size)
  have q18 : Below (w.heap.size + 1) w0 w18 ∧ w18.cell? ⟨w.heap.size, 0, none⟩ = some (.int .i64 y_m.a) ∧ w18.cell? ⟨w.heap.size, 1, none⟩ = some (.int .i64 y_m.b) ∧ w18.cell? ⟨w.heap.size, 2, none⟩ = some (.int .i64 y_m.c) := ⟨q17.1.trans (s18.mono (by omega)), (s18.cell (by dsimp only; omega)).trans q17.2.1, (s18.cell (by dsimp only; omega)).trans q17.2.2.1, (s18.cell (by dsimp only; omega)).trans q17.2.2.2⟩
  replace o_w0 := o_w0.below s18 (by omega)
  replace o_g0 := o_g0.below s18 (by omega)
  replace o_h0 := o_h0.below s18 (by omega)
  go_wp2_with fail
  go_ret
  exact ⟨rfl, b18⟩

theorem fnExactSendCarriers_own : ownKnob Try.prog.godebug = none := by kernel_rfl
theorem fnExactSendCarriers_laid : laidOutB Try.prog = true := by kernel_rfl
set_option maxRecDepth 100000 in
theorem fnExactSendCarriers_lifted (os : Os) (started : os.Started) (H : Type) (enc : TypeId × Value → H) :
    ReturnsInHanded {} Try.checked os 11 .any (Rows.fnExactSendCarriersSpec.pre6 enc Try.prog Try.f11 Rows.fnExactSendCarriersRow.domain false) (Rows.fnExactSendCarriersSpec.post enc Try.prog Try.f11 false true false false) := by
  refine returnsInHanded_of_change (C := Try.checked) fnExactSendCarriers_own started (by kernel_rfl) Try.func11
    (ChangeSpec.witness6 (enc := enc) (C := Try.checked) false ⟨#[], #[.slice none 0 0, .agg #[.int .i64 0, .int .i64 0, .int .i64 0]], []⟩ 8 (by kernel_rfl) (by kernel_rfl) (by kernel_rfl) (by kernel_rfl)) ?_
  intro W base args ds gs before hval0 hW hcnd _
  have hval : ∀ (j : Nat) t v, Try.f11.params[j]? = some t → args[j]? = some v → Value.okWide Try.prog W .any base t v := hval0
  have hW' := hW
  obtain ⟨p, q, hA0, hV, rfl, hfz, hnd⟩ := hW
  have hA : DataW.TrodAll enc Try.prog W 0 (fun _ => true) true Try.f11.params.toList args.toList ds p := hA0
  rw [Try.params11] at hA hval
  obtain ⟨v0, vs0, d0, ds0, p0, q0, hargs, rfl, rfl, h0, r0⟩ := trodAll_cons hA
  obtain ⟨v1, vs1, d1, ds1, p1, q1, rfl, rfl, rfl, h1, r1⟩ := trodAll_cons r0
  obtain ⟨rfl, rfl, rfl⟩ := trodAll_nil r1
  obtain rfl : args = #[v0, v1] := by cases args; simp_all
  obtain ⟨rfl, rfl⟩ := trodVars_none hV
  have k0 := h0
  have lt0 : ∀ x ∈ p0, x.block < W.heap.size := by obtain ⟨m, hm⟩ := k0; exact DataW.trod_lt m _ _ _ hm
  obtain ⟨A0, c0, zs0, rfl, rd0, len0, bd0⟩ := open_I Try.underlying22 Try.underlying2 (by kernel_rfl) (hval 0 22 v0 rfl rfl) h0
  have k1 := h1
  have lt1 : ∀ x ∈ p1, x.block < W.heap.size := by obtain ⟨m, hm⟩ := k1; exact DataW.trod_lt m _ _ _ hm
  obtain ⟨z1, rfl, bd1⟩ := open_V3 Try.underlying50 (by kernel_rfl) (by kernel_rfl) Try.underlying2 Try.underlying2 Try.underlying2 (hval 1 50 v1 rfl rfl) h1
  clear hA0 hval0
  refine (xSendCarriers_walk zs0 (.slice A0 zs0.length c0) z1 W ⟨A0, c0, rfl, rd0⟩ len0 bd0 bd1).mono fun e W' ⟨he, bel⟩ => ?_
  subst he
  exact ⟨_, rfl, _, _, _, [], _, [], hW', trodAll_mk1 (shut_bool Try.underlying4 _), (trodAll_cons_mk (Below.trod fnExactSendCarriers_laid (by kernel_rfl) (of_decide_eq_true (by kernel_rfl)) k0 bel lt0) (trodAll_cons_mk (Below.trod fnExactSendCarriers_laid (by kernel_rfl) (of_decide_eq_true (by kernel_rfl)) k1 bel lt1) trodAll_mk0)), rfl, bel.frame _, fun h => by cases h⟩
theorem fnExactSendCarriers_holds : Rows.FnExactSendCarriersSaid :=
  OpenClaim.holds_of_wide 11 Try.f11 rfl rfl rfl rfl rfl rfl rfl ⟨rfl, rfl, rfl, rfl, rfl⟩ rfl rfl rfl rfl rfl (by kernel_rfl) Try.func11 (by kernel_rfl)
    (of_decide_eq_true (by kernel_rfl)) (by unfold Func.isWrapper; first | (rw [if_pos (by decide +kernel)]; kernel_rfl) | (rw [if_neg (by decide +kernel)]; exact ⟨rfl, rfl⟩))
    (fun os started H enc _ => fnExactSendCarriers_lifted os started H enc)
#print axioms fnExactSendCarriers_holds
end Go.Proofs.Ytgkmgncenljdaaa
