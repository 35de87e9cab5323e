/-
  The law FnExactMovesBack returns true for every input. No condition. Printed by gen_exact.py.
-/
import Derived.Test.YthkohpidhkhkeaaCarB2
import Derived.Test.YthkohpidhkhkeaaLawH
import Derived.Test.YthkohpidhkhkeaaRows
import Derived.Test.YthkohpidhkhkeaaOpenW
import Derived.ProofKit
import Derived.OpenShut
namespace Go.Proofs.Ythkohpidhkhkeaa
open Go.ChangeShapes Go.WideShapes Go.ChangeAt Go.RowKit

set_option maxRecDepth 100000 in
set_option maxHeartbeats 4000000 in
theorem xMovesBack_walk (x_stock : List Int) (v_stock : Value) (x_wants : List Int) (v_wants : Value) (w : World) (r_stock : R_Int64S w w.heap.size v_stock x_stock) (n_stock : x_stock.length ≤ 9223372036854775807) (f_stock : ∀ z ∈ x_stock, -9223372036854775808 ≤ z ∧ z ≤ 9223372036854775807) (r_wants : R_Int64S w w.heap.size v_wants x_wants) (n_wants : x_wants.length ≤ 9223372036854775807) (f_wants : ∀ z ∈ x_wants, -9223372036854775808 ≤ z ∧ z ≤ 9223372036854775807) :
    Calls Try.prog 5 #[v_stock, v_wants] w fun e w' => e = .returned (.bool true) ∧ Below w.heap.size w w' := by
  by_cases g0 : (x_stock.length : Int) ≤ 1048576
  case neg =>
    have r0_stock := r_stock
    obtain ⟨A_stock, c_stock, rfl, _⟩ := r0_stock
    go_enter Try.func5, Try.ntmps5
    go_wp2_with fail
    go_ret
    exact ⟨rfl, (by repeat (first | exact Below.refl _ _ | assumption | (refine Below.alloc ?_ (by simp <;> omega) _) | refine Below.drew ?_ | refine bdn ?_ _))⟩
  by_cases g1 : (x_wants.length : Int) ≤ 1048576
  case neg =>
    have r0_stock := r_stock
    obtain ⟨A_stock, c_stock, rfl, _⟩ := r0_stock
    have r0_wants := r_wants
    obtain ⟨A_wants, c_wants, rfl, _⟩ := r0_wants
    go_enter Try.func5, Try.ntmps5
    go_wp2_with fail
    go_ret
    exact ⟨rfl, (by repeat (first | exact Below.refl _ _ | assumption | (refine Below.alloc ?_ (by simp <;> omega) _) | refine Below.drew ?_ | refine bdn ?_ _))⟩
  have r0_stock := r_stock
  obtain ⟨A_stock, c_stock, rfl, _⟩ := r0_stock
  have r0_wants := r_wants
  obtain ⟨A_wants, c_wants, rfl, _⟩ := r0_wants
  go_enter Try.func5, Try.ntmps5
  have b0 : Below w.heap.size w w := Below.refl _ _
  go_wp2_with fail
  refine (L_to_Int64S x_stock (.slice A_stock x_stock.length c_stock) _ (by omega) ((r_stock.below b0).more b0.size)).mono ?_
  rintro e w1 ⟨v_t1, rfl, o_t1, s1⟩
  have z1 := s1.size
  have b1 : Below w.heap.size w w1 := b0.trans (s1.mono b0.size)
  go_wp2_with fail
  refine (L_to_Int64S x_wants (.slice A_wants x_wants.length c_wants) _ (by omega) ((r_wants.below b1).more b1.size)).mono ?_
  rintro e w2 ⟨v_t2, rfl, o_t2, s2⟩
  have z2 := s2.size
  have b2 : Below w.heap.size w w2 := b1.trans (s2.mono b1.size)
  replace o_t1 := o_t1.below s2 (by omega)
  go_wp2_with fail
  refine (S_MovesBack x_stock v_t1 x_wants v_t2 _ (by omega) f_stock o_t1.r (by omega) f_wants o_t2.r).mono ?_
  rintro e w3 ⟨v_w0, rfl, o_w0, s3⟩
  have z3 := s3.size
  have b3 : Below w.heap.size w w3 := b2.trans (s3.mono b2.size)
  clear o_t1
  clear o_t2
  go_wp2_with fail
  refine (L_to_Int64S x_stock (.slice A_stock x_stock.length c_stock) _ (by omega) ((r_stock.below b3).more b3.size)).mono ?_
  rintro e w4 ⟨v_x0, rfl, o_x0, s4⟩
  have z4 := s4.size
  have b4 : Below w.heap.size w w4 := b3.trans (s4.mono b3.size)
  replace o_w0 := o_w0.below s4 (by omega)
  go_wp2_with fail
  refine (L_to_Int64S x_wants (.slice A_wants x_wants.length c_wants) _ (by omega) ((r_wants.below b4).more b4.size)).mono ?_
  rintro e w5 ⟨v_x1, rfl, o_x1, s5⟩
  have z5 := s5.size
  have b5 : Below w.heap.size w w5 := b4.trans (s5.mono b4.size)
  replace o_w0 := o_w0.below s5 (by omega)
  replace o_x0 := o_x0.below s5 (by omega)
  go_wp2_with fail
  refine (P_MovesBack x_stock v_x0 x_wants v_x1 _ (by omega) f_stock o_x0.r (by omega) f_wants o_x1.r).mono ?_
  rintro e w6 ⟨v_g0, rfl, o_g0, s6⟩
  have z6 := s6.size
  have b6 : Below w.heap.size w w6 := b5.trans (s6.mono b5.size)
  replace o_w0 := o_w0.below s6 (by omega)
  replace o_x0 := o_x0.below s6 (by omega)
  replace o_x1 := o_x1.below s6 (by omega)
  go_wp2_with fail
  refine (L_eq_MoveS _ _ _ _ _ _ _ _ o_g0 o_w0).mono ?_
  rintro e w7 ⟨rfl, s7⟩
  have z7 := s7.size
  have b7 : Below w.heap.size w w7 := b6.trans (s7.mono b6.size)
  replace o_w0 := o_w0.below s7 (by omega)
  replace o_x0 := o_x0.below s7 (by omega)
  replace o_x1 := o_x1.below s7 (by omega)
  replace o_g0 := o_g0.below s7 (by omega)
  go_wp2_with fail
  refine (L_to_Int64S x_stock (.slice A_stock x_stock.length c_stock) _ (by omega) ((r_stock.below b7).more b7.size)).mono ?_
  rintro e w8 ⟨v_t3, rfl, o_t3, s8⟩
  have z8 := s8.size
  have b8 : Below w.heap.size w w8 := b7.trans (s8.mono b7.size)
  replace o_w0 := o_w0.below s8 (by omega)
  replace o_x0 := o_x0.below s8 (by omega)
  replace o_x1 := o_x1.below s8 (by omega)
  replace o_g0 := o_g0.below s8 (by omega)
  go_wp2_with fail
  refine (L_eq_Int64S _ _ _ _ _ _ _ _ o_x0 o_t3).mono ?_
  rintro e w9 ⟨rfl, s9⟩
  have z9 := s9.size
  have b9 : Below w.heap.size w w9 := b8.trans (s9.mono b8.size)
  replace o_w0 := o_w0.below s9 (by omega)
  replace o_x0 := o_x0.below s9 (by omega)
  replace o_x1 := o_x1.below s9 (by omega)
  replace o_g0 := o_g0.below s9 (by omega)
  replace o_t3 := o_t3.below s9 (by omega)
  clear o_t3
  go_wp2_with fail
  refine (L_to_Int64S x_wants (.slice A_wants x_wants.length c_wants) _ (by omega) ((r_wants.below b9).more b9.size)).mono ?_
  rintro e w10 ⟨v_t4, rfl, o_t4, s10⟩
  have z10 := s10.size
  have b10 : Below w.heap.size w w10 := b9.trans (s10.mono b9.size)
  replace o_w0 := o_w0.below s10 (by omega)
  replace o_x0 := o_x0.below s10 (by omega)
  replace o_x1 := o_x1.below s10 (by omega)
  replace o_g0 := o_g0.below s10 (by omega)
  go_wp2_with fail
  refine (L_eq_Int64S _ _ _ _ _ _ _ _ o_x1 o_t4).mono ?_
  rintro e w11 ⟨rfl, s11⟩
  have z11 := s11.size
  have b11 : Below w.heap.size w w11 := b10.trans (s11.mono b10.size)
  replace o_w0 := o_w0.below s11 (by omega)
  replace o_x0 := o_x0.below s11 (by omega)
  replace o_x1 := o_x1.below s11 (by omega)
  replace o_g0 := o_g0.below s11 (by omega)
  replace o_t4 := o_t4.below s11 (by omega)
  clear o_t4
  obtain ⟨c12a, c12b⟩ := o_x0.cnt
  go_wp2_with fail
  refine (L_mark_Int64S _ _ _ _ _ _ (by omega) (by omega) o_x0).mono ?_
  rintro e w12 ⟨rfl, o_x0', s12⟩
  clear o_x0; have o_x0 := o_x0'; clear o_x0'
  have z12 := s12.size
  have b12 : Below w.heap.size w w12 := b11.trans (s12.below (by omega) (by omega))
  replace o_w0 := o_w0.kept s12 (by omega)
  replace o_x1 := o_x1.kept s12 (by omega)
  replace o_g0 := o_g0.kept s12 (by omega)
  clear o_x0
  obtain ⟨c13a, c13b⟩ := o_x1.cnt
  go_wp2_with fail
  refine (L_mark_Int64S _ _ _ _ _ _ (by omega) (by omega) o_x1).mono ?_
  rintro e w13 ⟨rfl, o_x1', s13⟩
  clear o_x1; have o_x1 := o_x1'; clear o_x1'
  have z13 := s13.size
  have b13 : Below w.heap.size w w13 := b12.trans (s13.below (by omega) (by omega))
  replace o_w0 := o_w0.kept s13 (by omega)
  replace o_g0 := o_g0.kept s13 (by omega)
  clear o_x1
  go_wp2_with fail
  refine (L_eq_MoveS _ _ _ _ _ _ _ _ o_g0 o_w0).mono ?_
  rintro e w14 ⟨rfl, s14⟩
  have z14 := s14.size
  have b14 : Below w.heap.size w w14 := b13.trans (s14.mono b13.size)
  replace o_w0 := o_w0.below s14 (by omega)
  replace o_g0 := o_g0.below s14 (by omega)
  obtain ⟨c15a, c15b⟩ := o_g0.cnt
  go_wp2_with fail
  refine (L_mark_MoveS _ _ _ _ _ _ (by omega) (by omega) o_g0).mono ?_
  rintro e w15 ⟨rfl, o_g0', s15⟩
  clear o_g0; have o_g0 := o_g0'; clear o_g0'
  have z15 := s15.size
  have b15 : Below w.heap.size w w15 := b14.trans (s15.below (by omega) (by omega))
  replace o_w0 := o_w0.kept s15 (by omega)
  go_wp2_with fail
  refine (L_held_MoveS _ _ _ _ _ _ (by omega) (by omega) o_g0).mono ?_
  rintro e w16 ⟨rfl, s16⟩
  have z16 := s16.size
  have b16 : Below w.heap.size w w16 := b15.trans (s16.mono b15.size)
  replace o_w0 := o_w0.below s16 (by omega)
  replace o_g0 := o_g0.below s16 (by omega)
  go_wp2_with fail
  refine (L_to_Int64S x_stock (.slice A_stock x_stock.length c_stock) _ (by omega) ((r_stock.below b16).more b16.size)).mono ?_
  rintro e w17 ⟨v_t5, rfl, o_t5, s17⟩
  have z17 := s17.size
  have b17 : Below w.heap.size w w17 := b16.trans (s17.mono b16.size)
  replace o_w0 := o_w0.below s17 (by omega)
  replace o_g0 := o_g0.below s17 (by omega)
  go_wp2_with fail
  refine (L_to_Int64S x_wants (.slice A_wants x_wants.length c_wants) _ (by omega) ((r_wants.below b17).more b17.size)).mono ?_
  rintro e w18 ⟨v_t6, rfl, o_t6, s18⟩
  have z18 := s18.size
  have b18 : Below w.heap.size w w18 := b17.trans (s18.mono b17.size)
  replace o_w0 := o_w0.below s18 (by omega)
  replace o_g0 := o_g0.below s18 (by omega)
  replace o_t5 := o_t5.below s18 (by omega)
  go_wp2_with fail
  refine (P_MovesBack x_stock v_t5 x_wants v_t6 _ (by omega) f_stock o_t5.r (by omega) f_wants o_t6.r).mono ?_
  rintro e w19 ⟨v_h0, rfl, o_h0, s19⟩
  have z19 := s19.size
  have b19 : Below w.heap.size w w19 := b18.trans (s19.mono b18.size)
  replace o_w0 := o_w0.below s19 (by omega)
  replace o_g0 := o_g0.below s19 (by omega)
  clear o_t5
  clear o_t6
  go_wp2_with fail
  refine (L_eq_MoveS _ _ _ _ _ _ _ _ o_h0 o_w0).mono ?_
  rintro e w20 ⟨rfl, s20⟩
  have z20 := s20.size
  have b20 : Below w.heap.size w w20 := b19.trans (s20.mono b19.size)
  replace o_w0 := o_w0.below s20 (by omega)
  replace o_g0 := o_g0.below s20 (by omega)
  replace o_h0 := o_h0.below s20 (by omega)
  go_wp2_with fail
  refine (L_held_MoveS _ _ _ _ _ _ (by omega) (by omega) o_g0).mono ?_
  rintro e w21 ⟨rfl, s21⟩
  have z21 := s21.size
  have b21 : Below w.heap.size w w21 := b20.trans (s21.mono b20.size)
  replace o_w0 := o_w0.below s21 (by omega)
  replace o_g0 := o_g0.below s21 (by omega)
  replace o_h0 := o_h0.below s21 (by omega)
  go_wp2_with fail
  go_ret
  exact ⟨rfl, b21⟩

theorem fnExactMovesBack_own : ownKnob Try.prog.godebug = none := by kernel_rfl
theorem fnExactMovesBack_laid : laidOutB Try.prog = true := by kernel_rfl
set_option maxRecDepth 100000 in
theorem fnExactMovesBack_lifted (os : Os) (started : os.Started) (H : Type) (enc : TypeId × Value → H) :
    ReturnsInHanded {} Try.checked os 5 .any (Rows.fnExactMovesBackSpec.pre6 enc Try.prog Try.f5 Rows.fnExactMovesBackRow.domain false) (Rows.fnExactMovesBackSpec.post enc Try.prog Try.f5 false true false false) := by
  refine returnsInHanded_of_change (C := Try.checked) fnExactMovesBack_own started (by kernel_rfl) Try.func5
    (ChangeSpec.witness6 (enc := enc) (C := Try.checked) false ⟨#[], #[.slice none 0 0, .slice none 0 0], []⟩ 8 (by kernel_rfl) (by kernel_rfl) (by kernel_rfl) (by kernel_rfl)) ?_
  intro W base args ds gs before hval0 hW hcnd _
  have hval : ∀ (j : Nat) t v, Try.f5.params[j]? = some t → args[j]? = some v → Value.okWide Try.prog W .any base t v := hval0
  have hW' := hW
  obtain ⟨p, q, hA0, hV, rfl, hfz, hnd⟩ := hW
  have hA : DataW.TrodAll enc Try.prog W 0 (fun _ => true) true Try.f5.params.toList args.toList ds p := hA0
  rw [Try.params5] at hA hval
  obtain ⟨v0, vs0, d0, ds0, p0, q0, hargs, rfl, rfl, h0, r0⟩ := trodAll_cons hA
  obtain ⟨v1, vs1, d1, ds1, p1, q1, rfl, rfl, rfl, h1, r1⟩ := trodAll_cons r0
  obtain ⟨rfl, rfl, rfl⟩ := trodAll_nil r1
  obtain rfl : args = #[v0, v1] := by cases args; simp_all
  obtain ⟨rfl, rfl⟩ := trodVars_none hV
  have k0 := h0
  have lt0 : ∀ x ∈ p0, x.block < W.heap.size := by obtain ⟨m, hm⟩ := k0; exact DataW.trod_lt m _ _ _ hm
  obtain ⟨A0, c0, zs0, rfl, rd0, len0, bd0⟩ := open_I Try.underlying22 Try.underlying2 (by kernel_rfl) (hval 0 22 v0 rfl rfl) h0
  have k1 := h1
  have lt1 : ∀ x ∈ p1, x.block < W.heap.size := by obtain ⟨m, hm⟩ := k1; exact DataW.trod_lt m _ _ _ hm
  obtain ⟨A1, c1, zs1, rfl, rd1, len1, bd1⟩ := open_I Try.underlying22 Try.underlying2 (by kernel_rfl) (hval 1 22 v1 rfl rfl) h1
  clear hA0 hval0
  refine (xMovesBack_walk zs0 (.slice A0 zs0.length c0) zs1 (.slice A1 zs1.length c1) W ⟨A0, c0, rfl, rd0⟩ len0 bd0 ⟨A1, c1, rfl, rd1⟩ len1 bd1).mono fun e W' ⟨he, bel⟩ => ?_
  subst he
  exact ⟨_, rfl, _, _, _, [], _, [], hW', trodAll_mk1 (shut_bool Try.underlying4 _), (trodAll_cons_mk (Below.trod fnExactMovesBack_laid (by kernel_rfl) (of_decide_eq_true (by kernel_rfl)) k0 bel lt0) (trodAll_cons_mk (Below.trod fnExactMovesBack_laid (by kernel_rfl) (of_decide_eq_true (by kernel_rfl)) k1 bel lt1) trodAll_mk0)), rfl, bel.frame _, fun h => by cases h⟩
theorem fnExactMovesBack_holds : Rows.FnExactMovesBackSaid :=
  OpenClaim.holds_of_wide 5 Try.f5 rfl rfl rfl rfl rfl rfl rfl ⟨rfl, rfl, rfl, rfl, rfl⟩ rfl rfl rfl rfl rfl (by kernel_rfl) Try.func5 (by kernel_rfl)
    (of_decide_eq_true (by kernel_rfl)) (by unfold Func.isWrapper; first | (rw [if_pos (by decide +kernel)]; kernel_rfl) | (rw [if_neg (by decide +kernel)]; exact ⟨rfl, rfl⟩))
    (fun os started H enc _ => fnExactMovesBack_lifted os started H enc)
#print axioms fnExactMovesBack_holds
end Go.Proofs.Ythkohpidhkhkeaa
