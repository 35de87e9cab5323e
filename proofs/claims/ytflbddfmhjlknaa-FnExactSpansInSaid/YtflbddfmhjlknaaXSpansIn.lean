/-
  The law FnExactSpansIn returns true for every input. No condition. Printed by gen_exact.py.
-/
import Derived.Test.YtflbddfmhjlknaaSpn5
import Derived.Test.YtflbddfmhjlknaaLawH
import Derived.Test.YtflbddfmhjlknaaRows
import Derived.Test.YtflbddfmhjlknaaOpenW
import Derived.Test.YtflbddfmhjlknaaOpenN
import Derived.Test.YtflbddfmhjlknaaNestM
import Derived.ProofKit
import Derived.OpenShut
namespace Go.Proofs.Ytflbddfmhjlknaa
open Go.ChangeShapes Go.WideShapes Go.ChangeAt Go.RowKit

set_option maxRecDepth 100000 in
set_option maxHeartbeats 4000000 in
theorem xSpansIn_walk (x_times : List Int) (v_times : Value) (x_runs : List TN) (v_runs : Value) (z_tube : Int) (w : World) (r_times : R_Int64S w w.heap.size v_times x_times) (n_times : x_times.length ≤ 9223372036854775807) (f_times : ∀ z ∈ x_times, -9223372036854775808 ≤ z ∧ z ≤ 9223372036854775807) (r_runs : R_RunS w w.heap.size v_runs x_runs) (n_runs : LenN x_runs) (f_runs : ∀ e ∈ x_runs, e.Fits) (lo_tube : -9223372036854775808 ≤ z_tube) (hi_tube : z_tube ≤ 9223372036854775807) :
    Calls Try.prog 5 #[v_times, v_runs, (.int .i64 z_tube)] w fun e w' => e = .returned (.bool true) ∧ Below w.heap.size w w' := by
  by_cases g0 : (x_times.length : Int) ≤ 1048576
  case neg =>
    have r0_times := r_times
    obtain ⟨A_times, c_times, rfl, _⟩ := r0_times
    go_enter Try.func5, Try.ntmps5
    go_wp2_with fail
    go_ret
    exact ⟨rfl, (by repeat (first | exact Below.refl _ _ | assumption | (refine Below.alloc ?_ (by simp <;> omega) _) | refine Below.drew ?_ | refine bdn ?_ _))⟩
  by_cases g1 : ((sizeN x_runs) : Int) ≤ (1048576 : Int)
  case neg =>
    have r0_times := r_times
    obtain ⟨A_times, c_times, rfl, _⟩ := r0_times
    go_enter Try.func5, Try.ntmps5
    have b0 : Below w.heap.size w w := Below.refl _ _
    have hsz1 := hide (szF_no (n := (sizeN x_runs)) (left := (1048576 : Int)) (by omega))
    go_wp2_with fail
    refine (L_sz_RunS x_runs v_runs _ w.heap.size _ n_runs (by omega) (by omega) b0.size (r_runs.below b0)).mono ?_
    rintro e w1 ⟨rfl, s1⟩
    rw [hsz1.out]
    have z1 := s1.size
    have b1 : Below w.heap.size w w1 := b0.trans (s1.mono b0.size)
    go_wp2_with fail
    go_ret
    exact ⟨rfl, b1⟩
  have m_runs : SmallN x_runs := smallN (by omega)
  have r0_times := r_times
  obtain ⟨A_times, c_times, rfl, _⟩ := r0_times
  go_enter Try.func5, Try.ntmps5
  have b0 : Below w.heap.size w w := Below.refl _ _
  have hsz1 := hide (szF_yes (n := (sizeN x_runs)) (left := (1048576 : Int)) (by omega))
  go_wp2_with fail
  refine (L_sz_RunS x_runs v_runs _ w.heap.size _ n_runs (by omega) (by omega) b0.size (r_runs.below b0)).mono ?_
  rintro e w1 ⟨rfl, s1⟩
  rw [hsz1.out]
  have z1 := s1.size
  have b1 : Below w.heap.size w w1 := b0.trans (s1.mono b0.size)
  go_wp2_with fail
  refine (L_to_Int64S x_times (.slice A_times x_times.length c_times) _ (by omega) ((r_times.below b1).more b1.size)).mono ?_
  rintro e w2 ⟨v_t1, rfl, o_t1, s2⟩
  have z2 := s2.size
  have b2 : Below w.heap.size w w2 := b1.trans (s2.mono b1.size)
  go_wp2_with fail
  refine (L_to_RunS x_runs v_runs _ m_runs ((r_runs.below b2).more b2.size)).mono ?_
  rintro e w3 ⟨v_t2, rfl, o_t2, s3⟩
  have z3 := s3.size
  have b3 : Below w.heap.size w w3 := b2.trans (s3.mono b2.size)
  replace o_t1 := o_t1.below s3 (by omega)
  go_wp2_with fail
  refine (S_SpansIn x_times v_t1 x_runs v_t2 z_tube _ (by omega) f_times o_t1.r m_runs f_runs o_t2.r lo_tube hi_tube).mono ?_
  rintro e w4 ⟨v_w0, rfl, o_w0, s4⟩
  have z4 := s4.size
  have b4 : Below w.heap.size w w4 := b3.trans (s4.mono b3.size)
  clear o_t1
  clear o_t2
  go_wp2_with fail
  refine (L_to_Int64S x_times (.slice A_times x_times.length c_times) _ (by omega) ((r_times.below b4).more b4.size)).mono ?_
  rintro e w5 ⟨v_x0, rfl, o_x0, s5⟩
  have z5 := s5.size
  have b5 : Below w.heap.size w w5 := b4.trans (s5.mono b4.size)
  replace o_w0 := o_w0.below s5 (by omega)
  go_wp2_with fail
  refine (L_to_RunS x_runs v_runs _ m_runs ((r_runs.below b5).more b5.size)).mono ?_
  rintro e w6 ⟨v_x1, rfl, o_x1, s6⟩
  have z6 := s6.size
  have b6 : Below w.heap.size w w6 := b5.trans (s6.mono b5.size)
  replace o_w0 := o_w0.below s6 (by omega)
  replace o_x0 := o_x0.below s6 (by omega)
  go_wp2_with fail
  refine (P_SpansIn x_times v_x0 x_runs v_x1 z_tube _ (by omega) f_times o_x0.r m_runs f_runs o_x1.r lo_tube hi_tube).mono ?_
  rintro e w7 ⟨v_g0, rfl, o_g0, s7⟩
  have z7 := s7.size
  have b7 : Below w.heap.size w w7 := b6.trans (s7.mono b6.size)
  replace o_w0 := o_w0.below s7 (by omega)
  replace o_x0 := o_x0.below s7 (by omega)
  replace o_x1 := o_x1.below s7 (by omega)
  go_wp2_with fail
  refine (L_eqQ_Int64SS _ _ _ _ _ _ _ _ o_g0 o_w0).mono ?_
  rintro e w8 ⟨rfl, s8⟩
  have z8 := s8.size
  have b8 : Below w.heap.size w w8 := b7.trans (s8.mono b7.size)
  replace o_w0 := o_w0.below s8 (by omega)
  replace o_x0 := o_x0.below s8 (by omega)
  replace o_x1 := o_x1.below s8 (by omega)
  replace o_g0 := o_g0.below s8 (by omega)
  go_wp2_with fail
  refine (L_to_Int64S x_times (.slice A_times x_times.length c_times) _ (by omega) ((r_times.below b8).more b8.size)).mono ?_
  rintro e w9 ⟨v_t3, rfl, o_t3, s9⟩
  have z9 := s9.size
  have b9 : Below w.heap.size w w9 := b8.trans (s9.mono b8.size)
  replace o_w0 := o_w0.below s9 (by omega)
  replace o_x0 := o_x0.below s9 (by omega)
  replace o_x1 := o_x1.below s9 (by omega)
  replace o_g0 := o_g0.below s9 (by omega)
  go_wp2_with fail
  refine (L_eq_Int64S _ _ _ _ _ _ _ _ o_x0 o_t3).mono ?_
  rintro e w10 ⟨rfl, s10⟩
  have z10 := s10.size
  have b10 : Below w.heap.size w w10 := b9.trans (s10.mono b9.size)
  replace o_w0 := o_w0.below s10 (by omega)
  replace o_x0 := o_x0.below s10 (by omega)
  replace o_x1 := o_x1.below s10 (by omega)
  replace o_g0 := o_g0.below s10 (by omega)
  replace o_t3 := o_t3.below s10 (by omega)
  clear o_t3
  go_wp2_with fail
  refine (L_to_RunS x_runs v_runs _ m_runs ((r_runs.below b10).more b10.size)).mono ?_
  rintro e w11 ⟨v_t4, rfl, o_t4, s11⟩
  have z11 := s11.size
  have b11 : Below w.heap.size w w11 := b10.trans (s11.mono b10.size)
  replace o_w0 := o_w0.below s11 (by omega)
  replace o_x0 := o_x0.below s11 (by omega)
  replace o_x1 := o_x1.below s11 (by omega)
  replace o_g0 := o_g0.below s11 (by omega)
  go_wp2_with fail
  refine (L_eq_RunS _ _ _ _ _ _ _ _ o_x1 o_t4).mono ?_
  rintro e w12 ⟨rfl, s12⟩
  have z12 := s12.size
  have b12 : Below w.heap.size w w12 := b11.trans (s12.mono b11.size)
  replace o_w0 := o_w0.below s12 (by omega)
  replace o_x0 := o_x0.below s12 (by omega)
  replace o_x1 := o_x1.below s12 (by omega)
  replace o_g0 := o_g0.below s12 (by omega)
  replace o_t4 := o_t4.below s12 (by omega)
  clear o_t4
  obtain ⟨c13a, c13b⟩ := o_x0.cnt
  go_wp2_with fail
  refine (L_mark_Int64S _ _ _ _ _ _ (by omega) (by omega) o_x0).mono ?_
  rintro e w13 ⟨rfl, o_x0', s13⟩
  clear o_x0; have o_x0 := o_x0'; clear o_x0'
  have z13 := s13.size
  have b13 : Below w.heap.size w w13 := b12.trans (s13.below (by omega) (by omega))
  replace o_w0 := o_w0.kept s13 (by omega)
  replace o_x1 := o_x1.kept s13 (by omega)
  replace o_g0 := o_g0.kept s13 (by omega)
  clear o_x0
  obtain ⟨c14a, c14b⟩ := o_x1.cnt
  go_wp2_with fail
  refine (L_mark_RunS _ _ _ _ _ _ (by omega) (by omega) (by omega) o_x1).mono ?_
  rintro e w14 ⟨rfl, o_x1', s14⟩
  clear o_x1; have o_x1 := o_x1'; clear o_x1'
  have z14 := s14.size
  have b14 : Below w.heap.size w w14 := b13.trans (s14.below (by omega) (by omega))
  replace o_w0 := o_w0.kept s14 (by omega)
  replace o_g0 := o_g0.kept s14 (by omega)
  clear o_x1
  go_wp2_with fail
  refine (L_eqQ_Int64SS _ _ _ _ _ _ _ _ o_g0 o_w0).mono ?_
  rintro e w15 ⟨rfl, s15⟩
  have z15 := s15.size
  have b15 : Below w.heap.size w w15 := b14.trans (s15.mono b14.size)
  replace o_w0 := o_w0.below s15 (by omega)
  replace o_g0 := o_g0.below s15 (by omega)
  obtain ⟨c16a, c16b⟩ := o_g0.cnt
  go_wp2_with fail
  refine (L_mark_Int64SS _ _ _ _ _ _ (by omega) (by omega) (by omega) o_g0).mono ?_
  rintro e w16 ⟨rfl, o_g0', s16⟩
  clear o_g0; have o_g0 := o_g0'; clear o_g0'
  have z16 := s16.size
  have b16 : Below w.heap.size w w16 := b15.trans (s16.below (by omega) (by omega))
  replace o_w0 := o_w0.kept s16 (by omega)
  go_wp2_with fail
  refine (L_held_Int64SS _ _ _ _ _ _ (by omega) (by omega) (by omega) o_g0).mono ?_
  rintro e w17 ⟨rfl, s17⟩
  have z17 := s17.size
  have b17 : Below w.heap.size w w17 := b16.trans (s17.mono b16.size)
  replace o_w0 := o_w0.below s17 (by omega)
  replace o_g0 := o_g0.below s17 (by omega)
  go_wp2_with fail
  refine (L_to_Int64S x_times (.slice A_times x_times.length c_times) _ (by omega) ((r_times.below b17).more b17.size)).mono ?_
  rintro e w18 ⟨v_t5, rfl, o_t5, s18⟩
  have z18 := s18.size
  have b18 : Below w.heap.size w w18 := b17.trans (s18.mono b17.size)
  replace o_w0 := o_w0.below s18 (by omega)
  replace o_g0 := o_g0.below s18 (by omega)
  go_wp2_with fail
  refine (L_to_RunS x_runs v_runs _ m_runs ((r_runs.below b18).more b18.size)).mono ?_
  rintro e w19 ⟨v_t6, rfl, o_t6, s19⟩
  have z19 := s19.size
  have b19 : Below w.heap.size w w19 := b18.trans (s19.mono b18.size)
  replace o_w0 := o_w0.below s19 (by omega)
  replace o_g0 := o_g0.below s19 (by omega)
  replace o_t5 := o_t5.below s19 (by omega)
  go_wp2_with fail
  refine (P_SpansIn x_times v_t5 x_runs v_t6 z_tube _ (by omega) f_times o_t5.r m_runs f_runs o_t6.r lo_tube hi_tube).mono ?_
  rintro e w20 ⟨v_h0, rfl, o_h0, s20⟩
  have z20 := s20.size
  have b20 : Below w.heap.size w w20 := b19.trans (s20.mono b19.size)
  replace o_w0 := o_w0.below s20 (by omega)
  replace o_g0 := o_g0.below s20 (by omega)
  clear o_t5
  clear o_t6
  go_wp2_with fail
  refine (L_eqQ_Int64SS _ _ _ _ _ _ _ _ o_h0 o_w0).mono ?_
  rintro e w21 ⟨rfl, s21⟩
  have z21 := s21.size
  have b21 : Below w.heap.size w w21 := b20.trans (s21.mono b20.size)
  replace o_w0 := o_w0.below s21 (by omega)
  replace o_g0 := o_g0.below s21 (by omega)
  replace o_h0 := o_h0.below s21 (by omega)
  go_wp2_with fail
  refine (L_held_Int64SS _ _ _ _ _ _ (by omega) (by omega) (by omega) o_g0).mono ?_
  rintro e w22 ⟨rfl, s22⟩
  have z22 := s22.size
  have b22 : Below w.heap.size w w22 := b21.trans (s22.mono b21.size)
  replace o_w0 := o_w0.below s22 (by omega)
  replace o_g0 := o_g0.below s22 (by omega)
  replace o_h0 := o_h0.below s22 (by omega)
  go_wp2_with fail
  go_ret
  exact ⟨rfl, b22⟩

theorem fnExactSpansIn_own : ownKnob Try.prog.godebug = none := by kernel_rfl
theorem fnExactSpansIn_laid : laidOutB Try.prog = true := by kernel_rfl
set_option maxRecDepth 100000 in
theorem fnExactSpansIn_lifted (os : Os) (started : os.Started) (H : Type) (enc : TypeId × Value → H) :
    ReturnsInHanded {} Try.checked os 5 .any (Rows.fnExactSpansInSpec.pre6 enc Try.prog Try.f5 Rows.fnExactSpansInRow.domain false) (Rows.fnExactSpansInSpec.post enc Try.prog Try.f5 false true false false) := by
  refine returnsInHanded_of_change (C := Try.checked) fnExactSpansIn_own started (by kernel_rfl) Try.func5
    (ChangeSpec.witness6 (enc := enc) (C := Try.checked) false ⟨#[], #[.slice none 0 0, .slice none 0 0, .int .i64 0], []⟩ 8 (by kernel_rfl) (by kernel_rfl) (by kernel_rfl) (by kernel_rfl)) ?_
  intro W base args ds gs before hval0 hW hcnd _
  have hval : ∀ (j : Nat) t v, Try.f5.params[j]? = some t → args[j]? = some v → Value.okWide Try.prog W .any base t v := hval0
  have hW' := hW
  obtain ⟨p, q, hA0, hV, rfl, hfz, hnd⟩ := hW
  have hA : DataW.TrodAll enc Try.prog W 0 (fun _ => true) true Try.f5.params.toList args.toList ds p := hA0
  rw [Try.params5] at hA hval
  obtain ⟨v0, vs0, d0, ds0, p0, q0, hargs, rfl, rfl, h0, r0⟩ := trodAll_cons hA
  obtain ⟨v1, vs1, d1, ds1, p1, q1, rfl, rfl, rfl, h1, r1⟩ := trodAll_cons r0
  obtain ⟨v2, vs2, d2, ds2, p2, q2, rfl, rfl, rfl, h2, r2⟩ := trodAll_cons r1
  obtain ⟨rfl, rfl, rfl⟩ := trodAll_nil r2
  obtain rfl : args = #[v0, v1, v2] := by cases args; simp_all
  obtain ⟨rfl, rfl⟩ := trodVars_none hV
  have k0 := h0
  have lt0 : ∀ x ∈ p0, x.block < W.heap.size := by obtain ⟨m, hm⟩ := k0; exact DataW.trod_lt m _ _ _ hm
  obtain ⟨A0, c0, zs0, rfl, rd0, len0, bd0⟩ := open_I Try.underlying30 Try.underlying2 (by kernel_rfl) (hval 0 30 v0 rfl rfl) h0
  have k1 := h1
  have lt1 : ∀ x ∈ p1, x.block < W.heap.size := by obtain ⟨m, hm⟩ := k1; exact DataW.trod_lt m _ _ _ hm
  obtain ⟨A1, c1, zs1, rfl, rd1, len1, bd1⟩ := open_N1 Try.underlying65 Try.underlying133 (by kernel_rfl) (by kernel_rfl) Try.underlying30 Try.underlying2 (by kernel_rfl) Try.underlying2 (hval 1 65 v1 rfl rfl) h1
  have k2 := h2
  have lt2 : ∀ x ∈ p2, x.block < W.heap.size := by obtain ⟨m, hm⟩ := k2; exact DataW.trod_lt m _ _ _ hm
  obtain ⟨z2, rfl, bd2a, bd2b⟩ := open_Z Try.underlying2 (hval 2 2 v2 rfl rfl) h2
  clear hA0 hval0
  refine (xSpansIn_walk zs0 (.slice A0 zs0.length c0) zs1 (.slice A1 zs1.length c1) z2 W ⟨A0, c0, rfl, rd0⟩ len0 bd0 ⟨A1, c1, rfl, rd1⟩ len1 bd1 bd2a bd2b).mono fun e W' ⟨he, bel⟩ => ?_
  subst he
  exact ⟨_, rfl, _, _, _, [], _, [], hW', trodAll_mk1 (shut_bool Try.underlying4 _), (trodAll_cons_mk (Below.trod fnExactSpansIn_laid (by kernel_rfl) (of_decide_eq_true (by kernel_rfl)) k0 bel lt0) (trodAll_cons_mk (Below.trod fnExactSpansIn_laid (by kernel_rfl) (of_decide_eq_true (by kernel_rfl)) k1 bel lt1) (trodAll_cons_mk (Below.trod fnExactSpansIn_laid (by kernel_rfl) (of_decide_eq_true (by kernel_rfl)) k2 bel lt2) trodAll_mk0))), rfl, bel.frame _, fun h => by cases h⟩
theorem fnExactSpansIn_holds : Rows.FnExactSpansInSaid :=
  OpenClaim.holds_of_wide 5 Try.f5 rfl rfl rfl rfl rfl rfl rfl ⟨rfl, rfl, rfl, rfl, rfl⟩ rfl rfl rfl rfl rfl (by kernel_rfl) Try.func5 (by kernel_rfl)
    (of_decide_eq_true (by kernel_rfl)) (by unfold Func.isWrapper; first | (rw [if_pos (by decide +kernel)]; kernel_rfl) | (rw [if_neg (by decide +kernel)]; exact ⟨rfl, rfl⟩))
    (fun os started H enc _ => fnExactSpansIn_lifted os started H enc)
#print axioms fnExactSpansIn_holds
end Go.Proofs.Ytflbddfmhjlknaa
