/-
  The law FnExactFreeAt returns true for every input. No condition. Printed by gen_exact.py.
-/
import Derived.Test.YtflbddfmhjlknaaSpn5
import Derived.Test.YtflbddfmhjlknaaLawH
import Derived.Test.YtflbddfmhjlknaaRows
import Derived.Test.YtflbddfmhjlknaaOpenW
import Derived.Test.YtflbddfmhjlknaaOpenN
import Derived.Test.YtflbddfmhjlknaaNestM
import Derived.ProofKit
import Derived.OpenShut
namespace Go.Proofs.Ytflbddfmhjlknaa
open Go.ChangeShapes Go.WideShapes Go.ChangeAt Go.RowKit

set_option maxRecDepth 100000 in
set_option maxHeartbeats 4000000 in
theorem xFreeAt_walk (x_times : List Int) (v_times : Value) (x_runs : List TN) (v_runs : Value) (z_tube : Int) (z_from : Int) (z_to : Int) (w : World) (r_times : R_Int64S w w.heap.size v_times x_times) (n_times : x_times.length ≤ 9223372036854775807) (f_times : ∀ z ∈ x_times, -9223372036854775808 ≤ z ∧ z ≤ 9223372036854775807) (r_runs : R_RunS w w.heap.size v_runs x_runs) (n_runs : LenN x_runs) (f_runs : ∀ e ∈ x_runs, e.Fits) (lo_tube : -9223372036854775808 ≤ z_tube) (hi_tube : z_tube ≤ 9223372036854775807) (lo_from : -9223372036854775808 ≤ z_from) (hi_from : z_from ≤ 9223372036854775807) (lo_to : -9223372036854775808 ≤ z_to) (hi_to : z_to ≤ 9223372036854775807) :
    Calls Try.prog 6 #[v_times, v_runs, (.int .i64 z_tube), (.int .i64 z_from), (.int .i64 z_to)] w fun e w' => e = .returned (.bool true) ∧ Below w.heap.size w w' := by
  by_cases g0 : (x_times.length : Int) ≤ 1048576
  case neg =>
    have r0_times := r_times
    obtain ⟨A_times, c_times, rfl, _⟩ := r0_times
    go_enter Try.func6, Try.ntmps6
    go_wp2_with fail
    go_ret
    exact ⟨rfl, (by repeat (first | exact Below.refl _ _ | assumption | (refine Below.alloc ?_ (by simp <;> omega) _) | refine Below.drew ?_ | refine bdn ?_ _))⟩
  by_cases g1 : ((sizeN x_runs) : Int) ≤ (1048576 : Int)
  case neg =>
    have r0_times := r_times
    obtain ⟨A_times, c_times, rfl, _⟩ := r0_times
    go_enter Try.func6, Try.ntmps6
    have b0 : Below w.heap.size w w := Below.refl _ _
    have hsz1 := hide (szF_no (n := (sizeN x_runs)) (left := (1048576 : Int)) (by omega))
    go_wp2_with fail
    refine (L_sz_RunS x_runs v_runs _ w.heap.size _ n_runs (by omega) (by omega) b0.size (r_runs.below b0)).mono ?_
    rintro e w1 ⟨rfl, s1⟩
    rw [hsz1.out]
    have z1 := s1.size
    have b1 : Below w.heap.size w w1 := b0.trans (s1.mono b0.size)
    go_wp2_with fail
    go_ret
    exact ⟨rfl, b1⟩
  have m_runs : SmallN x_runs := smallN (by omega)
  have r0_times := r_times
  obtain ⟨A_times, c_times, rfl, _⟩ := r0_times
  go_enter Try.func6, Try.ntmps6
  have b0 : Below w.heap.size w w := Below.refl _ _
  have hsz1 := hide (szF_yes (n := (sizeN x_runs)) (left := (1048576 : Int)) (by omega))
  go_wp2_with fail
  refine (L_sz_RunS x_runs v_runs _ w.heap.size _ n_runs (by omega) (by omega) b0.size (r_runs.below b0)).mono ?_
  rintro e w1 ⟨rfl, s1⟩
  rw [hsz1.out]
  have z1 := s1.size
  have b1 : Below w.heap.size w w1 := b0.trans (s1.mono b0.size)
  go_wp2_with fail
  refine (L_to_Int64S x_times (.slice A_times x_times.length c_times) _ (by omega) ((r_times.below b1).more b1.size)).mono ?_
  rintro e w2 ⟨v_t1, rfl, o_t1, s2⟩
  have z2 := s2.size
  have b2 : Below w.heap.size w w2 := b1.trans (s2.mono b1.size)
  go_wp2_with fail
  refine (L_to_RunS x_runs v_runs _ m_runs ((r_runs.below b2).more b2.size)).mono ?_
  rintro e w3 ⟨v_t2, rfl, o_t2, s3⟩
  have z3 := s3.size
  have b3 : Below w.heap.size w w3 := b2.trans (s3.mono b2.size)
  replace o_t1 := o_t1.below s3 (by omega)
  go_wp2_with fail
  refine (S_FreeAt x_times v_t1 x_runs v_t2 z_tube z_from z_to _ (by omega) f_times o_t1.r m_runs f_runs o_t2.r lo_tube hi_tube lo_from hi_from lo_to hi_to).mono ?_
  rintro e w4 ⟨rfl, s4⟩
  have z4 := s4.size
  have b4 : Below w.heap.size w w4 := b3.trans (s4.mono b3.size)
  clear o_t1
  clear o_t2
  go_wp2_with fail
  refine (L_to_Int64S x_times (.slice A_times x_times.length c_times) _ (by omega) ((r_times.below b4).more b4.size)).mono ?_
  rintro e w5 ⟨v_x0, rfl, o_x0, s5⟩
  have z5 := s5.size
  have b5 : Below w.heap.size w w5 := b4.trans (s5.mono b4.size)
  go_wp2_with fail
  refine (L_to_RunS x_runs v_runs _ m_runs ((r_runs.below b5).more b5.size)).mono ?_
  rintro e w6 ⟨v_x1, rfl, o_x1, s6⟩
  have z6 := s6.size
  have b6 : Below w.heap.size w w6 := b5.trans (s6.mono b5.size)
  replace o_x0 := o_x0.below s6 (by omega)
  go_wp2_with fail
  refine (P_FreeAt x_times v_x0 x_runs v_x1 z_tube z_from z_to _ (by omega) f_times o_x0.r m_runs f_runs o_x1.r lo_tube hi_tube lo_from hi_from lo_to hi_to).mono ?_
  rintro e w7 ⟨rfl, s7⟩
  have z7 := s7.size
  have b7 : Below w.heap.size w w7 := b6.trans (s7.mono b6.size)
  replace o_x0 := o_x0.below s7 (by omega)
  replace o_x1 := o_x1.below s7 (by omega)
  go_wp2_with fail
  refine (L_to_Int64S x_times (.slice A_times x_times.length c_times) _ (by omega) ((r_times.below b7).more b7.size)).mono ?_
  rintro e w8 ⟨v_t3, rfl, o_t3, s8⟩
  have z8 := s8.size
  have b8 : Below w.heap.size w w8 := b7.trans (s8.mono b7.size)
  replace o_x0 := o_x0.below s8 (by omega)
  replace o_x1 := o_x1.below s8 (by omega)
  go_wp2_with fail
  refine (L_eq_Int64S _ _ _ _ _ _ _ _ o_x0 o_t3).mono ?_
  rintro e w9 ⟨rfl, s9⟩
  have z9 := s9.size
  have b9 : Below w.heap.size w w9 := b8.trans (s9.mono b8.size)
  replace o_x0 := o_x0.below s9 (by omega)
  replace o_x1 := o_x1.below s9 (by omega)
  replace o_t3 := o_t3.below s9 (by omega)
  clear o_t3
  go_wp2_with fail
  refine (L_to_RunS x_runs v_runs _ m_runs ((r_runs.below b9).more b9.size)).mono ?_
  rintro e w10 ⟨v_t4, rfl, o_t4, s10⟩
  have z10 := s10.size
  have b10 : Below w.heap.size w w10 := b9.trans (s10.mono b9.size)
  replace o_x0 := o_x0.below s10 (by omega)
  replace o_x1 := o_x1.below s10 (by omega)
  go_wp2_with fail
  refine (L_eq_RunS _ _ _ _ _ _ _ _ o_x1 o_t4).mono ?_
  rintro e w11 ⟨rfl, s11⟩
  have z11 := s11.size
  have b11 : Below w.heap.size w w11 := b10.trans (s11.mono b10.size)
  replace o_x0 := o_x0.below s11 (by omega)
  replace o_x1 := o_x1.below s11 (by omega)
  replace o_t4 := o_t4.below s11 (by omega)
  clear o_t4
  go_wp2_with fail
  go_ret
  exact ⟨rfl, b11⟩

theorem fnExactFreeAt_own : ownKnob Try.prog.godebug = none := by kernel_rfl
theorem fnExactFreeAt_laid : laidOutB Try.prog = true := by kernel_rfl
set_option maxRecDepth 100000 in
theorem fnExactFreeAt_lifted (os : Os) (started : os.Started) (H : Type) (enc : TypeId × Value → H) :
    ReturnsInHanded {} Try.checked os 6 .any (Rows.fnExactFreeAtSpec.pre6 enc Try.prog Try.f6 Rows.fnExactFreeAtRow.domain false) (Rows.fnExactFreeAtSpec.post enc Try.prog Try.f6 false true false false) := by
  refine returnsInHanded_of_change (C := Try.checked) fnExactFreeAt_own started (by kernel_rfl) Try.func6
    (ChangeSpec.witness6 (enc := enc) (C := Try.checked) false ⟨#[], #[.slice none 0 0, .slice none 0 0, .int .i64 0, .int .i64 0, .int .i64 0], []⟩ 8 (by kernel_rfl) (by kernel_rfl) (by kernel_rfl) (by kernel_rfl)) ?_
  intro W base args ds gs before hval0 hW hcnd _
  have hval : ∀ (j : Nat) t v, Try.f6.params[j]? = some t → args[j]? = some v → Value.okWide Try.prog W .any base t v := hval0
  have hW' := hW
  obtain ⟨p, q, hA0, hV, rfl, hfz, hnd⟩ := hW
  have hA : DataW.TrodAll enc Try.prog W 0 (fun _ => true) true Try.f6.params.toList args.toList ds p := hA0
  rw [Try.params6] at hA hval
  obtain ⟨v0, vs0, d0, ds0, p0, q0, hargs, rfl, rfl, h0, r0⟩ := trodAll_cons hA
  obtain ⟨v1, vs1, d1, ds1, p1, q1, rfl, rfl, rfl, h1, r1⟩ := trodAll_cons r0
  obtain ⟨v2, vs2, d2, ds2, p2, q2, rfl, rfl, rfl, h2, r2⟩ := trodAll_cons r1
  obtain ⟨v3, vs3, d3, ds3, p3, q3, rfl, rfl, rfl, h3, r3⟩ := trodAll_cons r2
  obtain ⟨v4, vs4, d4, ds4, p4, q4, rfl, rfl, rfl, h4, r4⟩ := trodAll_cons r3
  obtain ⟨rfl, rfl, rfl⟩ := trodAll_nil r4
  obtain rfl : args = #[v0, v1, v2, v3, v4] := by cases args; simp_all
  obtain ⟨rfl, rfl⟩ := trodVars_none hV
  have k0 := h0
  have lt0 : ∀ x ∈ p0, x.block < W.heap.size := by obtain ⟨m, hm⟩ := k0; exact DataW.trod_lt m _ _ _ hm
  obtain ⟨A0, c0, zs0, rfl, rd0, len0, bd0⟩ := open_I Try.underlying30 Try.underlying2 (by kernel_rfl) (hval 0 30 v0 rfl rfl) h0
  have k1 := h1
  have lt1 : ∀ x ∈ p1, x.block < W.heap.size := by obtain ⟨m, hm⟩ := k1; exact DataW.trod_lt m _ _ _ hm
  obtain ⟨A1, c1, zs1, rfl, rd1, len1, bd1⟩ := open_N1 Try.underlying65 Try.underlying133 (by kernel_rfl) (by kernel_rfl) Try.underlying30 Try.underlying2 (by kernel_rfl) Try.underlying2 (hval 1 65 v1 rfl rfl) h1
  have k2 := h2
  have lt2 : ∀ x ∈ p2, x.block < W.heap.size := by obtain ⟨m, hm⟩ := k2; exact DataW.trod_lt m _ _ _ hm
  obtain ⟨z2, rfl, bd2a, bd2b⟩ := open_Z Try.underlying2 (hval 2 2 v2 rfl rfl) h2
  have k3 := h3
  have lt3 : ∀ x ∈ p3, x.block < W.heap.size := by obtain ⟨m, hm⟩ := k3; exact DataW.trod_lt m _ _ _ hm
  obtain ⟨z3, rfl, bd3a, bd3b⟩ := open_Z Try.underlying2 (hval 3 2 v3 rfl rfl) h3
  have k4 := h4
  have lt4 : ∀ x ∈ p4, x.block < W.heap.size := by obtain ⟨m, hm⟩ := k4; exact DataW.trod_lt m _ _ _ hm
  obtain ⟨z4, rfl, bd4a, bd4b⟩ := open_Z Try.underlying2 (hval 4 2 v4 rfl rfl) h4
  clear hA0 hval0
  refine (xFreeAt_walk zs0 (.slice A0 zs0.length c0) zs1 (.slice A1 zs1.length c1) z2 z3 z4 W ⟨A0, c0, rfl, rd0⟩ len0 bd0 ⟨A1, c1, rfl, rd1⟩ len1 bd1 bd2a bd2b bd3a bd3b bd4a bd4b).mono fun e W' ⟨he, bel⟩ => ?_
  subst he
  exact ⟨_, rfl, _, _, _, [], _, [], hW', trodAll_mk1 (shut_bool Try.underlying4 _), (trodAll_cons_mk (Below.trod fnExactFreeAt_laid (by kernel_rfl) (of_decide_eq_true (by kernel_rfl)) k0 bel lt0) (trodAll_cons_mk (Below.trod fnExactFreeAt_laid (by kernel_rfl) (of_decide_eq_true (by kernel_rfl)) k1 bel lt1) (trodAll_cons_mk (Below.trod fnExactFreeAt_laid (by kernel_rfl) (of_decide_eq_true (by kernel_rfl)) k2 bel lt2) (trodAll_cons_mk (Below.trod fnExactFreeAt_laid (by kernel_rfl) (of_decide_eq_true (by kernel_rfl)) k3 bel lt3) (trodAll_cons_mk (Below.trod fnExactFreeAt_laid (by kernel_rfl) (of_decide_eq_true (by kernel_rfl)) k4 bel lt4) trodAll_mk0))))), rfl, bel.frame _, fun h => by cases h⟩
theorem fnExactFreeAt_holds : Rows.FnExactFreeAtSaid :=
  OpenClaim.holds_of_wide 6 Try.f6 rfl rfl rfl rfl rfl rfl rfl ⟨rfl, rfl, rfl, rfl, rfl⟩ rfl rfl rfl rfl rfl (by kernel_rfl) Try.func6 (by kernel_rfl)
    (of_decide_eq_true (by kernel_rfl)) (by unfold Func.isWrapper; first | (rw [if_pos (by decide +kernel)]; kernel_rfl) | (rw [if_neg (by decide +kernel)]; exact ⟨rfl, rfl⟩))
    (fun os started H enc _ => fnExactFreeAt_lifted os started H enc)
#print axioms fnExactFreeAt_holds
end Go.Proofs.Ytflbddfmhjlknaa
