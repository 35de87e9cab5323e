/-
  The law FnExactWornSeals returns true for every input. No condition. Printed by gen_exact.py.
-/
import Derived.Test.YtgkmgncenljdaaaCarRuns
import Derived.Test.YtgkmgncenljdaaaLawH
import Derived.Test.YtgkmgncenljdaaaRows
import Derived.Test.YtgkmgncenljdaaaOpenW
import Derived.ProofKit
import Derived.OpenShut
namespace Go.Proofs.Ytgkmgncenljdaaa
open Go.ChangeShapes Go.WideShapes Go.ChangeAt Go.RowKit

set_option maxRecDepth 100000 in
set_option maxHeartbeats 4000000 in
theorem xWornSeals_walk (x_list : List T2) (v_list : Value) (w : World) (r_list : R_SealS w w.heap.size v_list x_list) (n_list : x_list.length ≤ 9223372036854775807) (f_list : ∀ z ∈ x_list, z.Fits) :
    Calls Try.prog 9 #[v_list] w fun e w' => e = .returned (.bool true) ∧ Below w.heap.size w w' := by
  by_cases g0 : (x_list.length : Int) ≤ (1048576 : Int)
  case neg =>
    go_enter Try.func9, Try.ntmps9
    have hsz0 := hide (szF_no (n := x_list.length) (left := (1048576 : Int)) (by omega))
    go_wp2_with fail
    refine (L_sz_SealS x_list v_list _ w.heap.size _ n_list (by omega) (by omega) r_list).mono ?_
    rintro e w' ⟨rfl, rfl⟩
    rw [hsz0.out]
    go_wp2_with fail
    go_ret
    exact ⟨rfl, Below.refl _ _⟩
  go_enter Try.func9, Try.ntmps9
  have hsz0 := hide (szF_yes (n := x_list.length) (left := (1048576 : Int)) (by omega))
  go_wp2_with fail
  refine (L_sz_SealS x_list v_list _ w.heap.size _ n_list (by omega) (by omega) r_list).mono ?_
  rintro e w' ⟨rfl, rfl⟩
  rw [hsz0.out]
  have b0 : Below w.heap.size w w := Below.refl _ _
  go_wp2_with fail
  refine (L_to_SealS x_list v_list _ (by omega) ((r_list.below b0).more b0.size)).mono ?_
  rintro e w1 ⟨v_t1, rfl, o_t1, s1⟩
  have z1 := s1.size
  have b1 : Below w.heap.size w w1 := b0.trans (s1.mono b0.size)
  go_wp2_with fail
  refine (S_WornSeals x_list v_t1 _ (by omega) f_list o_t1.r).mono ?_
  rintro e w2 ⟨v_w0, rfl, o_w0, s2⟩
  have z2 := s2.size
  have b2 : Below w.heap.size w w2 := b1.trans (s2.mono b1.size)
  clear o_t1
  go_wp2_with fail
  refine (L_to_SealS x_list v_list _ (by omega) ((r_list.below b2).more b2.size)).mono ?_
  rintro e w3 ⟨v_x0, rfl, o_x0, s3⟩
  have z3 := s3.size
  have b3 : Below w.heap.size w w3 := b2.trans (s3.mono b2.size)
  replace o_w0 := o_w0.below s3 (by omega)
  go_wp2_with fail
  refine (P_WornSeals x_list v_x0 _ (by omega) f_list o_x0.r).mono ?_
  rintro e w4 ⟨v_g0, rfl, o_g0, s4⟩
  have z4 := s4.size
  have b4 : Below w.heap.size w w4 := b3.trans (s4.mono b3.size)
  replace o_w0 := o_w0.below s4 (by omega)
  replace o_x0 := o_x0.below s4 (by omega)
  go_wp2_with fail
  refine (L_eq_Int64S _ _ _ _ _ _ _ _ o_g0 o_w0).mono ?_
  rintro e w5 ⟨rfl, s5⟩
  have z5 := s5.size
  have b5 : Below w.heap.size w w5 := b4.trans (s5.mono b4.size)
  replace o_w0 := o_w0.below s5 (by omega)
  replace o_x0 := o_x0.below s5 (by omega)
  replace o_g0 := o_g0.below s5 (by omega)
  go_wp2_with fail
  refine (L_to_SealS x_list v_list _ (by omega) ((r_list.below b5).more b5.size)).mono ?_
  rintro e w6 ⟨v_t2, rfl, o_t2, s6⟩
  have z6 := s6.size
  have b6 : Below w.heap.size w w6 := b5.trans (s6.mono b5.size)
  replace o_w0 := o_w0.below s6 (by omega)
  replace o_x0 := o_x0.below s6 (by omega)
  replace o_g0 := o_g0.below s6 (by omega)
  go_wp2_with fail
  refine (L_eq_SealS _ _ _ _ _ _ _ _ o_x0 o_t2).mono ?_
  rintro e w7 ⟨rfl, s7⟩
  have z7 := s7.size
  have b7 : Below w.heap.size w w7 := b6.trans (s7.mono b6.size)
  replace o_w0 := o_w0.below s7 (by omega)
  replace o_x0 := o_x0.below s7 (by omega)
  replace o_g0 := o_g0.below s7 (by omega)
  replace o_t2 := o_t2.below s7 (by omega)
  clear o_t2
  obtain ⟨c8a, c8b⟩ := o_x0.cnt
  go_wp2_with fail
  refine (L_mark_SealS _ _ _ _ _ _ (by omega) (by omega) o_x0).mono ?_
  rintro e w8 ⟨rfl, o_x0', s8⟩
  clear o_x0; have o_x0 := o_x0'; clear o_x0'
  have z8 := s8.size
  have b8 : Below w.heap.size w w8 := b7.trans (s8.below (by omega) (by omega))
  replace o_w0 := o_w0.kept s8 (by omega)
  replace o_g0 := o_g0.kept s8 (by omega)
  go_wp2_with fail
  refine (L_eq_Int64S _ _ _ _ _ _ _ _ o_g0 o_w0).mono ?_
  rintro e w9 ⟨rfl, s9⟩
  have z9 := s9.size
  have b9 : Below w.heap.size w w9 := b8.trans (s9.mono b8.size)
  replace o_w0 := o_w0.below s9 (by omega)
  replace o_x0 := o_x0.below s9 (by omega)
  replace o_g0 := o_g0.below s9 (by omega)
  obtain ⟨c10a, c10b⟩ := o_g0.cnt
  go_wp2_with fail
  refine (L_mark_Int64S _ _ _ _ _ _ (by omega) (by omega) o_g0).mono ?_
  rintro e w10 ⟨rfl, o_g0', s10⟩
  clear o_g0; have o_g0 := o_g0'; clear o_g0'
  have z10 := s10.size
  have b10 : Below w.heap.size w w10 := b9.trans (s10.below (by omega) (by omega))
  replace o_w0 := o_w0.kept s10 (by omega)
  replace o_x0 := o_x0.kept s10 (by omega)
  go_wp2_with fail
  refine (L_held_Int64S _ _ _ _ _ _ (by omega) (by omega) o_g0).mono ?_
  rintro e w11 ⟨rfl, s11⟩
  have z11 := s11.size
  have b11 : Below w.heap.size w w11 := b10.trans (s11.mono b10.size)
  replace o_w0 := o_w0.below s11 (by omega)
  replace o_x0 := o_x0.below s11 (by omega)
  replace o_g0 := o_g0.below s11 (by omega)
  go_wp2_with fail
  refine (L_to_SealS x_list v_list _ (by omega) ((r_list.below b11).more b11.size)).mono ?_
  rintro e w12 ⟨v_t3, rfl, o_t3, s12⟩
  have z12 := s12.size
  have b12 : Below w.heap.size w w12 := b11.trans (s12.mono b11.size)
  replace o_w0 := o_w0.below s12 (by omega)
  replace o_x0 := o_x0.below s12 (by omega)
  replace o_g0 := o_g0.below s12 (by omega)
  go_wp2_with fail
  refine (P_WornSeals x_list v_t3 _ (by omega) f_list o_t3.r).mono ?_
  rintro e w13 ⟨v_h0, rfl, o_h0, s13⟩
  have z13 := s13.size
  have b13 : Below w.heap.size w w13 := b12.trans (s13.mono b12.size)
  replace o_w0 := o_w0.below s13 (by omega)
  replace o_x0 := o_x0.below s13 (by omega)
  replace o_g0 := o_g0.below s13 (by omega)
  clear o_t3
  go_wp2_with fail
  refine (L_eq_Int64S _ _ _ _ _ _ _ _ o_h0 o_w0).mono ?_
  rintro e w14 ⟨rfl, s14⟩
  have z14 := s14.size
  have b14 : Below w.heap.size w w14 := b13.trans (s14.mono b13.size)
  replace o_w0 := o_w0.below s14 (by omega)
  replace o_x0 := o_x0.below s14 (by omega)
  replace o_g0 := o_g0.below s14 (by omega)
  replace o_h0 := o_h0.below s14 (by omega)
  go_wp2_with fail
  refine (L_held_Int64S _ _ _ _ _ _ (by omega) (by omega) o_g0).mono ?_
  rintro e w15 ⟨rfl, s15⟩
  have z15 := s15.size
  have b15 : Below w.heap.size w w15 := b14.trans (s15.mono b14.size)
  replace o_w0 := o_w0.below s15 (by omega)
  replace o_x0 := o_x0.below s15 (by omega)
  replace o_g0 := o_g0.below s15 (by omega)
  replace o_h0 := o_h0.below s15 (by omega)
  go_wp2_with fail
  go_ret
  exact ⟨rfl, b15⟩

theorem fnExactWornSeals_own : ownKnob Try.prog.godebug = none := by kernel_rfl
theorem fnExactWornSeals_laid : laidOutB Try.prog = true := by kernel_rfl
set_option maxRecDepth 100000 in
theorem fnExactWornSeals_lifted (os : Os) (started : os.Started) (H : Type) (enc : TypeId × Value → H) :
    ReturnsInHanded {} Try.checked os 9 .any (Rows.fnExactWornSealsSpec.pre6 enc Try.prog Try.f9 Rows.fnExactWornSealsRow.domain false) (Rows.fnExactWornSealsSpec.post enc Try.prog Try.f9 false true false false) := by
  refine returnsInHanded_of_change (C := Try.checked) fnExactWornSeals_own started (by kernel_rfl) Try.func9
    (ChangeSpec.witness6 (enc := enc) (C := Try.checked) false ⟨#[], #[.slice none 0 0], []⟩ 8 (by kernel_rfl) (by kernel_rfl) (by kernel_rfl) (by kernel_rfl)) ?_
  intro W base args ds gs before hval0 hW hcnd _
  have hval : ∀ (j : Nat) t v, Try.f9.params[j]? = some t → args[j]? = some v → Value.okWide Try.prog W .any base t v := hval0
  have hW' := hW
  obtain ⟨p, q, hA0, hV, rfl, hfz, hnd⟩ := hW
  have hA : DataW.TrodAll enc Try.prog W 0 (fun _ => true) true Try.f9.params.toList args.toList ds p := hA0
  rw [Try.params9] at hA hval
  obtain ⟨v0, vs0, d0, ds0, p0, q0, hargs, rfl, rfl, h0, r0⟩ := trodAll_cons hA
  obtain ⟨rfl, rfl, rfl⟩ := trodAll_nil r0
  obtain rfl : args = #[v0] := by cases args; simp_all
  obtain ⟨rfl, rfl⟩ := trodVars_none hV
  have k0 := h0
  have lt0 : ∀ x ∈ p0, x.block < W.heap.size := by obtain ⟨m, hm⟩ := k0; exact DataW.trod_lt m _ _ _ hm
  obtain ⟨A0, c0, zs0, rfl, rd0, len0, bd0⟩ := open_S2 Try.underlying26 Try.underlying73 (by kernel_rfl) (by kernel_rfl) Try.underlying2 Try.underlying2 (hval 0 26 v0 rfl rfl) h0
  clear hA0 hval0
  refine (xWornSeals_walk zs0 (.slice A0 zs0.length c0) W ⟨A0, c0, rfl, rd0⟩ len0 bd0).mono fun e W' ⟨he, bel⟩ => ?_
  subst he
  exact ⟨_, rfl, _, _, _, [], _, [], hW', trodAll_mk1 (shut_bool Try.underlying4 _), (trodAll_cons_mk (Below.trod fnExactWornSeals_laid (by kernel_rfl) (of_decide_eq_true (by kernel_rfl)) k0 bel lt0) trodAll_mk0), rfl, bel.frame _, fun h => by cases h⟩
theorem fnExactWornSeals_holds : Rows.FnExactWornSealsSaid :=
  OpenClaim.holds_of_wide 9 Try.f9 rfl rfl rfl rfl rfl rfl rfl ⟨rfl, rfl, rfl, rfl, rfl⟩ rfl rfl rfl rfl rfl (by kernel_rfl) Try.func9 (by kernel_rfl)
    (of_decide_eq_true (by kernel_rfl)) (by unfold Func.isWrapper; first | (rw [if_pos (by decide +kernel)]; kernel_rfl) | (rw [if_neg (by decide +kernel)]; exact ⟨rfl, rfl⟩))
    (fun os started H enc _ => fnExactWornSeals_lifted os started H enc)
#print axioms fnExactWornSeals_holds
end Go.Proofs.Ytgkmgncenljdaaa
