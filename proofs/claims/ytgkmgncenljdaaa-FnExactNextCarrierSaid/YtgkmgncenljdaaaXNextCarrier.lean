/-
  The law FnExactNextCarrier returns true for every input. No condition. Printed by gen_exact.py.
-/
import Derived.Test.YtgkmgncenljdaaaCarNext
import Derived.Test.YtgkmgncenljdaaaLawH
import Derived.Test.YtgkmgncenljdaaaRows
import Derived.Test.YtgkmgncenljdaaaOpenW
import Derived.ProofKit
import Derived.OpenShut
namespace Go.Proofs.Ytgkmgncenljdaaa
open Go.ChangeShapes Go.WideShapes Go.ChangeAt Go.RowKit

set_option maxRecDepth 100000 in
set_option maxHeartbeats 4000000 in
theorem xNextCarrier_walk (x_list : List T2) (v_list : Value) (w : World) (r_list : R_SealS w w.heap.size v_list x_list) (n_list : x_list.length ≤ 9223372036854775807) (f_list : ∀ z ∈ x_list, z.Fits) :
    Calls Try.prog 7 #[v_list] w fun e w' => e = .returned (.bool true) ∧ Below w.heap.size w w' := by
  by_cases g0 : (x_list.length : Int) ≤ (1048576 : Int)
  case neg =>
    go_enter Try.func7, Try.ntmps7
    have hsz0 := hide (szF_no (n := x_list.length) (left := (1048576 : Int)) (by omega))
    go_wp2_with fail
    refine (L_sz_SealS x_list v_list _ w.heap.size _ n_list (by omega) (by omega) r_list).mono ?_
    rintro e w' ⟨rfl, rfl⟩
    rw [hsz0.out]
    go_wp2_with fail
    go_ret
    exact ⟨rfl, Below.refl _ _⟩
  go_enter Try.func7, Try.ntmps7
  have hsz0 := hide (szF_yes (n := x_list.length) (left := (1048576 : Int)) (by omega))
  go_wp2_with fail
  refine (L_sz_SealS x_list v_list _ w.heap.size _ n_list (by omega) (by omega) r_list).mono ?_
  rintro e w' ⟨rfl, rfl⟩
  rw [hsz0.out]
  have b0 : Below w.heap.size w w := Below.refl _ _
  go_wp2_with fail
  refine (L_to_SealS x_list v_list _ (by omega) ((r_list.below b0).more b0.size)).mono ?_
  rintro e w1 ⟨v_t1, rfl, o_t1, s1⟩
  have z1 := s1.size
  have b1 : Below w.heap.size w w1 := b0.trans (s1.mono b0.size)
  go_wp2_with fail
  refine (S_NextCarrier x_list v_t1 _ (by omega) f_list o_t1.r).mono ?_
  rintro e w2 ⟨rfl, s2⟩
  have z2 := s2.size
  have b2 : Below w.heap.size w w2 := b1.trans (s2.mono b1.size)
  clear o_t1
  go_wp2_with fail
  refine (L_to_SealS x_list v_list _ (by omega) ((r_list.below b2).more b2.size)).mono ?_
  rintro e w3 ⟨v_x0, rfl, o_x0, s3⟩
  have z3 := s3.size
  have b3 : Below w.heap.size w w3 := b2.trans (s3.mono b2.size)
  go_wp2_with fail
  refine (P_NextCarrier x_list v_x0 _ (by omega) f_list o_x0.r).mono ?_
  rintro e w4 ⟨rfl, s4⟩
  have z4 := s4.size
  have b4 : Below w.heap.size w w4 := b3.trans (s4.mono b3.size)
  replace o_x0 := o_x0.below s4 (by omega)
  go_wp2_with fail
  refine (L_to_SealS x_list v_list _ (by omega) ((r_list.below b4).more b4.size)).mono ?_
  rintro e w5 ⟨v_t2, rfl, o_t2, s5⟩
  have z5 := s5.size
  have b5 : Below w.heap.size w w5 := b4.trans (s5.mono b4.size)
  replace o_x0 := o_x0.below s5 (by omega)
  go_wp2_with fail
  refine (L_eq_SealS _ _ _ _ _ _ _ _ o_x0 o_t2).mono ?_
  rintro e w6 ⟨rfl, s6⟩
  have z6 := s6.size
  have b6 : Below w.heap.size w w6 := b5.trans (s6.mono b5.size)
  replace o_x0 := o_x0.below s6 (by omega)
  replace o_t2 := o_t2.below s6 (by omega)
  clear o_t2
  go_wp2_with fail
  go_ret
  exact ⟨rfl, b6⟩

theorem fnExactNextCarrier_own : ownKnob Try.prog.godebug = none := by kernel_rfl
theorem fnExactNextCarrier_laid : laidOutB Try.prog = true := by kernel_rfl
set_option maxRecDepth 100000 in
theorem fnExactNextCarrier_lifted (os : Os) (started : os.Started) (H : Type) (enc : TypeId × Value → H) :
    ReturnsInHanded {} Try.checked os 7 .any (Rows.fnExactNextCarrierSpec.pre6 enc Try.prog Try.f7 Rows.fnExactNextCarrierRow.domain false) (Rows.fnExactNextCarrierSpec.post enc Try.prog Try.f7 false true false false) := by
  refine returnsInHanded_of_change (C := Try.checked) fnExactNextCarrier_own started (by kernel_rfl) Try.func7
    (ChangeSpec.witness6 (enc := enc) (C := Try.checked) false ⟨#[], #[.slice none 0 0], []⟩ 8 (by kernel_rfl) (by kernel_rfl) (by kernel_rfl) (by kernel_rfl)) ?_
  intro W base args ds gs before hval0 hW hcnd _
  have hval : ∀ (j : Nat) t v, Try.f7.params[j]? = some t → args[j]? = some v → Value.okWide Try.prog W .any base t v := hval0
  have hW' := hW
  obtain ⟨p, q, hA0, hV, rfl, hfz, hnd⟩ := hW
  have hA : DataW.TrodAll enc Try.prog W 0 (fun _ => true) true Try.f7.params.toList args.toList ds p := hA0
  rw [Try.params7] at hA hval
  obtain ⟨v0, vs0, d0, ds0, p0, q0, hargs, rfl, rfl, h0, r0⟩ := trodAll_cons hA
  obtain ⟨rfl, rfl, rfl⟩ := trodAll_nil r0
  obtain rfl : args = #[v0] := by cases args; simp_all
  obtain ⟨rfl, rfl⟩ := trodVars_none hV
  have k0 := h0
  have lt0 : ∀ x ∈ p0, x.block < W.heap.size := by obtain ⟨m, hm⟩ := k0; exact DataW.trod_lt m _ _ _ hm
  obtain ⟨A0, c0, zs0, rfl, rd0, len0, bd0⟩ := open_S2 Try.underlying26 Try.underlying73 (by kernel_rfl) (by kernel_rfl) Try.underlying2 Try.underlying2 (hval 0 26 v0 rfl rfl) h0
  clear hA0 hval0
  refine (xNextCarrier_walk zs0 (.slice A0 zs0.length c0) W ⟨A0, c0, rfl, rd0⟩ len0 bd0).mono fun e W' ⟨he, bel⟩ => ?_
  subst he
  exact ⟨_, rfl, _, _, _, [], _, [], hW', trodAll_mk1 (shut_bool Try.underlying4 _), (trodAll_cons_mk (Below.trod fnExactNextCarrier_laid (by kernel_rfl) (of_decide_eq_true (by kernel_rfl)) k0 bel lt0) trodAll_mk0), rfl, bel.frame _, fun h => by cases h⟩
theorem fnExactNextCarrier_holds : Rows.FnExactNextCarrierSaid :=
  OpenClaim.holds_of_wide 7 Try.f7 rfl rfl rfl rfl rfl rfl rfl ⟨rfl, rfl, rfl, rfl, rfl⟩ rfl rfl rfl rfl rfl (by kernel_rfl) Try.func7 (by kernel_rfl)
    (of_decide_eq_true (by kernel_rfl)) (by unfold Func.isWrapper; first | (rw [if_pos (by decide +kernel)]; kernel_rfl) | (rw [if_neg (by decide +kernel)]; exact ⟨rfl, rfl⟩))
    (fun os started H enc _ => fnExactNextCarrier_lifted os started H enc)
#print axioms fnExactNextCarrier_holds
end Go.Proofs.Ytgkmgncenljdaaa
