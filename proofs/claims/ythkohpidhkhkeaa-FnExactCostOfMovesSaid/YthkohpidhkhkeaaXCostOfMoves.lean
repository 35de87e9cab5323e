/-
  The law FnExactCostOfMoves returns true for every input. No condition. Printed by gen_exact.py.
-/
import Derived.Test.YthkohpidhkhkeaaCarD
import Derived.Test.YthkohpidhkhkeaaLawH
import Derived.Test.YthkohpidhkhkeaaRows
import Derived.Test.YthkohpidhkhkeaaOpenW
import Derived.Test.YthkohpidhkhkeaaOpenN
import Derived.Test.YthkohpidhkhkeaaNestM
import Derived.ProofKit
import Derived.OpenShut
namespace Go.Proofs.Ythkohpidhkhkeaa
open Go.ChangeShapes Go.WideShapes Go.ChangeAt Go.RowKit

set_option maxRecDepth 100000 in
set_option maxHeartbeats 4000000 in
theorem xCostOfMoves_walk (x_moves : List T3) (v_moves : Value) (x_costs : List TN) (v_costs : Value) (w : World) (r_moves : R_MoveS w w.heap.size v_moves x_moves) (n_moves : x_moves.length ≤ 9223372036854775807) (f_moves : ∀ z ∈ x_moves, z.Fits) (r_costs : R_Int64SS w w.heap.size v_costs x_costs) (n_costs : LenN x_costs) (f_costs : ∀ e ∈ x_costs, e.Fits) :
    Calls Try.prog 4 #[v_moves, v_costs] w fun e w' => e = .returned (.bool true) ∧ Below w.heap.size w w' := by
  by_cases g0 : (x_moves.length : Int) ≤ (1048576 : Int)
  case neg =>
    go_enter Try.func4, Try.ntmps4
    have b0 : Below w.heap.size w w := Below.refl _ _
    have hsz0 := hide (szF_no (n := x_moves.length) (left := (1048576 : Int)) (by omega))
    go_wp2_with fail
    refine (L_sz_MoveS x_moves v_moves _ w.heap.size _ n_moves (by omega) (by omega) (r_moves.below b0)).mono ?_
    rintro e w1 ⟨rfl, e1⟩
    have s1 : Below w.heap.size w w1 := e1 ▸ Below.refl _ _
    clear e1
    rw [hsz0.out]
    have z1 := s1.size
    have b1 : Below w.heap.size w w1 := b0.trans (s1.mono b0.size)
    go_wp2_with fail
    go_ret
    exact ⟨rfl, b1⟩
  by_cases g1 : ((sizeN x_costs) : Int) ≤ ((1048576 : Int) - (x_moves.length : Int))
  case neg =>
    go_enter Try.func4, Try.ntmps4
    have b0 : Below w.heap.size w w := Below.refl _ _
    have hsz0 := hide (szF_yes (n := x_moves.length) (left := (1048576 : Int)) (by omega))
    go_wp2_with fail
    refine (L_sz_MoveS x_moves v_moves _ w.heap.size _ n_moves (by omega) (by omega) (r_moves.below b0)).mono ?_
    rintro e w1 ⟨rfl, e1⟩
    have s1 : Below w.heap.size w w1 := e1 ▸ Below.refl _ _
    clear e1
    rw [hsz0.out]
    have z1 := s1.size
    have b1 : Below w.heap.size w w1 := b0.trans (s1.mono b0.size)
    have hsz1 := hide (szF_no (n := (sizeN x_costs)) (left := ((1048576 : Int) - (x_moves.length : Int))) (by omega))
    go_wp2_with fail
    refine (L_sz_Int64SS x_costs v_costs _ w.heap.size _ n_costs (by omega) (by omega) b1.size (r_costs.below b1)).mono ?_
    rintro e w2 ⟨rfl, s2⟩
    rw [hsz1.out]
    have z2 := s2.size
    have b2 : Below w.heap.size w w2 := b1.trans (s2.mono b1.size)
    go_wp2_with fail
    go_ret
    exact ⟨rfl, b2⟩
  have m_costs : SmallN x_costs := smallN (by omega)
  go_enter Try.func4, Try.ntmps4
  have b0 : Below w.heap.size w w := Below.refl _ _
  have hsz0 := hide (szF_yes (n := x_moves.length) (left := (1048576 : Int)) (by omega))
  go_wp2_with fail
  refine (L_sz_MoveS x_moves v_moves _ w.heap.size _ n_moves (by omega) (by omega) (r_moves.below b0)).mono ?_
  rintro e w1 ⟨rfl, e1⟩
  have s1 : Below w.heap.size w w1 := e1 ▸ Below.refl _ _
  clear e1
  rw [hsz0.out]
  have z1 := s1.size
  have b1 : Below w.heap.size w w1 := b0.trans (s1.mono b0.size)
  have hsz1 := hide (szF_yes (n := (sizeN x_costs)) (left := ((1048576 : Int) - (x_moves.length : Int))) (by omega))
  go_wp2_with fail
  refine (L_sz_Int64SS x_costs v_costs _ w.heap.size _ n_costs (by omega) (by omega) b1.size (r_costs.below b1)).mono ?_
  rintro e w2 ⟨rfl, s2⟩
  rw [hsz1.out]
  have z2 := s2.size
  have b2 : Below w.heap.size w w2 := b1.trans (s2.mono b1.size)
  go_wp2_with fail
  refine (L_to_MoveS x_moves v_moves _ (by omega) ((r_moves.below b2).more b2.size)).mono ?_
  rintro e w3 ⟨v_t1, rfl, o_t1, s3⟩
  have z3 := s3.size
  have b3 : Below w.heap.size w w3 := b2.trans (s3.mono b2.size)
  go_wp2_with fail
  refine (L_to_Int64SS x_costs v_costs _ m_costs ((r_costs.below b3).more b3.size)).mono ?_
  rintro e w4 ⟨v_t2, rfl, o_t2, s4⟩
  have z4 := s4.size
  have b4 : Below w.heap.size w w4 := b3.trans (s4.mono b3.size)
  replace o_t1 := o_t1.below s4 (by omega)
  go_wp2_with fail
  refine (S_CostOfMoves x_moves v_t1 x_costs v_t2 _ (by omega) f_moves o_t1.r m_costs f_costs o_t2.r).mono ?_
  rintro e w5 ⟨rfl, s5⟩
  have z5 := s5.size
  have b5 : Below w.heap.size w w5 := b4.trans (s5.mono b4.size)
  clear o_t1
  clear o_t2
  go_wp2_with fail
  refine (L_to_MoveS x_moves v_moves _ (by omega) ((r_moves.below b5).more b5.size)).mono ?_
  rintro e w6 ⟨v_x0, rfl, o_x0, s6⟩
  have z6 := s6.size
  have b6 : Below w.heap.size w w6 := b5.trans (s6.mono b5.size)
  go_wp2_with fail
  refine (L_to_Int64SS x_costs v_costs _ m_costs ((r_costs.below b6).more b6.size)).mono ?_
  rintro e w7 ⟨v_x1, rfl, o_x1, s7⟩
  have z7 := s7.size
  have b7 : Below w.heap.size w w7 := b6.trans (s7.mono b6.size)
  replace o_x0 := o_x0.below s7 (by omega)
  go_wp2_with fail
  refine (P_CostOfMoves x_moves v_x0 x_costs v_x1 _ (by omega) f_moves o_x0.r m_costs f_costs o_x1.r).mono ?_
  rintro e w8 ⟨rfl, s8⟩
  have z8 := s8.size
  have b8 : Below w.heap.size w w8 := b7.trans (s8.mono b7.size)
  replace o_x0 := o_x0.below s8 (by omega)
  replace o_x1 := o_x1.below s8 (by omega)
  go_wp2_with fail
  refine (L_to_MoveS x_moves v_moves _ (by omega) ((r_moves.below b8).more b8.size)).mono ?_
  rintro e w9 ⟨v_t3, rfl, o_t3, s9⟩
  have z9 := s9.size
  have b9 : Below w.heap.size w w9 := b8.trans (s9.mono b8.size)
  replace o_x0 := o_x0.below s9 (by omega)
  replace o_x1 := o_x1.below s9 (by omega)
  go_wp2_with fail
  refine (L_eq_MoveS _ _ _ _ _ _ _ _ o_x0 o_t3).mono ?_
  rintro e w10 ⟨rfl, s10⟩
  have z10 := s10.size
  have b10 : Below w.heap.size w w10 := b9.trans (s10.mono b9.size)
  replace o_x0 := o_x0.below s10 (by omega)
  replace o_x1 := o_x1.below s10 (by omega)
  replace o_t3 := o_t3.below s10 (by omega)
  clear o_t3
  go_wp2_with fail
  refine (L_to_Int64SS x_costs v_costs _ m_costs ((r_costs.below b10).more b10.size)).mono ?_
  rintro e w11 ⟨v_t4, rfl, o_t4, s11⟩
  have z11 := s11.size
  have b11 : Below w.heap.size w w11 := b10.trans (s11.mono b10.size)
  replace o_x0 := o_x0.below s11 (by omega)
  replace o_x1 := o_x1.below s11 (by omega)
  go_wp2_with fail
  refine (L_eq_Int64SS _ _ _ _ _ _ _ _ o_x1 o_t4).mono ?_
  rintro e w12 ⟨rfl, s12⟩
  have z12 := s12.size
  have b12 : Below w.heap.size w w12 := b11.trans (s12.mono b11.size)
  replace o_x0 := o_x0.below s12 (by omega)
  replace o_x1 := o_x1.below s12 (by omega)
  replace o_t4 := o_t4.below s12 (by omega)
  clear o_t4
  go_wp2_with fail
  go_ret
  exact ⟨rfl, b12⟩

theorem fnExactCostOfMoves_own : ownKnob Try.prog.godebug = none := by kernel_rfl
theorem fnExactCostOfMoves_laid : laidOutB Try.prog = true := by kernel_rfl
set_option maxRecDepth 100000 in
theorem fnExactCostOfMoves_lifted (os : Os) (started : os.Started) (H : Type) (enc : TypeId × Value → H) :
    ReturnsInHanded {} Try.checked os 4 .any (Rows.fnExactCostOfMovesSpec.pre6 enc Try.prog Try.f4 Rows.fnExactCostOfMovesRow.domain false) (Rows.fnExactCostOfMovesSpec.post enc Try.prog Try.f4 false true false false) := by
  refine returnsInHanded_of_change (C := Try.checked) fnExactCostOfMoves_own started (by kernel_rfl) Try.func4
    (ChangeSpec.witness6 (enc := enc) (C := Try.checked) false ⟨#[], #[.slice none 0 0, .slice none 0 0], []⟩ 8 (by kernel_rfl) (by kernel_rfl) (by kernel_rfl) (by kernel_rfl)) ?_
  intro W base args ds gs before hval0 hW hcnd _
  have hval : ∀ (j : Nat) t v, Try.f4.params[j]? = some t → args[j]? = some v → Value.okWide Try.prog W .any base t v := hval0
  have hW' := hW
  obtain ⟨p, q, hA0, hV, rfl, hfz, hnd⟩ := hW
  have hA : DataW.TrodAll enc Try.prog W 0 (fun _ => true) true Try.f4.params.toList args.toList ds p := hA0
  rw [Try.params4] at hA hval
  obtain ⟨v0, vs0, d0, ds0, p0, q0, hargs, rfl, rfl, h0, r0⟩ := trodAll_cons hA
  obtain ⟨v1, vs1, d1, ds1, p1, q1, rfl, rfl, rfl, h1, r1⟩ := trodAll_cons r0
  obtain ⟨rfl, rfl, rfl⟩ := trodAll_nil r1
  obtain rfl : args = #[v0, v1] := by cases args; simp_all
  obtain ⟨rfl, rfl⟩ := trodVars_none hV
  have k0 := h0
  have lt0 : ∀ x ∈ p0, x.block < W.heap.size := by obtain ⟨m, hm⟩ := k0; exact DataW.trod_lt m _ _ _ hm
  obtain ⟨A0, c0, zs0, rfl, rd0, len0, bd0⟩ := open_S3 Try.underlying28 Try.underlying88 (by kernel_rfl) (by kernel_rfl) Try.underlying2 Try.underlying2 Try.underlying2 (hval 0 28 v0 rfl rfl) h0
  have k1 := h1
  have lt1 : ∀ x ∈ p1, x.block < W.heap.size := by obtain ⟨m, hm⟩ := k1; exact DataW.trod_lt m _ _ _ hm
  obtain ⟨A1, c1, zs1, rfl, rd1, len1, bd1⟩ := open_N0 Try.underlying29 Try.underlying22 (by kernel_rfl) Try.underlying2 (by kernel_rfl) (hval 1 29 v1 rfl rfl) h1
  clear hA0 hval0
  refine (xCostOfMoves_walk zs0 (.slice A0 zs0.length c0) zs1 (.slice A1 zs1.length c1) W ⟨A0, c0, rfl, rd0⟩ len0 bd0 ⟨A1, c1, rfl, rd1⟩ len1 bd1).mono fun e W' ⟨he, bel⟩ => ?_
  subst he
  exact ⟨_, rfl, _, _, _, [], _, [], hW', trodAll_mk1 (shut_bool Try.underlying4 _), (trodAll_cons_mk (Below.trod fnExactCostOfMoves_laid (by kernel_rfl) (of_decide_eq_true (by kernel_rfl)) k0 bel lt0) (trodAll_cons_mk (Below.trod fnExactCostOfMoves_laid (by kernel_rfl) (of_decide_eq_true (by kernel_rfl)) k1 bel lt1) trodAll_mk0)), rfl, bel.frame _, fun h => by cases h⟩
theorem fnExactCostOfMoves_holds : Rows.FnExactCostOfMovesSaid :=
  OpenClaim.holds_of_wide 4 Try.f4 rfl rfl rfl rfl rfl rfl rfl ⟨rfl, rfl, rfl, rfl, rfl⟩ rfl rfl rfl rfl rfl (by kernel_rfl) Try.func4 (by kernel_rfl)
    (of_decide_eq_true (by kernel_rfl)) (by unfold Func.isWrapper; first | (rw [if_pos (by decide +kernel)]; kernel_rfl) | (rw [if_neg (by decide +kernel)]; exact ⟨rfl, rfl⟩))
    (fun os started H enc _ => fnExactCostOfMoves_lifted os started H enc)
#print axioms fnExactCostOfMoves_holds
end Go.Proofs.Ythkohpidhkhkeaa
