/-
  The law FnExactValidStock returns true for every slice of int64. No condition.
-/
import Derived.Test.YtgkmgncenljdaaaCarS
import Derived.Test.YtgkmgncenljdaaaRows
import Derived.Test.YtgkmgncenljdaaaOpenW
import Derived.ProofKit
import Derived.OpenShut
namespace Go.Proofs.Ytgkmgncenljdaaa
open Go.ChangeShapes Go.WideShapes Go.ChangeAt Go.RowKit

set_option maxRecDepth 100000 in
set_option maxHeartbeats 1000000 in
theorem validStock_walk (zs : List Int) (A : Option Addr) (c : Nat) (w : World) (hx : zs.length ≤ 9223372036854775807) (h1 : RdI w w.heap.size A zs) (_ : ∀ z ∈ zs, -9223372036854775808 ≤ z ∧ z ≤ 9223372036854775807) :
    Calls Try.prog 3 #[.slice A zs.length c] w fun e w' => e = .returned (.bool true) ∧ Below w.heap.size w w' := by
  by_cases hbig : 1048576 < zs.length
  · clear h1
    go_enter Try.func3, Try.ntmps3
    go_wp2_with fail
    go_ret
    exact ⟨rfl, Below.refl _ _⟩
  · have hs : zs.length ≤ 1048576 := by omega
    have HT := hide fun W (hW : Below w.heap.size w W) => toInt64S_any zs A c W hs ((h1.below hW).more hW.size)
    have HV := hide (show (vStock zs != vStock zs) = false by simp)
    have HE := hide (show decide (zs = zs) = true by simp)
    clear h1
    go_enter Try.func3, Try.ntmps3
    go_wp2_with fail
    refine (HT.out _ (Below.refl _ _)).mono ?_
    rintro e w1 ⟨A1, c1, rfl, ho1, hb1⟩
    go_wp2_with fail
    refine (specValidStock_any zs A1 c1 _ hs (RdI.of_own ho1)).mono ?_
    rintro e w' ⟨rfl, rfl⟩
    go_wp2_with fail
    refine (HT.out _ hb1).mono ?_
    rintro e w2 ⟨A2, c2, rfl, ho2, hb2⟩
    go_wp2_with fail
    refine (implValidStock_any zs A2 c2 _ hs (RdI.of_own ho2)).mono ?_
    rintro e w3 ⟨rfl, hb3⟩
    have hV := HV.out
    go_wp2_with fail
    clear hV
    have hb13 := hb1.trans ((hb2.trans (hb3.mono hb2.size)).mono hb1.size)
    refine (HT.out _ hb13).mono ?_
    rintro e w4 ⟨A4, c4, rfl, ho4, hb4⟩
    go_wp2_with fail
    refine (eqInt64S_any zs zs A2 A4 c2 c4 _ hx hx ((((RdI.of_own ho2).below hb3).more hb3.size).below hb4 |>.more hb4.size) (RdI.of_own ho4)).mono ?_
    rintro e w5 ⟨rfl, hb5⟩
    have hE := HE.out
    go_wp2_with fail
    go_ret
    exact ⟨rfl, hb13.trans ((hb4.trans (hb5.mono hb4.size)).mono hb13.size)⟩

theorem fnExactValidStock_own : ownKnob Try.prog.godebug = none := by kernel_rfl
theorem fnExactValidStock_laid : laidOutB Try.prog = true := by kernel_rfl
set_option maxRecDepth 100000 in
theorem fnExactValidStock_lifted (os : Os) (started : os.Started) (H : Type) (enc : TypeId × Value → H) :
    ReturnsInHanded {} Try.checked os 3 .any (Rows.fnExactValidStockSpec.pre6 enc Try.prog Try.f3 Rows.fnExactValidStockRow.domain false) (Rows.fnExactValidStockSpec.post enc Try.prog Try.f3 false true false false) := by
  refine returnsInHanded_of_change (C := Try.checked) fnExactValidStock_own started (by kernel_rfl) Try.func3
    (ChangeSpec.witness6 (enc := enc) (C := Try.checked) false ⟨#[], #[.slice none 0 0], []⟩ 8 (by kernel_rfl) (by kernel_rfl) (by kernel_rfl) (by kernel_rfl)) ?_
  intro W base args ds gs before hval0 hW hcnd _
  have hval : ∀ (j : Nat) t v, Try.f3.params[j]? = some t → args[j]? = some v → Value.okWide Try.prog W .any base t v := hval0
  have hW' := hW
  obtain ⟨p, q, hA0, hV, rfl, hfz, hnd⟩ := hW
  have hA : DataW.TrodAll enc Try.prog W 0 (fun _ => true) true Try.f3.params.toList args.toList ds p := hA0
  rw [Try.params3] at hA hval
  obtain ⟨v0, vs0, d0, ds0, p0, q0, hargs, rfl, rfl, h0, r0⟩ := trodAll_cons hA
  obtain ⟨rfl, rfl, rfl⟩ := trodAll_nil r0
  obtain rfl : args = #[v0] := by cases args; simp_all
  obtain ⟨rfl, rfl⟩ := trodVars_none hV
  have k0 := h0
  have lt0 : ∀ x ∈ p0, x.block < W.heap.size := by obtain ⟨m, hm⟩ := k0; exact DataW.trod_lt m _ _ _ hm
  obtain ⟨A0, c0, zs0, rfl, rd0, len0, bd0⟩ := open_I Try.underlying22 Try.underlying2 (by kernel_rfl) (hval 0 22 v0 rfl rfl) h0
  clear hA0 hval0
  refine (validStock_walk zs0 A0 c0 W len0 rd0 bd0).mono fun e W' ⟨he, bel⟩ => ?_
  subst he
  exact ⟨_, rfl, _, _, _, [], _, [], hW', trodAll_mk1 (shut_bool Try.underlying4 _), (trodAll_cons_mk (Below.trod fnExactValidStock_laid (by kernel_rfl) (of_decide_eq_true (by kernel_rfl)) k0 bel lt0) trodAll_mk0), rfl, bel.frame _, fun h => by cases h⟩
theorem fnExactValidStock_holds : Rows.FnExactValidStockSaid :=
  OpenClaim.holds_of_wide 3 Try.f3 rfl rfl rfl rfl rfl rfl rfl ⟨rfl, rfl, rfl, rfl, rfl⟩ rfl rfl rfl rfl rfl (by kernel_rfl) Try.func3 (by kernel_rfl)
    (of_decide_eq_true (by kernel_rfl)) (by unfold Func.isWrapper; first | (rw [if_pos (by decide +kernel)]; kernel_rfl) | (rw [if_neg (by decide +kernel)]; exact ⟨rfl, rfl⟩))
    (fun os started H enc _ => fnExactValidStock_lifted os started H enc)
#print axioms fnExactValidStock_holds
end Go.Proofs.Ytgkmgncenljdaaa
