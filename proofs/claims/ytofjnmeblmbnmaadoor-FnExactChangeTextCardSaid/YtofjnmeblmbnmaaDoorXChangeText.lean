/-
  The law FnExactChangeText returns true for every input. Condition: the listed tables of the library lie as their initialisers lay them.
-/
import Derived.Test.YtofjnmeblmbnmaaDoorTexA
import Derived.Test.YtofjnmeblmbnmaaDoorTabL
import Derived.Test.YtofjnmeblmbnmaaDoorLawH
import Derived.Test.YtofjnmeblmbnmaaDoorRows
import Derived.Test.YtofjnmeblmbnmaaDoorCards
import Derived.Test.YtofjnmeblmbnmaaDoorTie
import Derived.Test.YtofjnmeblmbnmaaDoorOpenW
import Derived.ProofKit
import Derived.OpenShut
import Derived.SevenTiedAt
namespace Go.Proofs.YtofjnmeblmbnmaaDoor
open Go.ChangeShapes Go.WideShapes Go.ChangeAt Go.RowKit
theorem xct_tab {w : World} (h : laidMet Tryd.prog Rows.fnExactChangeTextRow.laid w) : TabW w :=
  tabW_of (laid_reads h (by
    have e : (Lib.tabData .u64 Lib.pow10Tab : DataW Unit) = Rows.laid_internal_strconv_uint64pow10 := by kernel_rfl
    rw [e]
    simp [Rows.fnExactChangeTextRow]))
set_option maxRecDepth 100000 in
set_option maxHeartbeats 4000000 in
theorem xChangeText_walk (y : T3) (w : World) (hf : y.Fits) (hL : laidMet Tryd.prog Rows.fnExactChangeTextRow.laid w) :
    Calls Tryd.prog 4 #[.agg #[.int .i64 y.a, .int .i64 y.b, .int .i64 y.c]] w fun e w' => e = .returned (.bool true) ∧ Below w.heap.size w w' := by
  have HT := hide (xct_tab hL)
  have X0 := hide (BoxN.new w #[.int .i64 y.a, .int .i64 y.b, .int .i64 y.c] 39)
  have B0 := hide (show Below w.heap.size w (w.alloc (.cells #[.int .i64 y.a, .int .i64 y.b, .int .i64 y.c] 39)) from (Below.refl _ _).alloc (Nat.le_refl _) _)
  have HTO := hide fun W => toChange_any y W
  have HI := hide fun W (hW : Below w.heap.size w W) => implChangeText_any y W hf (HT.out.below hW)
  have HS := hide fun W => specChangeText_any y W hf
  clear hL hf
  generalize chgB y = S at *
  go_enter Tryd.func4, Tryd.ntmps4
  go_upto_region 1 with fail
  generalize hwA : w.alloc (.cells #[.int .i64 y.a, .int .i64 y.b, .int .i64 y.c] 39) = wA at *
  clear hwA
  have k0 := X0.out.cell 0
  have k1 := X0.out.cell 1
  have k2 := X0.out.cell 2
  have hgw := X0.out.lt
  go_upto_region 2 with (first | (go_at_call 22; (with_reducible refine (HTO.out _).mono ?_); rintro e w1 ⟨rfl, b1⟩) | (go_at_call 21; (with_reducible refine (HS.out _).mono ?_); rintro e w2 ⟨rfl, b2⟩))
  have X1 := hide (X0.out.below b1 hgw)
  have X2 := hide (X1.out.below b2 X1.out.lt)
  have B1 := hide (B0.out.trans (b1.mono B0.out.size))
  have B2 := hide (B1.out.trans (b2.mono B1.out.size))
  clear k0 k1 k2 b1 b2 X0 X1 B0 B1
  have k0 := X2.out.cell 0
  have k1 := X2.out.cell 1
  have k2 := X2.out.cell 2
  go_upto_region 3 with (first | (go_at_call 22; (with_reducible refine (HTO.out _).mono ?_); rintro e w3 ⟨rfl, b3⟩; have B3 := hide (B2.out.trans (b3.mono B2.out.size)); clear b3) | (go_at_call 23; (with_reducible refine (HI.out _ B3.out).mono ?_); rintro e w4 ⟨rfl, b4⟩))
  go_wp2_with fail
  go_ret
  exact ⟨rfl, B3.out.trans (b4.mono B3.out.size)⟩
theorem fnExactChangeText_own : ownKnob Tryd.prog.godebug = none := by kernel_rfl
/-- The cells that a listed table has. -/
def litCell : Lit → Value
  | .int k n => .int k n
  | _ => undef
def datCells : DataW Unit → Array Value
  | .agg l => (l.map fun | .lit x => litCell x | _ => undef).toArray
  | _ => #[]
/-- One world that fits: each listed table as its initialiser lays it. -/
noncomputable def laidWorld (os : Os) : World :=
  let w0 := World.holding Tryd.prog os ⟨#[], #[], []⟩
  { w0 with heap := Rows.fnExactChangeTextRow.laid.foldl (fun h x => match Tryd.prog.globalNamed x.1 with
      | some g => h.modify g fun
        | .cells _ t frozen => .cells (datCells x.2) t frozen
        | o => o
      | none => h) w0.heap }
theorem laidWorld_met (os : Os) (args : Array Value) : laidMet Tryd.prog Rows.fnExactChangeTextRow.laid ((laidWorld os).forCall (fun _ _ => 0) ⟨#[], args, []⟩).memory :=
  laidMet_of_run' 8 (by kernel_rfl) (by kernel_rfl)
theorem fnExactChangeText_laid : laidOutB Tryd.prog = true := by kernel_rfl
set_option maxRecDepth 100000 in
theorem fnExactChangeText_lifted (os : Os) (started : os.Started) (H : Type) (enc : TypeId × Value → H) :
    ReturnsInHanded {} Tryd.checked os 4 .any (fun w args => (Rows.fnExactChangeTextSpec.pre enc Tryd.prog Tryd.f4 Rows.fnExactChangeTextRow.domain false w args ∧ laidMet Tryd.prog Rows.fnExactChangeTextRow.laid w) ∧ sizedMet enc Tryd.prog Tryd.f4 (OpenSpec.ofChange Rows.fnExactChangeTextSpec) false w args) (Rows.fnExactChangeTextSpec.post enc Tryd.prog Tryd.f4 false true false false) := by
  refine returnsInHanded_of_change_and (C := Tryd.checked) (X := fun w _ => laidMet Tryd.prog Rows.fnExactChangeTextRow.laid w) (fun _ _ _ hh h => h.of_heap hh) fnExactChangeText_own started (by kernel_rfl) Tryd.func4
    (ChangeSpec.witness_at (enc := enc) (C := Tryd.checked) (os := os) (X := fun w _ => laidMet Tryd.prog Rows.fnExactChangeTextRow.laid w) false (laidWorld os) #[.agg #[.int .i64 0, .int .i64 0, .int .i64 0]] 8 rfl (by kernel_rfl) (by kernel_rfl) (by kernel_rfl) (by kernel_rfl) (by kernel_rfl) (laidWorld_met os _)) ?_
  intro W base args ds gs before hval0 hW hcnd _ hL _
  have hval : ∀ (j : Nat) t v, Tryd.f4.params[j]? = some t → args[j]? = some v → Value.okWide Tryd.prog W .any base t v := hval0
  have hW' := hW
  obtain ⟨p, q, hA0, hV, rfl, hfz, hnd⟩ := hW
  have hA : DataW.TrodAll enc Tryd.prog W 0 (fun _ => true) true Tryd.f4.params.toList args.toList ds p := hA0
  rw [Tryd.params4] at hA hval
  obtain ⟨v0, vs0, d0, ds0, p0, q0, hargs, rfl, rfl, h0, r0⟩ := trodAll_cons hA
  obtain ⟨rfl, rfl, rfl⟩ := trodAll_nil r0
  obtain rfl : args = #[v0] := by cases args; simp_all
  obtain ⟨rfl, rfl⟩ := trodVars_none hV
  have k0 := h0
  have lt0 : ∀ x ∈ p0, x.block < W.heap.size := by obtain ⟨m, hm⟩ := k0; exact DataW.trod_lt m _ _ _ hm
  obtain ⟨z0, rfl, bd0⟩ := open_V3 Tryd.underlying39 (by kernel_rfl) (by kernel_rfl) Tryd.underlying2 Tryd.underlying2 Tryd.underlying2 (hval 0 39 v0 rfl rfl) h0
  clear hA0 hval0
  refine (xChangeText_walk z0 W bd0 hL).mono fun e W' ⟨he, bel⟩ => ?_
  subst he
  exact ⟨_, rfl, _, _, _, [], _, [], hW', trodAll_mk1 (shut_bool Tryd.underlying4 _), (trodAll_cons_mk (Below.trod fnExactChangeText_laid (by kernel_rfl) (of_decide_eq_true (by kernel_rfl)) k0 bel lt0) trodAll_mk0), rfl, bel.frame _, fun h => by cases h⟩
theorem fnExactChangeText_holds : Rows.FnExactChangeTextSaid :=
  OpenClaim.holds_of_wide 4 Tryd.f4 rfl rfl rfl rfl rfl rfl rfl ⟨rfl, rfl, rfl, rfl, rfl⟩ rfl rfl rfl rfl rfl (by kernel_rfl) Tryd.func4 (by kernel_rfl)
    (of_decide_eq_true (by kernel_rfl)) (by unfold Func.isWrapper; first | (rw [if_pos (by decide +kernel)]; kernel_rfl) | (rw [if_neg (by decide +kernel)]; exact ⟨rfl, rfl⟩))
    (fun os started H enc _ => fnExactChangeText_lifted os started H enc)
theorem fnExactChangeText_card_holds : Rows.FnExactChangeTextCardSaid :=
  Claim7.holds_tied_plain_at .later [] [.data, .data, .data] true Rows.fnExactChangeTextCard.stood.harness false
    fnExactChangeText_holds (fun _ h => by cases h) (by kernel_rfl) (fun _ h => by cases h) fnExactChangeText_row_tie rfl ⟨rfl, rfl⟩ (by kernel_rfl) rfl
    (fun f fn hf hfn => by
      obtain rfl : f = 4 := Option.some.inj ((show Tryd.prog.funcNamed Rows.fnExactChangeTextRow.func = some 4 by kernel_rfl).symm.trans hf) |>.symm
      obtain rfl : fn = Tryd.f4 := (Option.some.inj (Tryd.func4.symm.trans hfn)).symm
      exact ⟨by kernel_rfl, fun j t ht => by
        rw [Tryd.params4] at ht
        have hm : t ∈ (Tryd.f4.params).toList := by
          rw [Tryd.params4]
          exact Array.mem_toList_iff.2 (Array.mem_of_getElem? ht)
        exact (of_decide_eq_true (by kernel_rfl) : ∀ t ∈ (Tryd.f4.params).toList, Tryd.prog.wantsStandIn t = false) t hm⟩)
    (by kernel_rfl)
#print axioms fnExactChangeText_card_holds
end Go.Proofs.YtofjnmeblmbnmaaDoor
