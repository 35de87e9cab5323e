/-
  What a row's list of laid variables gives: one variable's reading; tables.
  The table of powers of ten out of a row's list of laid variables.
  What the texts' functions ask of the world, out of a row's list of laid variables and of the world's shape; and the row's wrap that hands both over.
  The law FnRides returns true for every input. Condition: the listed variables of the library lie as their initialisers lay them.
-/
import Derived.Test.YtaajkmjilcamgaaGreatDoorQRides1
import Derived.Lib.LaidTab
import Derived.LaidLaws
import Derived.Test.YtaajkmjilcamgaaGreatDoorQRides2
import Derived.Test.YtaajkmjilcamgaaGreatDoorQRides3
import Derived.Stop.LaidErr
import Derived.Handed
import Derived.SizedLaws
import Derived.Shelf.Vars
import Derived.Test.YtaajkmjilcamgaaGreatDoorQRides16
import Derived.Test.YtaajkmjilcamgaaGreatDoorRows
import Derived.Test.YtaajkmjilcamgaaGreatDoorCards
import Derived.Test.YtaajkmjilcamgaaGreatDoorTie
import Derived.Test.YtaajkmjilcamgaaGreatDoorQRides8
import Derived.ProofKit
import Derived.OpenShut
import Derived.SevenTiedAt
import Derived.Deep.DeepLaidRun
namespace Go.Proofs.YtaajkmjilcamgaaGreatDoor
open Go.RowKit
/-- One listed variable's reading. -/
def ReadsV (w : World) (n : String) (d : DataW Unit) : Prop :=
  ∃ g t cs fuel p, (Tryz.prog).globalNamed n = some g ∧ ((Tryz.prog).globals[g]?).map (·.type) = some t ∧ w.var? Tryz.prog n = some cs ∧ DataW.trod (fun _ => ()) Tryz.prog w 0 (fun _ => true) false fuel t cs.toList = some (d, p)
theorem laidVars_reads {w : World} : ∀ {l : List (String × DataW Unit)} {ps : List MemPlace}, DataW.LaidVars Tryz.prog w l ps → ∀ n d, (n, d) ∈ l → ReadsV w n d
  | [], _, _, _, _, hm => by cases hm
  | (n', d') :: r, ps, h, n, d, hm => by
    obtain ⟨g, t, cs, fuel, p, q, h1, h2, h3, h4, h5, _⟩ := h
    rcases List.mem_cons.1 hm with e | e
    · cases e
      exact ⟨g, t, cs, fuel, p, h1, h2, h3, h4⟩
    · exact laidVars_reads h5 n d e
theorem laid_reads {w : World} {l : List (String × DataW Unit)} (h : laidMet Tryz.prog l w) {n : String} {d : DataW Unit} (hm : (n, d) ∈ l) : ReadsV w n d :=
  let ⟨_, hv, _⟩ := h
  laidVars_reads hv n d hm
theorem tab_of_reads {w : World} {n : String} {k : IntKind} {zs : List Int} {g : Nat} {t e : TypeId} {m : Nat} (hg : (Tryz.prog).globalNamed n = some g) (hty : ((Tryz.prog).globals[g]?).map (·.type) = some t) (ht : (Tryz.prog).underlying t = some (.array m e)) (he : (Tryz.prog).underlying e = some (.int k)) (hce : (Tryz.prog).cellsOf e = 1) (hct : (Tryz.prog).cellsOf t = m)
    (h : ReadsV w n (Lib.tabData k zs)) : Lib.TabIs Tryz.prog w n k zs := by
  obtain ⟨g', t', cs, fuel, p, hg', ht', hvar, hd⟩ := h
  obtain rfl := Option.some.inj (hg.symm.trans hg')
  obtain rfl := Option.some.inj (hty.symm.trans ht')
  unfold Lib.TabIs
  rw [hvar, ← Lib.cells_of_tab ht he hce hct hd]
end Go.Proofs.YtaajkmjilcamgaaGreatDoor
namespace Go.Proofs.YtaajkmjilcamgaaGreatDoor
open Go.RowKit
theorem tabW_of {w : World} (h : ReadsV w "internal/strconv.uint64pow10" (Lib.tabData .u64 Lib.pow10Tab)) : TabW w :=
  tab_of_reads (g := 3) (t := 166) (e := 96) (m := 20) (by kernel_rfl) (by kernel_rfl) Tryz.underlying166 Tryz.underlying96 (by kernel_rfl) (by kernel_rfl) h
end Go.Proofs.YtaajkmjilcamgaaGreatDoor
namespace Go.Proofs.YtaajkmjilcamgaaGreatDoor
open Go.ChangeShapes Go.WideShapes Go.RowKit
theorem gES : (Tryz.prog).globalNamed "strconv.ErrSyntax" = some 1 := by kernel_rfl
theorem gESType : (Tryz.prog.globals[1]?).map (·.type) = some 103 := by kernel_rfl
theorem cellsErr : Tryz.prog.cellsOf 176 = 1 := by kernel_rfl
theorem cellsStr : Tryz.prog.cellsOf 9 = 1 := by kernel_rfl
theorem starErr : "*" ++ "errors.errorString" = "*errors.errorString" := by decide
theorem rowErr (u : TypeId) (h : Tryz.prog.typeName? 3 u = some "*errors.errorString") : u = 174 :=
  typeName_ptr_named (nm := "errors.errorString") (by rw [starErr]; kernel_rfl) (by kernel_rfl) (by decide) u (by rw [starErr]; exact h)
theorem txtW_of {w : World} {x0 x1 x3 x4 : String × DataW Unit} {text : List UInt8} {r : List (String × DataW Unit)}
    (h : laidMet Tryz.prog (x0 :: x1 :: ("internal/strconv.uint64pow10", Lib.tabData .u64 Lib.pow10Tab) :: x3 :: x4 :: ("strconv.ErrSyntax", .iface "*errors.errorString" (.ptr (.agg [.lit (.string text)]))) :: r) w) (hsh : w.ShapedOpen Tryz.prog) : TxtW w := by
  obtain ⟨a0, s0, hv0, _, _, _⟩ := laid_sentinel h.tail.tail.tail.tail.tail gES gESType Tryz.underlying103 rowErr Tryz.underlying174 Tryz.underlying176 rfl rfl Tryz.underlying9 cellsErr cellsStr
  have h0 : w.cell? ⟨1, 0, none⟩ = some (.iface 174 (.pointer (some a0))) := by simpa using World.var?_cell gES hv0 0
  exact ⟨tabW_of (laid_reads h (by simp)), YtaajkmjilcamgaaGreatDoor.splitLay.s1_3 w hsh, _, _, h0⟩
/-- The row's wrap: the list of laid variables and the world's shape are handed over. -/
theorem inHanded_shaped_and {H : Type} {enc : TypeId × Value → H} {a : Assume} {C : Checked} {os : Os} {f : FuncId} {fn : Func} {s : ChangeSpec} {conds : List PathCond} {apart fresh handsOn again : Bool} {X : World → Array Value → Prop}
    (hX : ∀ (w w' : World) (args : Array Value), w.heap = w'.heap → X w args → X w' args)
    (own : ownKnob C.prog.godebug = none) (started : os.Started) (noInit : C.prog.inits.idxOf? f = none) (hfn : C.prog.funcs[f]? = some fn)
    (witness : ∃ (w : World) (tape : Tape) (i : Input), w.os = os ∧ (w.forCall tape i).Shaped C.prog ∧ i.vars = [] ∧ Input.okWide C.prog (w.forCall tape i) .any w.heap.size f i ∧
      ((s.pre enc C.prog fn conds apart (w.forCall tape i).memory i.args ∧ X (w.forCall tape i).memory i.args) ∧ sizedMet enc C.prog fn (OpenSpec.ofChange s) apart (w.forCall tape i).memory i.args) ∧ a.holds C.prog (lone (Frame.enter C.prog f i.args .normal) [] (w.forCall tape i)))
    (contract : ∀ (W : World) (base : Nat) (args : Array Value) (ds gs : List (DataW H)) (before : List MemPlace),
      (∀ (j : Nat) t v, fn.params[j]? = some t → args[j]? = some v → Value.okWide C.prog W .any base t v) →
      DataW.Whole enc C.prog fn.params.toList s.vars apart W args.toList ds gs before →
      conds.all (PathCond.test C.prog ⟨fn.params.toList, ds, s.plain.varTypes C.prog, gs⟩) = true →
      (DataW.weightsEach C.prog (fn.params.toList ++ s.plain.varTypes C.prog) (ds ++ gs)).all (· ≤ reachBytes) = true → X W args → W.ShapedOpen C.prog →
      a.holds C.prog (lone (Frame.enter C.prog f args .normal) [] W) →
      Calls C.prog f args W fun e W' => ∃ v, e = .returned v ∧ s.post enc C.prog fn apart fresh handsOn again W args v W') :
    ReturnsInHanded a C os f .any (fun w args => (s.pre enc C.prog fn conds apart w args ∧ X w args) ∧ sizedMet enc C.prog fn (OpenSpec.ofChange s) apart w args) (s.post enc C.prog fn apart fresh handsOn again) := by
  refine returnsInHanded_of_calls own started noInit witness ?_
  intro w tape i _ hsh _ hok hpre hholds
  obtain ⟨_, _, _, fn', hfn', _, _, _, _, hval⟩ := hok
  have e : fn' = fn := Option.some.inj (hfn'.symm.trans hfn)
  subst e
  obtain ⟨⟨⟨ds, gs, before, hw, hc⟩, hx⟩, hz⟩ := hpre
  have hw' := DataW.Whole.of_heap (w' := w.forCall tape i) (by rfl) hw
  refine (contract (w.forCall tape i) w.heap.size i.args ds gs before hval hw' hc (hz.weights hw) (hX _ _ _ (by rfl) hx) hsh hholds).mono fun e W' ⟨v, he, hp⟩ => ?_
  subst he
  exact ChangeSpec.post_blind hp
end Go.Proofs.YtaajkmjilcamgaaGreatDoor
namespace Go.Proofs.YtaajkmjilcamgaaGreatDoor
open Go.ChangeShapes Go.WideShapes Go.ChangeAt Go.RowKit
theorem fnRides_own : ownKnob Tryz.prog.godebug = none := by kernel_rfl
/-- The cells that a listed table has. -/
def litCell : Lit → Value
  | .int k n => .int k n
  | _ => undef
def datPart : DataW Unit → List Value
  | .lit x => [litCell x]
  | .agg l => l.map fun | .lit x => litCell x | _ => undef
  | _ => []
/-- A listed error's text. -/
def errText : DataW Unit → ByteArray
  | .iface _ (.ptr (.agg [.lit (.string b)])) => ⟨b.toArray⟩
  | _ => ⟨#[]⟩
/-- So many blocks has the settled world. -/
noncomputable def lowB : Nat := (World.holding Tryz.prog default ⟨#[], #[], []⟩).heap.size
noncomputable def datCells (n : String) : DataW Unit → Array Value
  | .agg l => (l.flatMap datPart).toArray
  | .iface _ _ => if n = "strconv.ErrRange" then #[.iface 174 (.pointer (some ⟨lowB, 0, none⟩))] else #[.iface 174 (.pointer (some ⟨lowB + 1, 0, none⟩))]
  | _ => #[]
/-- One world that fits: each listed variable as its initialiser lays it, the errors' texts in blocks of their own. -/
noncomputable def laidWorld (os : Os) : World :=
  let w0 := World.holding Tryz.prog os ⟨#[.cells #[.string (errText Rows.laid_strconv_ErrRange)] 176, .cells #[.string (errText Rows.laid_strconv_ErrSyntax)] 176], #[], []⟩
  { w0 with heap := Rows.fnRidesRow.laid.foldl (fun h x => match Tryz.prog.globalNamed x.1 with
      | some g => h.modify g fun
        | .cells _ t frozen => .cells (datCells x.1 x.2) t frozen
        | o => o
      | none => h) w0.heap }
theorem laidWorld_met (os : Os) (args : Array Value) : laidMet Tryz.prog Rows.fnRidesRow.laid ((laidWorld os).forCall (fun _ _ => 0) ⟨#[], args, []⟩).memory :=
  laidMet_of_run3 8 (by kernel_rfl) (by kernel_rfl) (by kernel_rfl)
theorem fnRides_laid : laidOutB Tryz.prog = true := by kernel_rfl
set_option maxRecDepth 100000 in
theorem fnRides_lifted (os : Os) (started : os.Started) (H : Type) (enc : TypeId × Value → H) :
    ReturnsInHanded {} Tryz.checked os 4 .any (fun w args => (Rows.fnRidesSpec.pre enc Tryz.prog Tryz.f4 Rows.fnRidesRow.domain false w args ∧ laidMet Tryz.prog Rows.fnRidesRow.laid w) ∧ sizedMet enc Tryz.prog Tryz.f4 (OpenSpec.ofChange Rows.fnRidesSpec) false w args) (Rows.fnRidesSpec.post enc Tryz.prog Tryz.f4 false true false false) := by
  refine inHanded_shaped_and (C := Tryz.checked) (X := fun w _ => laidMet Tryz.prog Rows.fnRidesRow.laid w) (fun _ _ _ hh h => h.of_heap hh) fnRides_own started (by kernel_rfl) Tryz.func4
    (ChangeSpec.witness_at (enc := enc) (C := Tryz.checked) (os := os) (X := fun w _ => laidMet Tryz.prog Rows.fnRidesRow.laid w) false (laidWorld os) #[.slice none 0 0] 8 rfl (by kernel_rfl) (by kernel_rfl) (by kernel_rfl) (by kernel_rfl) (by kernel_rfl) (laidWorld_met os _)) ?_
  intro W base args ds gs before hval0 hW hcnd _ hL hsh _
  have hval : ∀ (j : Nat) t v, Tryz.f4.params[j]? = some t → args[j]? = some v → Value.okWide Tryz.prog W .any base t v := hval0
  have hW' := hW
  obtain ⟨p, q, hA0, hV, rfl, hfz, hnd⟩ := hW
  have hA : DataW.TrodAll enc Tryz.prog W 0 (fun _ => true) true Tryz.f4.params.toList args.toList ds p := hA0
  rw [Tryz.params4] at hA hval
  obtain ⟨v0, vs0, d0, ds0, p0, q0, hargs, rfl, rfl, h0, r0⟩ := trodAll_cons hA
  obtain ⟨rfl, rfl, rfl⟩ := trodAll_nil r0
  obtain rfl : args = #[v0] := by cases args; simp_all
  obtain ⟨rfl, rfl⟩ := trodVars_none hV
  have k0 := h0
  have lt0 : ∀ x ∈ p0, x.block < W.heap.size := by obtain ⟨m, hm⟩ := k0; exact DataW.trod_lt m _ _ _ hm
  obtain ⟨A0, c0, zs0, rfl, rd0, len0, bd0⟩ := open_B Tryz.underlying22 Tryz.underlying5 (by kernel_rfl) (hval 0 22 v0 rfl rfl) h0
  clear hA0 hval0
  refine (lRides_walk zs0 (.slice A0 zs0.length c0) W ⟨A0, c0, rfl, rd0⟩ len0 bd0 (txtW_of hL hsh)).mono fun e W' ⟨he, bel⟩ => ?_
  subst he
  exact ⟨_, rfl, _, _, _, [], _, [], hW', trodAll_mk1 (shut_bool Tryz.underlying4 _), (trodAll_cons_mk (Below.trod fnRides_laid (by kernel_rfl) (of_decide_eq_true (by kernel_rfl)) k0 bel lt0) trodAll_mk0), rfl, bel.frame _, fun h => by cases h⟩
theorem fnRides_holds : Rows.FnRidesSaid :=
  OpenClaim.holds_of_wide 4 Tryz.f4 rfl rfl rfl rfl rfl rfl rfl ⟨rfl, rfl, rfl, rfl, rfl⟩ rfl rfl rfl rfl rfl (by kernel_rfl) Tryz.func4 (by kernel_rfl)
    (of_decide_eq_true (by kernel_rfl)) (by unfold Func.isWrapper; first | (rw [if_pos (by decide +kernel)]; kernel_rfl) | (rw [if_neg (by decide +kernel)]; exact ⟨rfl, rfl⟩))
    (fun os started H enc _ => fnRides_lifted os started H enc)
theorem fnRides_card_holds : Rows.FnRidesCardSaid :=
  Claim7.holds_tied_plain_at .later [] [.data, .data, .data, .data, .sentinel, .sentinel, .pinned] true Rows.fnRidesCard.stood.harness true
    fnRides_holds (fun _ h => by cases h) (by kernel_rfl) (fun _ h => by cases h) fnRides_row_tie rfl ⟨rfl, rfl⟩ (by kernel_rfl) rfl
    (fun f fn hf hfn => by
      obtain rfl : f = 4 := Option.some.inj ((show Tryz.prog.funcNamed Rows.fnRidesRow.func = some 4 by kernel_rfl).symm.trans hf) |>.symm
      obtain rfl : fn = Tryz.f4 := (Option.some.inj (Tryz.func4.symm.trans hfn)).symm
      exact ⟨by kernel_rfl, fun j t ht => by
        rw [Tryz.params4] at ht
        have hm : t ∈ (Tryz.f4.params).toList := by
          rw [Tryz.params4]
          exact Array.mem_toList_iff.2 (Array.mem_of_getElem? ht)
        exact (of_decide_eq_true (by kernel_rfl) : ∀ t ∈ (Tryz.f4.params).toList, Tryz.prog.wantsStandIn t = false) t hm⟩)
    (by kernel_rfl)
#print axioms fnRides_card_holds
end Go.Proofs.YtaajkmjilcamgaaGreatDoor
