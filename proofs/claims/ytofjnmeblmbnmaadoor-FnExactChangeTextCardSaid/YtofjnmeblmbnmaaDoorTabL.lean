/-
  The table of powers of ten out of a row's list of laid variables.
-/
import Derived.Test.YtofjnmeblmbnmaaDoorDecA
import Derived.Lib.LaidTab
import Derived.LaidLaws
namespace Go.Proofs.YtofjnmeblmbnmaaDoor
open Go.RowKit
/-- One listed variable's reading. -/
def ReadsV (w : World) (n : String) (d : DataW Unit) : Prop :=
  ∃ g t cs fuel p, (Tryd.prog).globalNamed n = some g ∧ ((Tryd.prog).globals[g]?).map (·.type) = some t ∧ w.var? Tryd.prog n = some cs ∧ DataW.trod (fun _ => ()) Tryd.prog w 0 (fun _ => true) false fuel t cs.toList = some (d, p)
theorem laidVars_reads {w : World} : ∀ {l : List (String × DataW Unit)} {ps : List MemPlace}, DataW.LaidVars Tryd.prog w l ps → ∀ n d, (n, d) ∈ l → ReadsV w n d
  | [], _, _, _, _, hm => by cases hm
  | (n', d') :: r, ps, h, n, d, hm => by
    obtain ⟨g, t, cs, fuel, p, q, h1, h2, h3, h4, h5, _⟩ := h
    rcases List.mem_cons.1 hm with e | e
    · cases e
      exact ⟨g, t, cs, fuel, p, h1, h2, h3, h4⟩
    · exact laidVars_reads h5 n d e
theorem laid_reads {w : World} {l : List (String × DataW Unit)} (h : laidMet Tryd.prog l w) {n : String} {d : DataW Unit} (hm : (n, d) ∈ l) : ReadsV w n d :=
  let ⟨_, hv, _⟩ := h
  laidVars_reads hv n d hm
theorem tab_of_reads {w : World} {n : String} {k : IntKind} {zs : List Int} {g : Nat} {t e : TypeId} {m : Nat} (hg : (Tryd.prog).globalNamed n = some g) (hty : ((Tryd.prog).globals[g]?).map (·.type) = some t) (ht : (Tryd.prog).underlying t = some (.array m e)) (he : (Tryd.prog).underlying e = some (.int k)) (hce : (Tryd.prog).cellsOf e = 1) (hct : (Tryd.prog).cellsOf t = m)
    (h : ReadsV w n (Lib.tabData k zs)) : Lib.TabIs Tryd.prog w n k zs := by
  obtain ⟨g', t', cs, fuel, p, hg', ht', hvar, hd⟩ := h
  obtain rfl := Option.some.inj (hg.symm.trans hg')
  obtain rfl := Option.some.inj (hty.symm.trans ht')
  unfold Lib.TabIs
  rw [hvar, ← Lib.cells_of_tab ht he hce hct hd]
theorem tabW_of {w : World} (h : ReadsV w "internal/strconv.uint64pow10" (Lib.tabData .u64 Lib.pow10Tab)) : TabW w :=
  tab_of_reads (g := 1) (t := 142) (e := 116) (m := 20) (by kernel_rfl) (by kernel_rfl) Tryd.underlying142 Tryd.underlying116 (by kernel_rfl) (by kernel_rfl) h
end Go.Proofs.YtofjnmeblmbnmaaDoor
