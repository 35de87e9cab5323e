/-
  The earliest start; in the reference.
-/
import Derived.Test.YtflbddfmhjlknaaRunF
namespace Go.Proofs.Ytflbddfmhjlknaa
open Go.RowKit

theorem meetAt_ge (ss tt : List T3) : decide (0 ≤ meetAt ss tt) = ss.any fun s => tt.any (meet s) := firstI_ge _ _ _
theorem fits_runs (ts way : List Int) (x : List TN) (f : Int) : fits ts (takenOf ts x) way f = x.all fun e => !decide (0 ≤ meetAt (spGo ts f way) (spansR ts e)) := by
  rw [Bool.eq_iff_iff, fits_iff, List.all_eq_true]
  constructor
  · intro h e he
    rw [meetAt_ge]
    simp only [Bool.not_eq_true']
    refine Bool.eq_false_iff.2 fun hc => ?_
    obtain ⟨s, hs, hs2⟩ := List.any_eq_true.1 hc
    obtain ⟨o, ho, ho2⟩ := List.any_eq_true.1 hs2
    have := h s hs o (List.mem_flatMap.2 ⟨e, he, ho⟩)
    rw [this] at ho2; cases ho2
  · intro h s hs o ho
    obtain ⟨e, he, hoe⟩ := List.mem_flatMap.1 ho
    have h2 := h e he
    rw [meetAt_ge] at h2
    cases hm : meet s o
    · rfl
    · rw [show (spGo ts f way).any (fun s => (spansR ts e).any (meet s)) = true from List.any_eq_true.2 ⟨s, hs, List.any_eq_true.2 ⟨o, hoe, hm⟩⟩] at h2
      cases h2
theorem candJ_drop {ts way : List Int} {o : T3} {j : Nat} {t bf : Int} (h : way[j]? = some t) : candJ ts o bf (way.drop j) = if t = o.a then (o.c - bf) :: candJ ts o (bf + tmOf ts t) (way.drop (j + 1)) else candJ ts o (bf + tmOf ts t) (way.drop (j + 1)) := by rw [drop_cons h, candJ]
def cands (ts way : List Int) (tk : List T3) : List Int := tk.flatMap fun o => candJ ts o 0 way
theorem cands_run (ts way : List Int) (z : TN) (l : List TN) : cands ts way (takenOf ts (z :: l)) = cands ts way (spGo ts z.p z.way) ++ cands ts way (takenOf ts l) := by
  unfold cands takenOf
  rw [List.flatMap_cons, List.flatMap_append]; rfl
theorem cands_cons (ts way : List Int) (s : T3) (ss : List T3) : cands ts way (s :: ss) = candJ ts s 0 way ++ cands ts way ss := by
  unfold cands
  rw [List.flatMap_cons]
end Go.Proofs.Ytflbddfmhjlknaa
