/-
  Times, ways, runs and wishes: which are valid; in the program and in the reference.
-/
import Derived.Test.YtofjnmeblmbnmaaNestL
import Derived.Test.YtofjnmeblmbnmaaRunP
import Derived.Test.YtofjnmeblmbnmaaInts
namespace Go.Proofs.Ytofjnmeblmbnmaa
open Go.RowKit

def okTimes (ts : List Int) : Bool := inB 1 24 ts.length && ts.all (inB 1 1000)
def okWayB (ts way : List Int) : Bool := inB 1 12 way.length && way.all (inB 0 ((ts.length : Int) - 1))
def okWishB (ts : List Int) (e : TN) : Bool := okWayB ts e.way && (inB 0 10000 e.p && inB 0 10000 e.q)
def okRunB (ts : List Int) (e : TN) : Bool := okWayB ts e.way && inB 0 100000 e.p
def vWishes (ts : List Int) (l : List TN) : Bool := okTimes ts && (decide (l.length ≤ 6) && l.all (okWishB ts))
def vRuns (ts : List Int) (l : List TN) : Bool := okTimes ts && (decide (l.length ≤ 12) && l.all (okRunB ts))
theorem okTimes_iff {ts : List Int} : okTimes ts = true ↔ OkTimes ts := by
  unfold okTimes OkTimes
  rw [Bool.and_eq_true, inB_iff, List.all_eq_true]
  constructor
  · intro h; exact ⟨⟨by omega, by omega⟩, fun z hz => inB_iff.1 (h.2 z hz)⟩
  · intro h; exact ⟨⟨by omega, by omega⟩, fun z hz => inB_iff.2 (h.2 z hz)⟩
theorem okWay_iff {ts way : List Int} : okWayB ts way = true ↔ OkWay ts way := by
  unfold okWayB OkWay
  rw [Bool.and_eq_true, inB_iff, List.all_eq_true]
  constructor
  · intro h; exact ⟨⟨by omega, by omega⟩, fun z hz => inB_iff.1 (h.2 z hz)⟩
  · intro h; exact ⟨⟨by omega, by omega⟩, fun z hz => inB_iff.2 (h.2 z hz)⟩
def OkWish (ts : List Int) (e : TN) : Prop := OkWay ts e.way ∧ (0 ≤ e.p ∧ e.p ≤ 10000) ∧ (0 ≤ e.q ∧ e.q ≤ 10000)
def OkRun (ts : List Int) (e : TN) : Prop := OkWay ts e.way ∧ (0 ≤ e.p ∧ e.p ≤ 100000)
theorem vWishes_iff {ts : List Int} {l : List TN} : vWishes ts l = true ↔ OkTimes ts ∧ l.length ≤ 6 ∧ ∀ e ∈ l, OkWish ts e := by
  unfold vWishes OkWish okWishB
  simp only [Bool.and_eq_true, okTimes_iff, decide_eq_true_eq, List.all_eq_true, okWay_iff, inB_iff]
theorem vRuns_iff {ts : List Int} {l : List TN} : vRuns ts l = true ↔ OkTimes ts ∧ l.length ≤ 12 ∧ ∀ e ∈ l, OkRun ts e := by
  unfold vRuns OkRun okRunB
  simp only [Bool.and_eq_true, okTimes_iff, decide_eq_true_eq, List.all_eq_true, okWay_iff, inB_iff]
end Go.Proofs.Ytofjnmeblmbnmaa
