/-
  Drawn runs.
-/
import Derived.Test.YtflbddfmhjlknaaSrc5
namespace Go.Proofs.Ytflbddfmhjlknaa
open Go.RowKit

/-- A drawn run, for n tubes. -/
def RDrawn (n : Nat) (e : TN) : Prop := ((1 ≤ e.way.length ∧ e.way.length ≤ 4) ∧ ∀ z ∈ e.way, 0 ≤ z ∧ z ≤ (n : Int) - 1) ∧ (0 ≤ e.p ∧ e.p ≤ 49) ∧ e.q = 0
theorem small_runs {n : Nat} : ∀ {l : List TN}, (∀ e ∈ l, RDrawn n e) → (l.map fun e => e.way.length).sum ≤ 4 * l.length := by
  intro l
  induction l with
  | nil => intro _; simp
  | cons e l ih =>
    intro h
    rw [List.map_cons, List.sum_cons, List.length_cons]
    have h1 := (h e (List.mem_cons_self ..)).1.1.2
    have h2 := ih fun x hx => h x (List.mem_cons_of_mem _ hx)
    omega
end Go.Proofs.Ytflbddfmhjlknaa
