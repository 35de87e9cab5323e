/-
  Drawn times and ways.
-/
import Derived.Test.YtofjnmeblmbnmaaSrc2
import Derived.Test.YtofjnmeblmbnmaaRunD
namespace Go.Proofs.Ytofjnmeblmbnmaa
open Go.RowKit

theorem row_only {w w' : World} {lo hi base : Nat} {e : TypeId} {s n : Nat} {v : Value} {xs : List Value} (h : w.ownsRow base e s v n xs) (k : Only lo hi w w') (hd : hi ≤ base) : w'.ownsRow base e s v n xs := by
  refine ⟨h.1, ?_⟩
  rcases h.2 with h0 | ⟨g, cap, cur, he, hb, hg, rest⟩
  · exact .inl h0
  · exact .inr ⟨g, cap, cur, he, hb, (k.2.2.2.2 g (lt_of_block hg) (by omega)).trans hg, rest⟩
theorem only_app {lo hi base : Nat} {w0 w w' : World} {e : TypeId} {s n : Nat} {v : Value} {xs : List Value} (h : Only lo hi w0 w) (ho : w.ownsRow base e s v n xs) (hg : w.grownBy w' v.ownBlock) (hB : w0.heap.size ≤ base) : Only lo hi w0 w' :=
  ⟨hg.os.trans h.1, hg.tape.trans h.2.1, hg.output.trans h.2.2.1, Nat.le_trans h.size hg.size, fun i hi' ho' => (hg.block i (Nat.lt_of_lt_of_le hi' h.size) (fun e => by have := (ho.lt i e.symm).1; omega)).trans (h.2.2.2.2 i hi' ho')⟩
theorem only_alloc {lo hi : Nat} {w0 w : World} (h : Only lo hi w0 w) (o : Obj) : Only lo hi w0 (w.alloc o) := only_trans h (only_of_below ((Below.refl _ _).alloc (Nat.le_refl _) o))
theorem SrcAt.grown {b : Nat} {bs : List Int} {N : Int} {W W' : World} {row : Option Nat} (h : SrcAt b bs N W) (hg : W.grownBy W' row) (hr : ∀ g, row = some g → b < g) : SrcAt b bs N W' :=
  h.below (B := b + 1) ⟨hg.os, hg.tape, hg.output, hg.size, fun k hk => hg.block k (by have := h.lt; omega) (fun e => by have := hr k e.symm; omega)⟩ (Nat.lt_succ_self b)
theorem SrcAt.alloc {b : Nat} {bs : List Int} {N : Int} {W : World} (h : SrcAt b bs N W) (o : Obj) : SrcAt b bs N (W.alloc o) := h.below ((Below.refl _ _).alloc (Nat.le_refl _) o) h.lt
end Go.Proofs.Ytofjnmeblmbnmaa
