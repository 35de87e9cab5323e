/-
  The laws' words and helpers for lists whose elements hold a list of numbers, by contract.
-/
import Derived.Test.YtofjnmeblmbnmaaNestW
import Derived.Test.YtofjnmeblmbnmaaRec
import Derived.Deep.RegionHeld3
namespace Go.Proofs.Ytofjnmeblmbnmaa
open Go.RowKit

def BoxN (w : World) (b : Nat) (cs : Array Value) (e : TypeId) : Prop := w.heap[b]? = some (.cells cs e (0, 0))
theorem BoxN.new (w : World) (cs : Array Value) (e : TypeId) : BoxN (w.alloc (.cells cs e)) w.heap.size cs e := heap_alloc_new w _
theorem BoxN.lt {w : World} {b : Nat} {cs : Array Value} {e : TypeId} (h : BoxN w b cs e) : b < w.heap.size := lt_of_block h
theorem BoxN.alloc {w : World} {b : Nat} {cs : Array Value} {e : TypeId} (h : BoxN w b cs e) (o : Obj) : BoxN (w.alloc o) b cs e := by
  have := h.lt
  unfold BoxN at *
  rw [heap_alloc_old _ _ this]; exact h
theorem BoxN.below {w w' : World} {b B : Nat} {cs : Array Value} {e : TypeId} (h : BoxN w b cs e) (k : Below B w w') (hb : b < B) : BoxN w' b cs e := (k.block b hb).trans h
theorem BoxN.cell {w : World} {b : Nat} {cs : Array Value} {e : TypeId} (h : BoxN w b cs e) (j : Nat) : w.cell? ⟨b, j, none⟩ = cs.toList[j]? := by
  rw [cell_of_row w b j cs e (0, 0) h]; simp
theorem BoxN.fro {w : World} {b : Nat} {cs : Array Value} {e : TypeId} (h : BoxN w b cs e) (j : Nat) : w.frozen? ⟨b, j, none⟩ = false := frozen_of_row w b j cs e h
theorem BoxN.set {w : World} {b : Nat} {cs : Array Value} {e : TypeId} (h : BoxN w b cs e) (j : Nat) (v : Value) : BoxN (w.setCell ⟨b, j, none⟩ v) b (cs.setIfInBounds j v) e := by
  unfold BoxN at *
  simp [World.setCell, Array.getElem?_modify, h]
theorem BoxN.other {w : World} {b b' : Nat} {cs : Array Value} {e : TypeId} (h : BoxN w b cs e) (hne : b' ≠ b) (j : Nat) (v : Value) : BoxN (w.setCell ⟨b', j, none⟩ v) b cs e := by
  unfold BoxN at *
  rw [heap_setCell_other _ ⟨b', j, none⟩ _ v (Ne.symm hne)]; exact h
theorem onlyN_set {w : World} {b j lo hi : Nat} {v : Value} (h1 : lo ≤ b) (h2 : b < hi) : Only lo hi w (w.setCell ⟨b, j, none⟩ v) :=
  ⟨rfl, rfl, rfl, by simp, fun k _ ho => heap_setCell_other w ⟨b, j, none⟩ _ v (by simp; omega)⟩
def sizeN (x : List TN) : Nat := x.length + (x.map fun e => e.way.length).sum
def LenN (x : List TN) : Prop := x.length ≤ 9223372036854775807 ∧ ∀ e ∈ x, e.way.length ≤ 9223372036854775807
theorem smallN {x : List TN} (h : (sizeN x : Int) ≤ 1048576) : SmallN x := by unfold sizeN at h; unfold SmallN; omega
def zp : Value × TN := (.slice none 0 0, ⟨[], 0, 0⟩)
theorem nest_len {m n k : Nat} {ps : List (Value × TN)} (h : ps.length = k) (hk : k ≤ n) : (ps ++ List.replicate (n - k) zp).length = n := by simp; omega
theorem nest_get {n k : Nat} {ps : List (Value × TN)} (h : ps.length = k) (hk : k < n) : (ps ++ List.replicate (n - k) zp)[k]? = some zp := by
  rw [List.getElem?_append_right (by omega), List.getElem?_replicate, if_pos (by omega)]
theorem nest_set {n k : Nat} {ps : List (Value × TN)} (h : ps.length = k) (hk : k < n) (p : Value × TN) : (ps ++ List.replicate (n - k) zp).set k p = (ps ++ [p]) ++ List.replicate (n - (k + 1)) zp := by
  rw [List.set_append_right _ _ (by omega), h, Nat.sub_self, show n - k = (n - (k + 1)) + 1 by omega, List.replicate_succ, List.set_cons_zero, List.append_assoc]; rfl
theorem set_set_same {α : Type} (xs : List α) (k : Nat) (a b : α) : (xs.set k a).set k b = xs.set k b := by simp
theorem store1 {L : List (Value × TN)} {k : Nat} {y : Value × TN} (h : L[k]? = some y) (sv : Value) (e : TN) : ((L.flatMap (Nc 1)).set (k * 2) sv).set (k * 2 + 1) (.int .i64 e.p) = (L.set k (sv, e)).flatMap (Nc 1) := by
  have h1 := flatMap_set (Nc 1) 2 (fun _ => rfl) L k 0 y (sv, y.2) sv h (by omega) rfl
  rw [Nat.add_zero] at h1
  have h2 := flatMap_set (Nc 1) 2 (fun _ => rfl) (L.set k (sv, y.2)) k 1 (sv, y.2) (sv, e) (.int .i64 e.p) (List.getElem?_set_self (lt_of_get h)) (by omega) rfl
  rw [h1, h2, set_set_same]
theorem store2 {L : List (Value × TN)} {k : Nat} {y : Value × TN} (h : L[k]? = some y) (sv : Value) (e : TN) : (((L.flatMap (Nc 2)).set (k * 3) sv).set (k * 3 + 1) (.int .i64 e.p)).set (k * 3 + 2) (.int .i64 e.q) = (L.set k (sv, e)).flatMap (Nc 2) := by
  have h1 := flatMap_set (Nc 2) 3 (fun _ => rfl) L k 0 y (sv, y.2) sv h (by omega) rfl
  rw [Nat.add_zero] at h1
  have h2 := flatMap_set (Nc 2) 3 (fun _ => rfl) (L.set k (sv, y.2)) k 1 (sv, y.2) (sv, ⟨y.2.way, e.p, y.2.q⟩) (.int .i64 e.p) (List.getElem?_set_self (lt_of_get h)) (by omega) rfl
  have h3 := flatMap_set (Nc 2) 3 (fun _ => rfl) ((L.set k (sv, y.2)).set k (sv, ⟨y.2.way, e.p, y.2.q⟩)) k 2 (sv, ⟨y.2.way, e.p, y.2.q⟩) (sv, e) (.int .i64 e.q) (List.getElem?_set_self (by rw [List.length_set]; exact lt_of_get h)) (by omega) rfl
  rw [h1, h2, h3, set_set_same, set_set_same]
theorem store0 {L : List (Value × TN)} {k : Nat} {y : Value × TN} (h : L[k]? = some y) (sv : Value) (e : TN) : (L.flatMap (Nc 0)).set (k * 1) sv = (L.set k (sv, e)).flatMap (Nc 0) := by
  have h1 := flatMap_set (Nc 0) 1 (fun _ => rfl) L k 0 y (sv, e) sv h (by omega) rfl
  rw [Nat.add_zero] at h1
  exact h1
theorem szF_add {n k : Nat} {l : Int} (h : (n : Int) ≤ l) : szF (n + k) l = szF k (l - n) := by unfold szF; split <;> split <;> omega

end Go.Proofs.Ytofjnmeblmbnmaa
