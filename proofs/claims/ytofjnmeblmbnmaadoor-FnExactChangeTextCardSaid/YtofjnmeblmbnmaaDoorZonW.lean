/-
  Zones with their changes as a value: a record of a number and two slices. The words of the laws for it, and the laws' helpers by contract.
-/
import Derived.Test.YtofjnmeblmbnmaaDoorRec
import Derived.Test.YtofjnmeblmbnmaaDoorLawH
namespace Go.Proofs.YtofjnmeblmbnmaaDoor
open Go.RowKit

structure TZ where
  z : Int
  of : List Int
  ch : List T3
def TZ.Fits (x : TZ) : Prop := (-9223372036854775808 ≤ x.z ∧ x.z ≤ 9223372036854775807) ∧ (∀ z ∈ x.of, -9223372036854775808 ≤ z ∧ z ≤ 9223372036854775807) ∧ (∀ z ∈ x.ch, z.Fits)
def Fit_Zoned (x : TZ) : Prop := x.Fits
def size_Zoned (x : TZ) : Nat := x.of.length + x.ch.length
def Small_Zoned (x : TZ) : Prop := x.of.length ≤ 1048576 ∧ x.ch.length ≤ 1048576
def Len_Zoned (x : TZ) : Prop := x.of.length ≤ 9223372036854775807 ∧ x.ch.length ≤ 9223372036854775807
theorem small_Zoned {x : TZ} (h : (size_Zoned x : Int) ≤ 1048576) : Small_Zoned x := by unfold size_Zoned at h; exact ⟨by omega, by omega⟩
def R_Zoned (w : World) (B : Nat) (v : Value) (x : TZ) : Prop := ∃ A c A2 c2, v = .agg #[.int .i64 x.z, .slice A x.of.length c, .slice A2 x.ch.length c2] ∧ RdI w B A x.of ∧ Rd3 w B A2 x.ch
def O_Zoned (w : World) (lo hi : Nat) (v : Value) (x : TZ) : Prop := ∃ a b m, v = .agg #[.int .i64 x.z, a, b] ∧ lo ≤ m ∧ m ≤ hi ∧ O_Int64S w lo m a x.of ∧ O_ChangeS w m hi b x.ch
theorem R_Zoned.below {w w' : World} {B : Nat} {v : Value} {x : TZ} (h : R_Zoned w B v x) (k : Below B w w') : R_Zoned w' B v x := by
  obtain ⟨A, c, A2, c2, rfl, h1, h2⟩ := h; exact ⟨A, c, A2, c2, rfl, h1.below k, h2.below k⟩
theorem R_Zoned.more {w : World} {B B' : Nat} {v : Value} {x : TZ} (h : R_Zoned w B v x) (k : B ≤ B') : R_Zoned w B' v x := by
  obtain ⟨A, c, A2, c2, rfl, h1, h2⟩ := h; exact ⟨A, c, A2, c2, rfl, h1.more k, h2.more k⟩
theorem O_Zoned.r {w : World} {lo hi : Nat} {v : Value} {x : TZ} (h : O_Zoned w lo hi v x) : R_Zoned w w.heap.size v x := by
  obtain ⟨a, b, m, rfl, _, _, h1, h2⟩ := h
  obtain ⟨A, c, rfl, r1⟩ := h1.r
  obtain ⟨A2, c2, rfl, r2⟩ := h2.r
  exact ⟨A, c, A2, c2, rfl, r1, r2⟩
theorem O_Zoned.small {w : World} {lo hi : Nat} {v : Value} {x : TZ} (h : O_Zoned w lo hi v x) : Small_Zoned x := by
  obtain ⟨a, b, m, rfl, _, _, h1, h2⟩ := h
  exact ⟨h1.small, h2.small⟩
theorem O_Zoned.kept {w w' : World} {lo hi lo' hi' : Nat} {v : Value} {x : TZ} (h : O_Zoned w lo hi v x) (k : Only lo' hi' w w') (hd : hi ≤ lo' ∨ hi' ≤ lo) : O_Zoned w' lo hi v x := by
  obtain ⟨a, b, m, rfl, l1, l2, h1, h2⟩ := h
  exact ⟨a, b, m, rfl, l1, l2, h1.kept k (by omega), h2.kept k (by omega)⟩
theorem O_Zoned.below {w w' : World} {lo hi B : Nat} {v : Value} {x : TZ} (h : O_Zoned w lo hi v x) (k : Below B w w') (hd : hi ≤ B) : O_Zoned w' lo hi v x := by
  obtain ⟨a, b, m, rfl, l1, l2, h1, h2⟩ := h
  exact ⟨a, b, m, rfl, l1, l2, h1.below k (by omega), h2.below k (by omega)⟩
theorem O_Zoned.widen {w : World} {lo hi lo' hi' : Nat} {v : Value} {x : TZ} (h : O_Zoned w lo hi v x) (h1 : lo' ≤ lo) (h2 : hi ≤ hi') : O_Zoned w lo' hi' v x := by
  obtain ⟨a, b, m, rfl, l1, l2, k1, k2⟩ := h
  exact ⟨a, b, m, rfl, by omega, by omega, k1.widen h1 (by omega), k2.widen (by omega) h2⟩
theorem O_Zoned.nil (w : World) (lo hi : Nat) (hl : lo ≤ hi) (A : Option Addr) (c : Nat) (A2 : Option Addr) (c2 : Nat) : O_Zoned w lo hi (.agg #[.int .i64 0, .slice A 0 c, .slice A2 0 c2]) ⟨0, [], []⟩ :=
  ⟨_, _, lo, rfl, Nat.le_refl _, hl, O_Int64S.nil _ _ _ _ _, O_ChangeS.nil _ _ _ _ _⟩
def mark_Zoned (x : TZ) (k : Int) : TZ := ⟨x.z, mark_Int64S x.of k, mark_ChangeS x.ch (k + cnt_Int64S x.of)⟩
def cnt_Zoned (x : TZ) : Int := cnt_Int64S x.of + cnt_ChangeS x.ch
theorem O_Zoned.cnt {w : World} {lo hi : Nat} {v : Value} {x : TZ} (h : O_Zoned w lo hi v x) : 0 ≤ cnt_Zoned x ∧ cnt_Zoned x ≤ 8388608 := by
  have := h.small
  unfold cnt_Zoned cnt_Int64S cnt_ChangeS; unfold Small_Zoned at this; omega
/-- A block with these cells, none of them frozen. -/
def BoxAt (w : World) (b : Nat) (cs : Array Value) (e : TypeId) : Prop := w.heap[b]? = some (.cells cs e (0, 0))
theorem BoxAt.new (w : World) (cs : Array Value) (e : TypeId) : BoxAt (w.alloc (.cells cs e)) w.heap.size cs e := heap_alloc_new w _
theorem BoxAt.lt {w : World} {b : Nat} {cs : Array Value} {e : TypeId} (h : BoxAt w b cs e) : b < w.heap.size := lt_of_block h
theorem BoxAt.alloc {w : World} {b : Nat} {cs : Array Value} {e : TypeId} (h : BoxAt w b cs e) (o : Obj) : BoxAt (w.alloc o) b cs e := by
  have := h.lt
  unfold BoxAt at *
  rw [heap_alloc_old _ _ this]; exact h
theorem BoxAt.below {w w' : World} {b B : Nat} {cs : Array Value} {e : TypeId} (h : BoxAt w b cs e) (k : Below B w w') (hb : b < B) : BoxAt w' b cs e := (k.block b hb).trans h
theorem BoxAt.cell {w : World} {b : Nat} {cs : Array Value} {e : TypeId} (h : BoxAt w b cs e) (j : Nat) : w.cell? ⟨b, j, none⟩ = cs.toList[j]? := by
  rw [cell_of_row w b j cs e (0, 0) h]; simp
theorem BoxAt.fro {w : World} {b : Nat} {cs : Array Value} {e : TypeId} (h : BoxAt w b cs e) (j : Nat) : w.frozen? ⟨b, j, none⟩ = false := frozen_of_row w b j cs e h
theorem BoxAt.set {w : World} {b : Nat} {cs : Array Value} {e : TypeId} (h : BoxAt w b cs e) (j : Nat) (v : Value) : BoxAt (w.setCell ⟨b, j, none⟩ v) b (cs.setIfInBounds j v) e := by
  unfold BoxAt at *
  simp [World.setCell, Array.getElem?_modify, h]
theorem BoxAt.other {w : World} {b b' : Nat} {cs : Array Value} {e : TypeId} (h : BoxAt w b cs e) (hne : b' ≠ b) (j : Nat) (v : Value) : BoxAt (w.setCell ⟨b', j, none⟩ v) b cs e := by
  unfold BoxAt at *
  rw [heap_setCell_other _ ⟨b', j, none⟩ _ v (Ne.symm hne)]; exact h
theorem Only.cell {lo hi : Nat} {w w' : World} (h : Only lo hi w w') {p : Addr} (h1 : p.block < w.heap.size) (h2 : p.block < lo ∨ hi ≤ p.block) : w'.cell? p = w.cell? p := by
  have := h.2.2.2.2 p.block h1 h2
  unfold World.cell?
  rw [this]
theorem only_set {w : World} {b j lo hi : Nat} {v : Value} (h1 : lo ≤ b) (h2 : b < hi) : Only lo hi w (w.setCell ⟨b, j, none⟩ v) :=
  ⟨rfl, rfl, rfl, by simp, fun k _ ho => heap_setCell_other w ⟨b, j, none⟩ _ v (by simp; omega)⟩
end Go.Proofs.YtofjnmeblmbnmaaDoor
