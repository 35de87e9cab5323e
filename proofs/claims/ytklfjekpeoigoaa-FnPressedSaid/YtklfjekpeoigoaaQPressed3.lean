/-
  Zones with their changes as a value: a record of a number and two slices. The words of the laws for it, and the laws' helpers by contract.
  Contracts of slices.Equal and slices.Clone at the program's element types. Printed by gen_lib.py.
-/
import Derived.Test.YtklfjekpeoigoaaQPressed1
import Derived.Test.YtklfjekpeoigoaaQPressed2
import Derived.Lib.SliceRun
import Derived.Deep.DeepMust
namespace Go.Proofs.Ytklfjekpeoigoaa
open Go.RowKit

structure TZ where
  z : Int
  of : List Int
  ch : List T3
def TZ.Fits (x : TZ) : Prop := (-9223372036854775808 ≤ x.z ∧ x.z ≤ 9223372036854775807) ∧ (∀ z ∈ x.of, -9223372036854775808 ≤ z ∧ z ≤ 9223372036854775807) ∧ (∀ z ∈ x.ch, z.Fits)
def Fit_Zoned (x : TZ) : Prop := x.Fits
def size_Zoned (x : TZ) : Nat := x.of.length + x.ch.length
def Small_Zoned (x : TZ) : Prop := x.of.length ≤ 1048576 ∧ x.ch.length ≤ 1048576
def Len_Zoned (x : TZ) : Prop := x.of.length ≤ 9223372036854775807 ∧ x.ch.length ≤ 9223372036854775807
theorem small_Zoned {x : TZ} (h : (size_Zoned x : Int) ≤ 1048576) : Small_Zoned x := by unfold size_Zoned at h; exact ⟨by omega, by omega⟩
def R_Zoned (w : World) (B : Nat) (v : Value) (x : TZ) : Prop := ∃ A c A2 c2, v = .agg #[.int .i64 x.z, .slice A x.of.length c, .slice A2 x.ch.length c2] ∧ RdI w B A x.of ∧ Rd3 w B A2 x.ch
def O_Zoned (w : World) (lo hi : Nat) (v : Value) (x : TZ) : Prop := ∃ a b m, v = .agg #[.int .i64 x.z, a, b] ∧ lo ≤ m ∧ m ≤ hi ∧ O_Int64S w lo m a x.of ∧ O_ChangeS w m hi b x.ch
theorem R_Zoned.below {w w' : World} {B : Nat} {v : Value} {x : TZ} (h : R_Zoned w B v x) (k : Below B w w') : R_Zoned w' B v x := by
  obtain ⟨A, c, A2, c2, rfl, h1, h2⟩ := h; exact ⟨A, c, A2, c2, rfl, h1.below k, h2.below k⟩
theorem R_Zoned.more {w : World} {B B' : Nat} {v : Value} {x : TZ} (h : R_Zoned w B v x) (k : B ≤ B') : R_Zoned w B' v x := by
  obtain ⟨A, c, A2, c2, rfl, h1, h2⟩ := h; exact ⟨A, c, A2, c2, rfl, h1.more k, h2.more k⟩
theorem O_Zoned.r {w : World} {lo hi : Nat} {v : Value} {x : TZ} (h : O_Zoned w lo hi v x) : R_Zoned w w.heap.size v x := by
  obtain ⟨a, b, m, rfl, _, _, h1, h2⟩ := h
  obtain ⟨A, c, rfl, r1⟩ := h1.r
  obtain ⟨A2, c2, rfl, r2⟩ := h2.r
  exact ⟨A, c, A2, c2, rfl, r1, r2⟩
theorem O_Zoned.small {w : World} {lo hi : Nat} {v : Value} {x : TZ} (h : O_Zoned w lo hi v x) : Small_Zoned x := by
  obtain ⟨a, b, m, rfl, _, _, h1, h2⟩ := h
  exact ⟨h1.small, h2.small⟩
theorem O_Zoned.kept {w w' : World} {lo hi lo' hi' : Nat} {v : Value} {x : TZ} (h : O_Zoned w lo hi v x) (k : Only lo' hi' w w') (hd : hi ≤ lo' ∨ hi' ≤ lo) : O_Zoned w' lo hi v x := by
  obtain ⟨a, b, m, rfl, l1, l2, h1, h2⟩ := h
  exact ⟨a, b, m, rfl, l1, l2, h1.kept k (by omega), h2.kept k (by omega)⟩
theorem O_Zoned.below {w w' : World} {lo hi B : Nat} {v : Value} {x : TZ} (h : O_Zoned w lo hi v x) (k : Below B w w') (hd : hi ≤ B) : O_Zoned w' lo hi v x := by
  obtain ⟨a, b, m, rfl, l1, l2, h1, h2⟩ := h
  exact ⟨a, b, m, rfl, l1, l2, h1.below k (by omega), h2.below k (by omega)⟩
theorem O_Zoned.widen {w : World} {lo hi lo' hi' : Nat} {v : Value} {x : TZ} (h : O_Zoned w lo hi v x) (h1 : lo' ≤ lo) (h2 : hi ≤ hi') : O_Zoned w lo' hi' v x := by
  obtain ⟨a, b, m, rfl, l1, l2, k1, k2⟩ := h
  exact ⟨a, b, m, rfl, by omega, by omega, k1.widen h1 (by omega), k2.widen (by omega) h2⟩
theorem O_Zoned.nil (w : World) (lo hi : Nat) (hl : lo ≤ hi) (A : Option Addr) (c : Nat) (A2 : Option Addr) (c2 : Nat) : O_Zoned w lo hi (.agg #[.int .i64 0, .slice A 0 c, .slice A2 0 c2]) ⟨0, [], []⟩ :=
  ⟨_, _, lo, rfl, Nat.le_refl _, hl, O_Int64S.nil _ _ _ _ _, O_ChangeS.nil _ _ _ _ _⟩
def mark_Zoned (x : TZ) (k : Int) : TZ := ⟨x.z, mark_Int64S x.of k, mark_ChangeS x.ch (k + cnt_Int64S x.of)⟩
def cnt_Zoned (x : TZ) : Int := cnt_Int64S x.of + cnt_ChangeS x.ch
theorem O_Zoned.cnt {w : World} {lo hi : Nat} {v : Value} {x : TZ} (h : O_Zoned w lo hi v x) : 0 ≤ cnt_Zoned x ∧ cnt_Zoned x ≤ 8388608 := by
  have := h.small
  unfold cnt_Zoned cnt_Int64S cnt_ChangeS; unfold Small_Zoned at this; omega
/-- A block with these cells, none of them frozen. -/
def BoxAt (w : World) (b : Nat) (cs : Array Value) (e : TypeId) : Prop := w.heap[b]? = some (.cells cs e (0, 0))
theorem BoxAt.new (w : World) (cs : Array Value) (e : TypeId) : BoxAt (w.alloc (.cells cs e)) w.heap.size cs e := heap_alloc_new w _
theorem BoxAt.lt {w : World} {b : Nat} {cs : Array Value} {e : TypeId} (h : BoxAt w b cs e) : b < w.heap.size := lt_of_block h
theorem BoxAt.alloc {w : World} {b : Nat} {cs : Array Value} {e : TypeId} (h : BoxAt w b cs e) (o : Obj) : BoxAt (w.alloc o) b cs e := by
  have := h.lt
  unfold BoxAt at *
  rw [heap_alloc_old _ _ this]; exact h
theorem BoxAt.below {w w' : World} {b B : Nat} {cs : Array Value} {e : TypeId} (h : BoxAt w b cs e) (k : Below B w w') (hb : b < B) : BoxAt w' b cs e := (k.block b hb).trans h
theorem BoxAt.cell {w : World} {b : Nat} {cs : Array Value} {e : TypeId} (h : BoxAt w b cs e) (j : Nat) : w.cell? ⟨b, j, none⟩ = cs.toList[j]? := by
  rw [cell_of_row w b j cs e (0, 0) h]; simp
theorem BoxAt.fro {w : World} {b : Nat} {cs : Array Value} {e : TypeId} (h : BoxAt w b cs e) (j : Nat) : w.frozen? ⟨b, j, none⟩ = false := frozen_of_row w b j cs e h
theorem BoxAt.set {w : World} {b : Nat} {cs : Array Value} {e : TypeId} (h : BoxAt w b cs e) (j : Nat) (v : Value) : BoxAt (w.setCell ⟨b, j, none⟩ v) b (cs.setIfInBounds j v) e := by
  unfold BoxAt at *
  simp [World.setCell, Array.getElem?_modify, h]
theorem BoxAt.other {w : World} {b b' : Nat} {cs : Array Value} {e : TypeId} (h : BoxAt w b cs e) (hne : b' ≠ b) (j : Nat) (v : Value) : BoxAt (w.setCell ⟨b', j, none⟩ v) b cs e := by
  unfold BoxAt at *
  rw [heap_setCell_other _ ⟨b', j, none⟩ _ v (Ne.symm hne)]; exact h
theorem Only.cell {lo hi : Nat} {w w' : World} (h : Only lo hi w w') {p : Addr} (h1 : p.block < w.heap.size) (h2 : p.block < lo ∨ hi ≤ p.block) : w'.cell? p = w.cell? p := by
  have := h.2.2.2.2 p.block h1 h2
  unfold World.cell?
  rw [this]
theorem only_set {w : World} {b j lo hi : Nat} {v : Value} (h1 : lo ≤ b) (h2 : b < hi) : Only lo hi w (w.setCell ⟨b, j, none⟩ v) :=
  ⟨rfl, rfl, rfl, by simp, fun k _ ho => heap_setCell_other w ⟨b, j, none⟩ _ v (by simp; omega)⟩
set_option maxRecDepth 100000 in
set_option maxHeartbeats 4000000 in
theorem L_to_Zoned (x : TZ) (v : Value) (w : World) (hs : Small_Zoned x) (h : R_Zoned w w.heap.size v x) :
    Calls Try.prog 95 #[v] w fun e w' => ∃ v', e = .returned v' ∧ O_Zoned w' w.heap.size w'.heap.size v' x ∧ Below w.heap.size w w' := by
  obtain ⟨A, c, A2, c2, rfl, h1, h2⟩ := h
  have H1 := hide fun W (hW : Below w.heap.size w W) => L_to_Int64S x.of (.slice A x.of.length c) W hs.1 ⟨A, c, rfl, (h1.below hW).more hW.size⟩
  have H2 := hide fun W (hW : Below w.heap.size w W) => L_to_ChangeS x.ch (.slice A2 x.ch.length c2) W hs.2 ⟨A2, c2, rfl, (h2.below hW).more hW.size⟩
  clear h1 h2
  go_enter Try.func95, Try.ntmps95
  go_wp2_with fail
  have b0 : Below w.heap.size w (((w.alloc (.cells #[.int .i64 x.z, .slice A x.of.length c, .slice A2 x.ch.length c2] 108)).alloc (.cells #[.int .i64 0, .slice none 0 0, .slice none 0 0] 114)).alloc (.cells #[.int .i64 x.z, .slice none 0 0, .slice none 0 0] 114)) := (by repeat (first | exact Below.refl _ _ | assumption | (refine Below.alloc ?_ (by simp <;> omega) _) | refine Below.drew ?_ | refine bdn ?_ _))
  have x1 : BoxAt (((w.alloc (.cells #[.int .i64 x.z, .slice A x.of.length c, .slice A2 x.ch.length c2] 108)).alloc (.cells #[.int .i64 0, .slice none 0 0, .slice none 0 0] 114)).alloc (.cells #[.int .i64 x.z, .slice none 0 0, .slice none 0 0] 114)) w.heap.size #[.int .i64 x.z, .slice A x.of.length c, .slice A2 x.ch.length c2] 108 := ((BoxAt.new w _ _).alloc _).alloc _
  have x2 : BoxAt (((w.alloc (.cells #[.int .i64 x.z, .slice A x.of.length c, .slice A2 x.ch.length c2] 108)).alloc (.cells #[.int .i64 0, .slice none 0 0, .slice none 0 0] 114)).alloc (.cells #[.int .i64 x.z, .slice none 0 0, .slice none 0 0] 114)) (w.heap.size + 1) #[.int .i64 0, .slice none 0 0, .slice none 0 0] 114 := by have := (BoxAt.new (w.alloc (.cells #[.int .i64 x.z, .slice A x.of.length c, .slice A2 x.ch.length c2] 108)) #[.int .i64 0, .slice none 0 0, .slice none 0 0] 114).alloc (.cells #[.int .i64 x.z, .slice none 0 0, .slice none 0 0] 114); simpa using this
  have x3 : BoxAt (((w.alloc (.cells #[.int .i64 x.z, .slice A x.of.length c, .slice A2 x.ch.length c2] 108)).alloc (.cells #[.int .i64 0, .slice none 0 0, .slice none 0 0] 114)).alloc (.cells #[.int .i64 x.z, .slice none 0 0, .slice none 0 0] 114)) (w.heap.size + 1 + 1) #[.int .i64 x.z, .slice none 0 0, .slice none 0 0] 114 := by have := (BoxAt.new ((w.alloc (.cells #[.int .i64 x.z, .slice A x.of.length c, .slice A2 x.ch.length c2] 108)).alloc (.cells #[.int .i64 0, .slice none 0 0, .slice none 0 0] 114)) #[.int .i64 x.z, .slice none 0 0, .slice none 0 0] 114); simpa using this
  have z0 : w.heap.size + 3 ≤ (((w.alloc (.cells #[.int .i64 x.z, .slice A x.of.length c, .slice A2 x.ch.length c2] 108)).alloc (.cells #[.int .i64 0, .slice none 0 0, .slice none 0 0] 114)).alloc (.cells #[.int .i64 x.z, .slice none 0 0, .slice none 0 0] 114)).heap.size := by simp
  generalize (((w.alloc (.cells #[.int .i64 x.z, .slice A x.of.length c, .slice A2 x.ch.length c2] 108)).alloc (.cells #[.int .i64 0, .slice none 0 0, .slice none 0 0] 114)).alloc (.cells #[.int .i64 x.z, .slice none 0 0, .slice none 0 0] 114)) = w0 at *
  refine (H1.out _ b0).mono ?_
  rintro e w1 ⟨v1, rfl, o1, s1⟩
  have z1 := s1.size
  have sh1 := o1.1
  obtain ⟨A3, c3, rfl⟩ := sh1
  have y1 := x1.below s1 (by omega)
  have y2 := x2.below s1 (by omega)
  have y3 := x3.below s1 (by omega)
  have b1 := b0.trans (s1.mono b0.size)
  clear x1 x2 x3 s1
  have k1 := y3.cell 1
  have k2 := y3.fro 1
  have u3 := y3.set 1 (.slice A3 x.of.length c3)
  have u1 := y1.other (show w.heap.size + 1 + 1 ≠ w.heap.size by omega) 1 (.slice A3 x.of.length c3)
  have u2 := y2.other (show w.heap.size + 1 + 1 ≠ w.heap.size + 1 by omega) 1 (.slice A3 x.of.length c3)
  have k3 := u1.cell 2
  have bb : Below w.heap.size w (w1.setCell ⟨w.heap.size + 1 + 1, 1, none⟩ (.slice A3 x.of.length c3)) := b1.setCell (by simp; omega) _
  simp only [Array.toList_setIfInBounds, List.set_cons_succ, List.set_cons_zero, List.getElem?_cons_succ, List.getElem?_cons_zero] at k1 k3
  clear y1 y2 y3
  go_wp2_with fail
  have z2 : (w1.setCell ⟨w.heap.size + 1 + 1, 1, none⟩ (.slice A3 x.of.length c3)).heap.size = w1.heap.size := by simp
  have q1 := o1.kept (only_set (w := w1) (b := w.heap.size + 1 + 1) (j := 1) (v := .slice A3 x.of.length c3) (lo := w.heap.size) (hi := w.heap.size + 3) (by omega) (by omega)) (.inr z0)
  clear o1 k1 k2 k3
  refine (H2.out _ bb).mono ?_
  rintro e w2 ⟨v2, rfl, o2, s2⟩
  have z3 := s2.size
  have sh2 := o2.1
  obtain ⟨A4, c4, rfl⟩ := sh2
  rw [z2] at o2 s2 z3
  have y1 := u1.below s2 (by omega)
  have y2 := u2.below s2 (by omega)
  have y3 := u3.below s2 (by omega)
  have p1 := q1.below s2 (Nat.le_refl _)
  have b2 := bb.trans (s2.mono (by omega))
  clear q1 u1 u2 u3 s2
  have k1 := y3.cell 2
  have k2 := y3.fro 2
  have u3 := y3.set 2 (.slice A4 x.ch.length c4)
  have u2 := y2.other (show w.heap.size + 1 + 1 ≠ w.heap.size + 1 by omega) 2 (.slice A4 x.ch.length c4)
  have i0 := u3.cell 0
  have i1 := u3.cell 1
  have i2 := u3.cell 2
  have j0 := u2.cell 0
  have j1 := u2.cell 1
  have j2 := u2.cell 2
  have l0 := u2.fro 0
  have l1 := u2.fro 1
  have l2 := u2.fro 2
  simp only [Array.toList_setIfInBounds, List.set_cons_succ, List.set_cons_zero, List.getElem?_cons_succ, List.getElem?_cons_zero] at k1 i0 i1 i2 j0 j1 j2
  clear y1 y2 y3
  go_wp2_with fail
  have f3 := ((u2.set 0 (.int .i64 x.z)).set 1 (.slice A3 x.of.length c3)).set 2 (.slice A4 x.ch.length c4)
  have t0 := f3.cell 0
  have t1 := f3.cell 1
  have t2 := f3.cell 2
  simp only [Array.toList_setIfInBounds, List.set_cons_succ, List.set_cons_zero, List.getElem?_cons_succ, List.getElem?_cons_zero] at t0 t1 t2
  refine bodyPost_ret (v := .agg #[.int .i64 x.z, .slice A3 x.of.length c3, .slice A4 x.ch.length c4]) (by simp [results, Try.results95, go_sem, t0, t1, t2]) rfl ⟨_, rfl, ?_, ?_⟩
  · have K := only_trans (only_trans (only_trans (only_set (w := w2) (b := w.heap.size + 1 + 1) (j := 2) (v := .slice A4 x.ch.length c4) (lo := w.heap.size) (hi := w.heap.size + 3) (by omega) (by omega)) (only_set (b := w.heap.size + 1) (j := 0) (v := .int .i64 x.z) (by omega) (by omega))) (only_set (b := w.heap.size + 1) (j := 1) (v := .slice A3 x.of.length c3) (by omega) (by omega))) (only_set (b := w.heap.size + 1) (j := 2) (v := .slice A4 x.ch.length c4) (by omega) (by omega))
    exact ⟨_, _, w1.heap.size, rfl, by omega, by simp; omega, (p1.kept K (.inr z0)).widen (by omega) (Nat.le_refl _), (o2.kept K (.inr (by omega))).widen (Nat.le_refl _) (by simp)⟩
  · exact (((b2.setCell (by simp; omega) _).setCell (by simp) _).setCell (by simp) _).setCell (by simp) _
set_option maxRecDepth 100000 in
set_option maxHeartbeats 4000000 in
theorem L_eq_Zoned (x : TZ) (v1 v2 : Value) (lo1 hi1 lo2 hi2 : Nat) (w : World) (h1 : O_Zoned w lo1 hi1 v1 x) (h2 : O_Zoned w lo2 hi2 v2 x) :
    Calls Try.prog 98 #[v1, v2] w fun e w' => e = .returned (.bool true) ∧ Below w.heap.size w w' := by
  obtain ⟨a1, b1, m1, rfl, l1, l2, p1, p2⟩ := h1
  obtain ⟨a2, b2, m2, rfl, l3, l4, q1, q2⟩ := h2
  obtain ⟨A, c, rfl, pr1⟩ := p1.r
  obtain ⟨A2, c2, rfl, pr2⟩ := p2.r
  obtain ⟨A3, c3, rfl, qr1⟩ := q1.r
  obtain ⟨A4, c4, rfl, qr2⟩ := q2.r
  have n1 := p1.small
  have n2 := p2.small
  have H1 := hide fun W (hW : Below w.heap.size w W) => eqInt64S_any x.of x.of A A3 c c3 W (by omega) (by omega) ((pr1.below hW).more hW.size) ((qr1.below hW).more hW.size)
  have H2 := hide fun W (hW : Below w.heap.size w W) => eqChangeS_any x.ch x.ch A2 A4 c2 c4 W (by omega) (by omega) ((pr2.below hW).more hW.size) ((qr2.below hW).more hW.size)
  clear p1 p2 q1 q2 pr1 pr2 qr1 qr2 l1 l2 l3 l4 n1 n2
  go_enter Try.func98, Try.ntmps98
  have b0 : Below w.heap.size w ((w.alloc (.cells #[.int .i64 x.z, .slice A x.of.length c, .slice A2 x.ch.length c2] 114)).alloc (.cells #[.int .i64 x.z, .slice A3 x.of.length c3, .slice A4 x.ch.length c4] 114)) := (by repeat (first | exact Below.refl _ _ | assumption | (refine Below.alloc ?_ (by simp <;> omega) _) | refine Below.drew ?_ | refine bdn ?_ _))
  have x1 : BoxAt ((w.alloc (.cells #[.int .i64 x.z, .slice A x.of.length c, .slice A2 x.ch.length c2] 114)).alloc (.cells #[.int .i64 x.z, .slice A3 x.of.length c3, .slice A4 x.ch.length c4] 114)) w.heap.size #[.int .i64 x.z, .slice A x.of.length c, .slice A2 x.ch.length c2] 114 := (BoxAt.new w _ _).alloc _
  have x2 : BoxAt ((w.alloc (.cells #[.int .i64 x.z, .slice A x.of.length c, .slice A2 x.ch.length c2] 114)).alloc (.cells #[.int .i64 x.z, .slice A3 x.of.length c3, .slice A4 x.ch.length c4] 114)) (w.heap.size + 1) #[.int .i64 x.z, .slice A3 x.of.length c3, .slice A4 x.ch.length c4] 114 := by have := BoxAt.new (w.alloc (.cells #[.int .i64 x.z, .slice A x.of.length c, .slice A2 x.ch.length c2] 114)) #[.int .i64 x.z, .slice A3 x.of.length c3, .slice A4 x.ch.length c4] 114; simpa using this
  have z0 : w.heap.size + 2 ≤ ((w.alloc (.cells #[.int .i64 x.z, .slice A x.of.length c, .slice A2 x.ch.length c2] 114)).alloc (.cells #[.int .i64 x.z, .slice A3 x.of.length c3, .slice A4 x.ch.length c4] 114)).heap.size := by simp
  go_wp2_with fail
  generalize ((w.alloc (.cells #[.int .i64 x.z, .slice A x.of.length c, .slice A2 x.ch.length c2] 114)).alloc (.cells #[.int .i64 x.z, .slice A3 x.of.length c3, .slice A4 x.ch.length c4] 114)) = w0 at *
  refine (H1.out _ b0).mono ?_
  rintro e w1 ⟨rfl, s1⟩
  have y1 := x1.below s1 (by omega)
  have y2 := x2.below s1 (by omega)
  have bb := b0.trans (s1.mono b0.size)
  have k1 := y1.cell 2
  have k2 := y2.cell 2
  have k3 := decide_eq_true (rfl : x.of = x.of)
  have k4 := decide_eq_true (rfl : x.ch = x.ch)
  simp only [List.getElem?_cons_succ, List.getElem?_cons_zero] at k1 k2
  clear x1 x2 y1 y2 s1
  go_wp2_with fail
  refine (H2.out _ bb).mono ?_
  rintro e w2 ⟨rfl, s2⟩
  go_wp2_with fail
  go_ret
  exact ⟨rfl, bb.trans (s2.mono bb.size)⟩
set_option maxRecDepth 100000 in
set_option maxHeartbeats 4000000 in
theorem L_sz_Zoned (x : TZ) (v : Value) (left : Int) (B : Nat) (w : World) (hx : Len_Zoned x) (hl : 0 ≤ left) (hl2 : left ≤ 1048576) (h : R_Zoned w B v x) :
    Calls Try.prog 93 #[v, .int .i64 left] w fun e w' => e = .returned (.int .i64 (szF (size_Zoned x) left)) ∧ Below w.heap.size w w' := by
  obtain ⟨A, c, A2, c2, rfl, h1, h2⟩ := h
  obtain ⟨n1, n2⟩ := hx
  have H1 := hide fun W => szInt64S_any A x.of.length c left W n1 hl hl2
  have y1 : (w.alloc (.cells #[.int .i64 x.z, .slice A x.of.length c, .slice A2 x.ch.length c2] 108)).cell? ⟨w.heap.size, 1, none⟩ = some (.slice A x.of.length c) := by simp [go_sem]
  have y2 : (w.alloc (.cells #[.int .i64 x.z, .slice A x.of.length c, .slice A2 x.ch.length c2] 108)).cell? ⟨w.heap.size, 2, none⟩ = some (.slice A2 x.ch.length c2) := by simp [go_sem]
  by_cases g1 : (x.of.length : Int) ≤ left
  case neg =>
    have r1 := szF_no (show left < (x.of.length : Int) by omega)
    have R := hide (szF_no (n := size_Zoned x) (left := left) (by unfold size_Zoned; omega))
    rw [r1] at H1
    clear g1 r1
    go_enter Try.func93, Try.ntmps93
    go_wp2_with fail
    refine (H1.out _).mono ?_
    rintro e w1 ⟨rfl, rfl⟩
    go_wp2_with fail
    go_ret
    exact ⟨by rw [R.out]; rfl, (by repeat (first | exact Below.refl _ _ | assumption | (refine Below.alloc ?_ (by simp <;> omega) _) | refine Below.drew ?_ | refine bdn ?_ _))⟩
  have r1 := szF_yes g1
  rw [r1] at H1
  have H2 := hide fun W => szChangeS_any A2 x.ch.length c2 (left - x.of.length) W n2 (by omega) (by omega)
  have hsz : szF (size_Zoned x) left = szF x.ch.length (left - x.of.length) := by unfold szF size_Zoned; split <;> split <;> omega
  have hlo : -1 ≤ szF x.ch.length (left - x.of.length) := by unfold szF; split <;> omega
  have hup : szF x.ch.length (left - x.of.length) ≤ 1048576 := by unfold szF; split <;> omega
  have R := hide hsz
  generalize szF x.ch.length (left - x.of.length) = q at *
  clear r1 hsz
  by_cases hq : q < 0
  · have hq' : q = -1 := by omega
    subst hq'
    go_enter Try.func93, Try.ntmps93
    go_wp2_with fail
    refine (H1.out _).mono ?_
    rintro e w1 ⟨rfl, rfl⟩
    go_wp2_with fail
    refine (H2.out _).mono ?_
    rintro e w1 ⟨rfl, rfl⟩
    go_wp2_with fail
    go_ret
    exact ⟨by rw [R.out]; rfl, (by repeat (first | exact Below.refl _ _ | assumption | (refine Below.alloc ?_ (by simp <;> omega) _) | refine Below.drew ?_ | refine bdn ?_ _))⟩
  · go_enter Try.func93, Try.ntmps93
    go_wp2_with fail
    refine (H1.out _).mono ?_
    rintro e w1 ⟨rfl, rfl⟩
    go_wp2_with fail
    refine (H2.out _).mono ?_
    rintro e w1 ⟨rfl, rfl⟩
    go_wp2_with fail
    go_ret
    exact ⟨by rw [R.out]; rfl, (by repeat (first | exact Below.refl _ _ | assumption | (refine Below.alloc ?_ (by simp <;> omega) _) | refine Below.drew ?_ | refine bdn ?_ _))⟩
set_option maxRecDepth 100000 in
set_option maxHeartbeats 4000000 in
theorem L_mark_Zoned (x : TZ) (v : Value) (k : Int) (lo hi : Nat) (w : World) (hk0 : 0 ≤ k) (hk1 : k ≤ 1099491627776) (hh : hi ≤ w.heap.size) (h : O_Zoned w lo hi v x) :
    Calls Try.prog 99 #[v, .int .i64 k] w fun e w' => e = .returned (.int .i64 (k + cnt_Zoned x)) ∧ O_Zoned w' lo hi v (mark_Zoned x k) ∧ Only lo hi w w' := by
  obtain ⟨a, b, m, rfl, l1, l2, p1, p2⟩ := h
  obtain ⟨A, c, rfl, pr1⟩ := p1.r
  obtain ⟨A2, c2, rfl, pr2⟩ := p2.r
  obtain ⟨n1a, n1b⟩ := p1.cnt
  obtain ⟨n2a, n2b⟩ := p2.cnt
  clear pr1 pr2
  have b0 : Below w.heap.size w (w.alloc (.cells #[.int .i64 x.z, .slice A x.of.length c, .slice A2 x.ch.length c2] 114)) := (by repeat (first | exact Below.refl _ _ | assumption | (refine Below.alloc ?_ (by simp <;> omega) _) | refine Below.drew ?_ | refine bdn ?_ _))
  have x1 := BoxAt.new w #[.int .i64 x.z, .slice A x.of.length c, .slice A2 x.ch.length c2] 114
  have z0 : w.heap.size + 1 ≤ (w.alloc (.cells #[.int .i64 x.z, .slice A x.of.length c, .slice A2 x.ch.length c2] 114)).heap.size := by simp
  have p1' := p1.below b0 (by omega)
  have p2' := p2.below b0 hh
  clear p1 p2
  go_enter Try.func99, Try.ntmps99
  go_wp2_with fail
  generalize (w.alloc (.cells #[.int .i64 x.z, .slice A x.of.length c, .slice A2 x.ch.length c2] 114)) = w0 at *
  refine (L_mark_Int64S _ _ _ _ _ _ hk0 (by omega) p1').mono ?_
  rintro e w1 ⟨rfl, o1, s1⟩
  have p2 := p2'.kept s1 (.inr (Nat.le_refl _))
  have y1 : BoxAt w1 w.heap.size _ _ := (s1.2.2.2.2 _ (by omega) (.inr (by omega))).trans x1
  have k1 := y1.cell 2
  have z1 := s1.size
  simp only [List.getElem?_cons_succ, List.getElem?_cons_zero] at k1
  clear x1 y1 p1' p2'
  go_wp2_with fail
  refine (L_mark_ChangeS _ _ _ _ _ _ (by omega) (by omega) p2).mono ?_
  rintro e w2 ⟨rfl, o2, s2⟩
  have o1' := o1.kept s2 (.inl (Nat.le_refl _))
  go_wp2_with fail
  go_ret
  refine ⟨by unfold cnt_Zoned; rw [Int.add_assoc]; rfl, ⟨_, _, m, by unfold mark_Zoned; rfl, l1, l2, o1', o2⟩, ?_⟩
  refine ⟨s2.1.trans (s1.1.trans b0.os), s2.2.1.trans (s1.2.1.trans b0.tape), s2.2.2.1.trans (s1.2.2.1.trans b0.output), Nat.le_trans b0.size (Nat.le_trans z1 s2.size), fun q hq ho => ?_⟩
  have hq0 : q < w0.heap.size := by omega
  rw [s2.2.2.2.2 q (by omega) (by omega), s1.2.2.2.2 q hq0 (by omega)]
  exact b0.block q hq
set_option maxRecDepth 100000 in
set_option maxHeartbeats 4000000 in
theorem L_held_Zoned (x : TZ) (v : Value) (k : Int) (lo hi : Nat) (w : World) (hk0 : 0 ≤ k) (hk1 : k ≤ 1099491627776) (hh : hi ≤ w.heap.size) (h : O_Zoned w lo hi v (mark_Zoned x k)) :
    Calls Try.prog 100 #[v, .int .i64 k] w fun e w' => e = .returned (.int .i64 (k + cnt_Zoned x)) ∧ Below w.heap.size w w' := by
  obtain ⟨a, b, m, rfl, l1, l2, p1, p2⟩ := h
  obtain ⟨A, c, rfl, pr1⟩ := p1.r
  obtain ⟨A2, c2, rfl, pr2⟩ := p2.r
  have n1a : 0 ≤ cnt_Int64S x.of ∧ cnt_Int64S x.of ≤ 4194304 := by have := p1.cnt; unfold mark_Zoned mark_Int64S cnt_Int64S at this; rw [marks_len] at this; exact this
  have n2a : 0 ≤ cnt_ChangeS x.ch ∧ cnt_ChangeS x.ch ≤ 4194304 := by have := p2.cnt; unfold mark_Zoned mark_ChangeS cnt_ChangeS at this; rw [marks_len] at this; exact this
  obtain ⟨n1, n1b⟩ := n1a
  obtain ⟨n2, n2b⟩ := n2a
  clear pr1 pr2
  unfold mark_Zoned at p1 p2
  dsimp only at p1 p2
  have e1 : (mark_Zoned x k).of.length = x.of.length := by simp [mark_Zoned, mark_Int64S, marks_len]
  have e2 : (mark_Zoned x k).ch.length = x.ch.length := by simp [mark_Zoned, mark_ChangeS, marks_len]
  have e3 : (mark_Zoned x k).z = x.z := rfl
  rw [e1, e2, e3]
  rw [show (mark_Int64S x.of k).length = x.of.length by simp [mark_Int64S, marks_len]] at p1; rw [show (mark_ChangeS x.ch (k + cnt_Int64S x.of)).length = x.ch.length by simp [mark_ChangeS, marks_len]] at p2
  clear e1 e2 e3
  have b0 : Below w.heap.size w (w.alloc (.cells #[.int .i64 x.z, .slice A x.of.length c, .slice A2 x.ch.length c2] 114)) := (by repeat (first | exact Below.refl _ _ | assumption | (refine Below.alloc ?_ (by simp <;> omega) _) | refine Below.drew ?_ | refine bdn ?_ _))
  have x1 := BoxAt.new w #[.int .i64 x.z, .slice A x.of.length c, .slice A2 x.ch.length c2] 114
  have z0 : w.heap.size + 1 ≤ (w.alloc (.cells #[.int .i64 x.z, .slice A x.of.length c, .slice A2 x.ch.length c2] 114)).heap.size := by simp
  have p1' := p1.below b0 (by omega)
  have p2' := p2.below b0 hh
  clear p1 p2
  go_enter Try.func100, Try.ntmps100
  go_wp2_with fail
  generalize (w.alloc (.cells #[.int .i64 x.z, .slice A x.of.length c, .slice A2 x.ch.length c2] 114)) = w0 at *
  refine (L_held_Int64S x.of _ _ _ _ _ hk0 (by omega) p1').mono ?_
  rintro e w1 ⟨rfl, s1⟩
  have p2 := p2'.below s1 (by omega)
  have y1 := x1.below s1 (by omega)
  have k1 := y1.cell 2
  have bb := b0.trans (s1.mono b0.size)
  simp only [List.getElem?_cons_succ, List.getElem?_cons_zero] at k1
  clear x1 y1 p1' p2'
  go_wp2_with fail
  refine (L_held_ChangeS x.ch _ _ _ _ _ (by omega) (by omega) p2).mono ?_
  rintro e w2 ⟨rfl, s2⟩
  go_wp2_with fail
  go_ret
  exact ⟨by unfold cnt_Zoned; rw [Int.add_assoc]; rfl, bb.trans (s2.mono bb.size)⟩
end Go.Proofs.Ytklfjekpeoigoaa
namespace Go.Proofs.Ytklfjekpeoigoaa
open Go.RowKit

set_option maxRecDepth 100000 in
set_option maxHeartbeats 1000000 in
theorem cloneI_any (xs : List Int) (A : Option Addr) (c : Nat) (w : World) (hx : xs.length ≤ 1048576) (h1 : RdI w w.heap.size A xs) :
    Calls Try.prog 142 #[.slice A xs.length c] w fun e w' => ∃ A' c', e = .returned (.slice A' xs.length c') ∧ w'.ownsRow w.heap.size 2 1 (.slice A' xs.length c') xs.length (xs.map (Value.int .i64)) ∧ Below w.heap.size w w' := by
  have hinfo : (Try.prog.info? 2).map (fun i => (i.zero, i.size, i.bytes)) = some (some (.int .i64 0), 1, 8) := by kernel_rfl
  obtain ⟨i0, hi0, hz0, hs0, hb0⟩ := info_parts hinfo
  clear hinfo
  have hnil := fun (W : World) (A : Option Addr) (n c : Nat) => Lib.run_eql_slice_nil (P := Try.prog) W 22 2 A n c 0 0 Try.underlying22
  cases A with
  | none =>
    have hn : xs = [] := by
      rcases xs with _ | ⟨x, xs⟩
      · rfl
      · exact absurd (h1 (by simp)) (by rintro ⟨b, o, h, _⟩; cases h)
    subst hn
    clear h1
    go_enter Try.func142, Try.ntmps142
    go_wp2_with fail
    go_ret
    exact ⟨none, 0, rfl, World.ownsRow_nil _ _ _ _, Below.refl _ _⟩
  | some ad =>
    have HX := hide h1; clear h1
    go_enter Try.func142, Try.ntmps142
    have ho0 := own_new0 w w.heap.size 2 1 (Nat.le_refl _)
    have hb1 : Below w.heap.size w (w.alloc (.cells #[] 2)) := (Below.refl _ _).alloc (Nat.le_refl _) _
    have HR := hide (Rd.below HX.out hb1)
    go_wp2_with (at_builtin; go_must (refine wp_app _ rfl _ _ 22 rfl w.heap.size 2 i0 (.int .i64 0) 1 8 Try.underlying22 hi0 hz0 hs0 hb0 rfl (by decide) _ _ _ rfl ho0 _ _ xs.length c _ rfl (by simp) HR.out (ints_one _) (by omega) (by decide) (by simp) ?_); intro v' w1 hown' hgrow hat)
    go_ret
    simp only [Nat.zero_add, List.nil_append] at hown'
    obtain ⟨A', c', rfl, _⟩ := own_shape hown'
    exact ⟨A', c', rfl, hown', app_below hb1 ho0 hgrow (Nat.le_refl _) (by simp)⟩
set_option maxRecDepth 100000 in
set_option maxHeartbeats 1000000 in
theorem equalMove_any (xs ys : List T3) (A1 A2 : Option Addr) (c1 c2 : Nat) (w : World) (hx : xs.length ≤ 9223372036854775807) (hy : ys.length ≤ 9223372036854775807)
    (h1 : Rd3 w w.heap.size A1 xs) (h2 : Rd3 w w.heap.size A2 ys) :
    Calls Try.prog 145 #[.slice A1 xs.length c1, .slice A2 ys.length c2] w fun e w' => e = .returned (.bool (decide (xs = ys))) ∧ Below w.heap.size w w' := by
  by_cases hl : xs.length = ys.length
  · have hB : ((xs.length : Int) != ys.length) = false := by simp [hl]
    have hst : Try.prog.stoodInHeld 143 = false := by kernel_rfl
    have hgu : Try.prog.eqGuardType Try.prog.depth 143 = false := by kernel_rfl
    have HL := hide hl; clear hl
    go_enter Try.func145, Try.ntmps145
    go_wp2_with fail
    go_loopg [13] xs.length (fun g i wr => ∃ k : Nat, k ≤ xs.length ∧ Hid (g = xs.length - k) ∧ i = .int .i64 k ∧ Below w.heap.size w wr ∧ Hid (xs = ys ↔ xs.drop k = ys.drop k))
    case atStart => exact ⟨0, by omega, by simp [Hid], rfl, Below.refl _ _, by simp [Hid]⟩
    case round =>
      obtain ⟨k, hk, hg, rfl, hb, HE⟩ := hrel
      by_cases hlt : k < xs.length
      · have hlt2 : k < ys.length := by have := HL.out; omega
        obtain ⟨b1, o1, z1, rfl, _, hz1, hc1a, hc1b, hc1c⟩ := (h1.below hb).at_ hlt
        obtain ⟨b2, o2, z2, rfl, _, hz2, hc2a, hc2b, hc2c⟩ := (h2.below hb).at_ hlt2
        have Z1 := hide hz1; have Z2 := hide hz2; clear hz1 hz2 h1 h2
        have hE : decide (xs = ys) = (decide (z1 = z2) && decide (xs.drop (k + 1) = ys.drop (k + 1))) := by
          have h := HE.out
          rw [drop_cons Z1.out, drop_cons Z2.out] at h
          rw [Bool.eq_iff_iff]; simpa using h
        have HE' := hide hE
        clear hE
        obtain ⟨p0, p1, p2⟩ := z1
        obtain ⟨q0, q1, q2⟩ := z2
        dsimp only at *
        by_cases e0 : p0 = q0
        case neg =>
          have hB0 : (p0 == q0) = false := by simp [e0]
          have E0 := hide e0; clear e0
          go_wp2_with fail
          go_quiet (fail)
          go_wp2_with fail
          go_ret
          exact ⟨ret_b (by rw [HE'.out]; simp [E0.out]), bdn hb _⟩
        have hB0 : (p0 == q0) = true := by simp [e0]
        have E0 := hide e0; clear e0
        by_cases e1 : p1 = q1
        case neg =>
          have hB1 : (p1 == q1) = false := by simp [e1]
          have E1 := hide e1; clear e1
          go_wp2_with fail
          go_quiet (fail)
          go_wp2_with fail
          go_ret
          exact ⟨ret_b (by rw [HE'.out]; simp [E1.out]), bdn hb _⟩
        have hB1 : (p1 == q1) = true := by simp [e1]
        have E1 := hide e1; clear e1
        by_cases e2 : p2 = q2
        case neg =>
          have hB2 : (p2 == q2) = false := by simp [e2]
          have E2 := hide e2; clear e2
          go_wp2_with fail
          go_quiet (fail)
          go_wp2_with fail
          go_ret
          exact ⟨ret_b (by rw [HE'.out]; simp [E2.out]), bdn hb _⟩
        have hB2 : (p2 == q2) = true := by simp [e2]
        have E2 := hide e2; clear e2
        go_wp2_with fail
        go_quiet (fail)
        go_wp2_with fail
        go_roundg (xs.length - (k + 1))
        case measure => have := hg.out; omega
        case rel => exact ⟨k + 1, by omega, rfl, by go_num, bdn hb _, hide (by have := HE'.out; simpa [E0.out, E1.out, E2.out] using this)⟩
      · go_wp2_with fail
        go_ret
        refine ⟨ret_b ?_, hb⟩
        have h := HE.out
        rw [List.drop_eq_nil_of_le (by omega), List.drop_eq_nil_of_le (by have := HL.out; omega)] at h
        simpa using h
  · have hB : ((xs.length : Int) != ys.length) = true := by simp; omega
    have HL := hide hl; clear hl
    go_enter Try.func145, Try.ntmps145
    go_wp2_with fail
    go_ret
    exact ⟨ret_b (by simp; intro e; exact HL.out (by rw [e])), Below.refl _ _⟩
set_option maxRecDepth 100000 in
set_option maxHeartbeats 1000000 in
theorem cloneChange_any (xs : List T3) (A : Option Addr) (c : Nat) (w : World) (hx : xs.length ≤ 1048576) (h1 : Rd3 w w.heap.size A xs) :
    Calls Try.prog 211 #[.slice A xs.length c] w fun e w' => ∃ A' c', e = .returned (.slice A' xs.length c') ∧ w'.ownsRow w.heap.size 118 3 (.slice A' xs.length c') xs.length (xs.flatMap T3.cells) ∧ Below w.heap.size w w' := by
  have hinfo : (Try.prog.info? 118).map (fun i => (i.zero, i.size, i.bytes)) = some (some (.agg #[.int .i64 0, .int .i64 0, .int .i64 0]), 3, 24) := by kernel_rfl
  obtain ⟨i0, hi0, hz0, hs0, hb0⟩ := info_parts hinfo
  clear hinfo
  have hnil := fun (W : World) (A : Option Addr) (n c : Nat) => Lib.run_eql_slice_nil (P := Try.prog) W 112 118 A n c 0 0 Try.underlying112
  cases A with
  | none =>
    have hn : xs = [] := by
      rcases xs with _ | ⟨x, xs⟩
      · rfl
      · exact absurd (h1 (by simp [T3.cells])) (by rintro ⟨b, o, h, _⟩; cases h)
    subst hn
    clear h1
    go_enter Try.func211, Try.ntmps211
    go_wp2_with fail
    go_ret
    exact ⟨none, 0, rfl, World.ownsRow_nil _ _ _ _, Below.refl _ _⟩
  | some ad =>
    have HX := hide h1; clear h1
    go_enter Try.func211, Try.ntmps211
    have ho0 := own_new0 w w.heap.size 118 3 (Nat.le_refl _)
    have hb1 : Below w.heap.size w (w.alloc (.cells #[] 118)) := (Below.refl _ _).alloc (Nat.le_refl _) _
    have HR := hide (Rd.below HX.out hb1)
    go_wp2_with (at_builtin; go_must (refine wp_app _ rfl _ _ 112 rfl w.heap.size 118 i0 (.agg #[.int .i64 0, .int .i64 0, .int .i64 0]) 3 24 Try.underlying112 hi0 hz0 hs0 hb0 rfl (by decide) _ _ _ rfl ho0 _ _ xs.length c _ rfl (by simp [flatMap_len T3.cells 3 (fun _ => rfl)]) HR.out (T3.ones _) (by omega) (by decide) (by simp) ?_); intro v' w1 hown' hgrow hat)
    go_ret
    simp only [Nat.zero_add, List.nil_append] at hown'
    obtain ⟨A', c', rfl, _⟩ := own_shape hown'
    exact ⟨A', c', rfl, hown', app_below hb1 ho0 hgrow (Nat.le_refl _) (by simp)⟩
set_option maxRecDepth 100000 in
set_option maxHeartbeats 1000000 in
theorem cloneRide_any (xs : List T4) (A : Option Addr) (c : Nat) (w : World) (hx : xs.length ≤ 1048576) (h1 : Rd4 w w.heap.size A xs) :
    Calls Try.prog 183 #[.slice A xs.length c] w fun e w' => ∃ A' c', e = .returned (.slice A' xs.length c') ∧ w'.ownsRow w.heap.size 87 4 (.slice A' xs.length c') xs.length (xs.flatMap T4.cells) ∧ Below w.heap.size w w' := by
  have hinfo : (Try.prog.info? 87).map (fun i => (i.zero, i.size, i.bytes)) = some (some (.agg #[.int .i64 0, .int .i64 0, .int .i64 0, .int .i64 0]), 4, 32) := by kernel_rfl
  obtain ⟨i0, hi0, hz0, hs0, hb0⟩ := info_parts hinfo
  clear hinfo
  have hnil := fun (W : World) (A : Option Addr) (n c : Nat) => Lib.run_eql_slice_nil (P := Try.prog) W 77 87 A n c 0 0 Try.underlying77
  cases A with
  | none =>
    have hn : xs = [] := by
      rcases xs with _ | ⟨x, xs⟩
      · rfl
      · exact absurd (h1 (by simp [T4.cells])) (by rintro ⟨b, o, h, _⟩; cases h)
    subst hn
    clear h1
    go_enter Try.func183, Try.ntmps183
    go_wp2_with fail
    go_ret
    exact ⟨none, 0, rfl, World.ownsRow_nil _ _ _ _, Below.refl _ _⟩
  | some ad =>
    have HX := hide h1; clear h1
    go_enter Try.func183, Try.ntmps183
    have ho0 := own_new0 w w.heap.size 87 4 (Nat.le_refl _)
    have hb1 : Below w.heap.size w (w.alloc (.cells #[] 87)) := (Below.refl _ _).alloc (Nat.le_refl _) _
    have HR := hide (Rd.below HX.out hb1)
    go_wp2_with (at_builtin; go_must (refine wp_app _ rfl _ _ 77 rfl w.heap.size 87 i0 (.agg #[.int .i64 0, .int .i64 0, .int .i64 0, .int .i64 0]) 4 32 Try.underlying77 hi0 hz0 hs0 hb0 rfl (by decide) _ _ _ rfl ho0 _ _ xs.length c _ rfl (by simp [flatMap_len T4.cells 4 (fun _ => rfl)]) HR.out (T4.ones _) (by omega) (by decide) (by simp) ?_); intro v' w1 hown' hgrow hat)
    go_ret
    simp only [Nat.zero_add, List.nil_append] at hown'
    obtain ⟨A', c', rfl, _⟩ := own_shape hown'
    exact ⟨A', c', rfl, hown', app_below hb1 ho0 hgrow (Nat.le_refl _) (by simp)⟩
set_option maxRecDepth 100000 in
set_option maxHeartbeats 1000000 in
theorem specSameMoves_any (xs ys : List T3) (A1 A2 : Option Addr) (c1 c2 : Nat) (w : World) (hx : xs.length ≤ 9223372036854775807) (hy : ys.length ≤ 9223372036854775807)
    (h1 : Rd3 w w.heap.size A1 xs) (h2 : Rd3 w w.heap.size A2 ys) :
    Calls Try.prog 34 #[.slice A1 xs.length c1, .slice A2 ys.length c2] w fun e w' => e = .returned (.bool (decide (xs = ys))) ∧ Below w.heap.size w w' := by
  by_cases hl : xs.length = ys.length
  · have hB : ((xs.length : Int) != ys.length) = false := by simp [hl]
    have hst : Try.prog.stoodInHeld 143 = false := by kernel_rfl
    have hgu : Try.prog.eqGuardType Try.prog.depth 143 = false := by kernel_rfl
    have HL := hide hl; clear hl
    go_enter Try.func34, Try.ntmps34
    go_wp2_with fail
    go_loopg [5] xs.length (fun g i wr => ∃ k : Nat, k ≤ xs.length ∧ Hid (g = xs.length - k) ∧ i = .int .i64 k ∧ Below w.heap.size w wr ∧ Hid (xs = ys ↔ xs.drop k = ys.drop k))
    case atStart => exact ⟨0, by omega, by simp [Hid], rfl, Below.refl _ _, by simp [Hid]⟩
    case round =>
      obtain ⟨k, hk, hg, rfl, hb, HE⟩ := hrel
      by_cases hlt : k < xs.length
      · have hlt2 : k < ys.length := by have := HL.out; omega
        obtain ⟨b1, o1, z1, rfl, _, hz1, hc1a, hc1b, hc1c⟩ := (h1.below hb).at_ hlt
        obtain ⟨b2, o2, z2, rfl, _, hz2, hc2a, hc2b, hc2c⟩ := (h2.below hb).at_ hlt2
        have Z1 := hide hz1; have Z2 := hide hz2; clear hz1 hz2 h1 h2
        have hE : decide (xs = ys) = (decide (z1 = z2) && decide (xs.drop (k + 1) = ys.drop (k + 1))) := by
          have h := HE.out
          rw [drop_cons Z1.out, drop_cons Z2.out] at h
          rw [Bool.eq_iff_iff]; simpa using h
        have HE' := hide hE
        clear hE
        obtain ⟨p0, p1, p2⟩ := z1
        obtain ⟨q0, q1, q2⟩ := z2
        dsimp only at *
        by_cases e0 : p0 = q0
        case neg =>
          have hB0 : (p0 == q0) = false := by simp [e0]
          have E0 := hide e0; clear e0
          go_wp2_with fail
          go_quiet (fail)
          go_wp2_with fail
          go_ret
          exact ⟨ret_b (by rw [HE'.out]; simp [E0.out]), bdn hb _⟩
        have hB0 : (p0 == q0) = true := by simp [e0]
        have E0 := hide e0; clear e0
        by_cases e1 : p1 = q1
        case neg =>
          have hB1 : (p1 == q1) = false := by simp [e1]
          have E1 := hide e1; clear e1
          go_wp2_with fail
          go_quiet (fail)
          go_wp2_with fail
          go_ret
          exact ⟨ret_b (by rw [HE'.out]; simp [E1.out]), bdn hb _⟩
        have hB1 : (p1 == q1) = true := by simp [e1]
        have E1 := hide e1; clear e1
        by_cases e2 : p2 = q2
        case neg =>
          have hB2 : (p2 == q2) = false := by simp [e2]
          have E2 := hide e2; clear e2
          go_wp2_with fail
          go_quiet (fail)
          go_wp2_with fail
          go_ret
          exact ⟨ret_b (by rw [HE'.out]; simp [E2.out]), bdn hb _⟩
        have hB2 : (p2 == q2) = true := by simp [e2]
        have E2 := hide e2; clear e2
        go_wp2_with fail
        go_quiet (fail)
        go_wp2_with fail
        go_roundg (xs.length - (k + 1))
        case measure => have := hg.out; omega
        case rel => exact ⟨k + 1, by omega, rfl, by go_num, bdn hb _, hide (by have := HE'.out; simpa [E0.out, E1.out, E2.out] using this)⟩
      · go_wp2_with fail
        go_ret
        refine ⟨ret_b ?_, hb⟩
        have h := HE.out
        rw [List.drop_eq_nil_of_le (by omega), List.drop_eq_nil_of_le (by have := HL.out; omega)] at h
        simpa using h
  · have hB : ((xs.length : Int) != ys.length) = true := by simp; omega
    have HL := hide hl; clear hl
    go_enter Try.func34, Try.ntmps34
    go_wp2_with fail
    go_ret
    exact ⟨ret_b (by simp; intro e; exact HL.out (by rw [e])), Below.refl _ _⟩
end Go.Proofs.Ytklfjekpeoigoaa
