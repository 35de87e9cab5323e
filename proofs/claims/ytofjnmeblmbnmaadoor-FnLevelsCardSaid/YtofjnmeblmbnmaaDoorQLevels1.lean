/-
  The words of the exact laws: 'R': a value reads as x; 'O': it is memory of the law's own, in blocks lo .. hi. The helpers' contracts in these words. Printed by gen_law.py.
  Zones with their changes as a value: a record of a number and two slices. The words of the laws for it, and the laws' helpers by contract.
  Contracts of slices.Equal and slices.Clone at the program's element types. Printed by gen_lib.py.
-/
import Derived.Test.YtofjnmeblmbnmaaDoorQLevels0
import Derived.Lib.SliceRun
import Derived.Deep.DeepMust
namespace Go.Proofs.YtofjnmeblmbnmaaDoor
open Go.RowKit

/-- Only blocks lo .. hi, and new ones, have turned. -/
def Only (lo hi : Nat) (w w' : World) : Prop :=
  w'.os = w.os ∧ w'.tape = w.tape ∧ w'.output = w.output ∧ w.heap.size ≤ w'.heap.size ∧ ∀ k, k < w.heap.size → (k < lo ∨ hi ≤ k) → w'.heap[k]? = w.heap[k]?
theorem Only.size {lo hi : Nat} {w w' : World} (h : Only lo hi w w') : w.heap.size ≤ w'.heap.size := h.2.2.2.1
theorem Only.below {lo hi : Nat} {w w' : World} (h : Only lo hi w w') {B : Nat} (hB : B ≤ lo) (hB' : B ≤ w.heap.size) : Below B w w' :=
  ⟨h.1, h.2.1, h.2.2.1, h.2.2.2.1, fun k hk => h.2.2.2.2 k (by omega) (.inl (by omega))⟩
theorem only_row {w w' : World} {r : Option Nat} {lo hi : Nat} (h : w.grownBy w' r) (hr : ∀ g, r = some g → lo ≤ g ∧ g < hi) : Only lo hi w w' :=
  ⟨h.os, h.tape, h.output, h.size, fun k hk ho => h.block k hk (fun e => by have := hr k e.symm; omega)⟩
theorem only_of_below {w w' : World} {lo hi : Nat} (h : Below w.heap.size w w') : Only lo hi w w' := ⟨h.os, h.tape, h.output, h.size, fun k hk _ => h.block k hk⟩
theorem only_trans {w w1 w2 : World} {lo hi : Nat} (h : Only lo hi w w1) (k : Only lo hi w1 w2) : Only lo hi w w2 :=
  ⟨k.1.trans h.1, k.2.1.trans h.2.1, k.2.2.1.trans h.2.2.1, Nat.le_trans h.size k.size, fun i hi' ho => (k.2.2.2.2 i (Nat.lt_of_lt_of_le hi' h.size) ho).trans (h.2.2.2.2 i hi' ho)⟩
/-- A row of the call's own, of elements with s cells. -/
def OwnV (e : TypeId) (s : Nat) (w : World) (lo hi : Nat) (v : Value) (n : Nat) (xs : List Value) : Prop :=
  (∃ A c, v = .slice A n c) ∧ n ≤ 1048576 ∧ ((n = 0 ∧ xs = []) ∨ (w.ownsRow lo e s v n xs ∧ ∀ g, v.ownBlock = some g → g < hi))
theorem OwnV.of_row {e : TypeId} {s : Nat} {w : World} {lo : Nat} {v : Value} {n : Nat} {xs : List Value} (h : w.ownsRow lo e s v n xs) (hn : n ≤ 1048576) : OwnV e s w lo w.heap.size v n xs := by
  obtain ⟨A, c, rfl, _⟩ := own_shape h
  exact ⟨⟨A, c, rfl⟩, hn, .inr ⟨h, fun g hg => (h.lt g hg).2⟩⟩
theorem OwnV.nil (e : TypeId) (s : Nat) (w : World) (lo hi : Nat) (A : Option Addr) (c : Nat) : OwnV e s w lo hi (.slice A 0 c) 0 [] := ⟨⟨A, c, rfl⟩, by omega, .inl ⟨rfl, rfl⟩⟩
theorem OwnV.kept {e : TypeId} {s : Nat} {w w' : World} {lo hi lo' hi' : Nat} {v : Value} {n : Nat} {xs : List Value} (h : OwnV e s w lo hi v n xs) (k : Only lo' hi' w w') (hd : hi ≤ lo' ∨ hi' ≤ lo) : OwnV e s w' lo hi v n xs := by
  refine ⟨h.1, h.2.1, ?_⟩
  rcases h.2.2 with h0 | ⟨ho, hlt⟩
  · exact .inl h0
  · refine .inr ⟨⟨ho.1, ?_⟩, hlt⟩
    rcases ho.2 with h0 | ⟨g, cap, cur, rfl, hb, hg, rest⟩
    · exact .inl h0
    · refine .inr ⟨g, cap, cur, rfl, hb, ?_, rest⟩
      have := hlt g rfl
      rw [k.2.2.2.2 g (lt_of_block hg) (by omega)]; exact hg
theorem OwnV.below {e : TypeId} {s : Nat} {w w' : World} {lo hi B : Nat} {v : Value} {n : Nat} {xs : List Value} (h : OwnV e s w lo hi v n xs) (k : Below B w w') (hd : hi ≤ B) : OwnV e s w' lo hi v n xs := by
  refine ⟨h.1, h.2.1, ?_⟩
  rcases h.2.2 with h0 | ⟨ho, hlt⟩
  · exact .inl h0
  · refine .inr ⟨⟨ho.1, ?_⟩, hlt⟩
    rcases ho.2 with h0 | ⟨g, cap, cur, rfl, hb, hg, rest⟩
    · exact .inl h0
    · refine .inr ⟨g, cap, cur, rfl, hb, ?_, rest⟩
      have := hlt g rfl
      rw [k.block g (by omega)]; exact hg
theorem OwnV.widen {e : TypeId} {s : Nat} {w : World} {lo hi lo' hi' : Nat} {v : Value} {n : Nat} {xs : List Value} (h : OwnV e s w lo hi v n xs) (h1 : lo' ≤ lo) (h2 : hi ≤ hi') : OwnV e s w lo' hi' v n xs := by
  refine ⟨h.1, h.2.1, ?_⟩
  rcases h.2.2 with h0 | ⟨ho, hlt⟩
  · exact .inl h0
  · exact .inr ⟨own_base ho h1, fun g hg => Nat.lt_of_lt_of_le (hlt g hg) h2⟩
theorem OwnV.rd {e : TypeId} {s : Nat} {w : World} {lo hi : Nat} {v : Value} {n : Nat} {xs : List Value} (h : OwnV e s w lo hi v n xs) : ∃ A c, v = .slice A n c ∧ Rd w w.heap.size A xs := by
  obtain ⟨⟨A, c, rfl⟩, _, h0 | ⟨ho, _⟩⟩ := h
  · obtain ⟨rfl, rfl⟩ := h0; exact ⟨A, c, rfl, Rd.nil _ _ _⟩
  · exact ⟨A, c, rfl, Rd.of_own ho⟩

/-! ### Int64S -/
def R_Int64S (w : World) (B : Nat) (v : Value) (x : List Int) : Prop := ∃ A c, v = .slice A x.length c ∧ RdI w B A x
def O_Int64S (w : World) (lo hi : Nat) (v : Value) (x : List Int) : Prop := OwnV 2 1 w lo hi v x.length (x.map (Value.int .i64))
theorem R_Int64S.below {w w' : World} {B : Nat} {v : Value} {x : List Int} (h : R_Int64S w B v x) (k : Below B w w') : R_Int64S w' B v x := by
  obtain ⟨A, c, rfl, h⟩ := h; exact ⟨A, c, rfl, h.below k⟩
theorem R_Int64S.more {w : World} {B B' : Nat} {v : Value} {x : List Int} (h : R_Int64S w B v x) (k : B ≤ B') : R_Int64S w B' v x := by
  obtain ⟨A, c, rfl, h⟩ := h; exact ⟨A, c, rfl, h.more k⟩
theorem O_Int64S.r {w : World} {lo hi : Nat} {v : Value} {x : List Int} (h : O_Int64S w lo hi v x) : R_Int64S w w.heap.size v x := h.rd
theorem O_Int64S.small {w : World} {lo hi : Nat} {v : Value} {x : List Int} (h : O_Int64S w lo hi v x) : x.length ≤ 1048576 := h.2.1
theorem O_Int64S.kept {w w' : World} {lo hi lo' hi' : Nat} {v : Value} {x : List Int} (h : O_Int64S w lo hi v x) (k : Only lo' hi' w w') (hd : hi ≤ lo' ∨ hi' ≤ lo) : O_Int64S w' lo hi v x := OwnV.kept h k hd
theorem O_Int64S.below {w w' : World} {lo hi B : Nat} {v : Value} {x : List Int} (h : O_Int64S w lo hi v x) (k : Below B w w') (hd : hi ≤ B) : O_Int64S w' lo hi v x := OwnV.below h k hd
theorem O_Int64S.widen {w : World} {lo hi lo' hi' : Nat} {v : Value} {x : List Int} (h : O_Int64S w lo hi v x) (h1 : lo' ≤ lo) (h2 : hi ≤ hi') : O_Int64S w lo' hi' v x := OwnV.widen h h1 h2
theorem O_Int64S.nil (w : World) (lo hi : Nat) (A : Option Addr) (c : Nat) : O_Int64S w lo hi (.slice A 0 c) [] := OwnV.nil _ _ _ _ _ _ _
def mark_Int64S (x : List Int) (k : Int) : List Int := marks (mkI k) x.length
def cnt_Int64S (x : List Int) : Int := x.length
theorem O_Int64S.cnt {w : World} {lo hi : Nat} {v : Value} {x : List Int} (h : O_Int64S w lo hi v x) : 0 ≤ cnt_Int64S x ∧ cnt_Int64S x ≤ 4194304 := by
  have := h.small
  unfold cnt_Int64S; omega




/-! ### ChangeS -/
def R_ChangeS (w : World) (B : Nat) (v : Value) (x : List T3) : Prop := ∃ A c, v = .slice A x.length c ∧ Rd3 w B A x
def O_ChangeS (w : World) (lo hi : Nat) (v : Value) (x : List T3) : Prop := OwnV 41 3 w lo hi v x.length (x.flatMap T3.cells)
theorem R_ChangeS.below {w w' : World} {B : Nat} {v : Value} {x : List T3} (h : R_ChangeS w B v x) (k : Below B w w') : R_ChangeS w' B v x := by
  obtain ⟨A, c, rfl, h⟩ := h; exact ⟨A, c, rfl, h.below k⟩
theorem R_ChangeS.more {w : World} {B B' : Nat} {v : Value} {x : List T3} (h : R_ChangeS w B v x) (k : B ≤ B') : R_ChangeS w B' v x := by
  obtain ⟨A, c, rfl, h⟩ := h; exact ⟨A, c, rfl, h.more k⟩
theorem O_ChangeS.r {w : World} {lo hi : Nat} {v : Value} {x : List T3} (h : O_ChangeS w lo hi v x) : R_ChangeS w w.heap.size v x := h.rd
theorem O_ChangeS.small {w : World} {lo hi : Nat} {v : Value} {x : List T3} (h : O_ChangeS w lo hi v x) : x.length ≤ 1048576 := h.2.1
theorem O_ChangeS.kept {w w' : World} {lo hi lo' hi' : Nat} {v : Value} {x : List T3} (h : O_ChangeS w lo hi v x) (k : Only lo' hi' w w') (hd : hi ≤ lo' ∨ hi' ≤ lo) : O_ChangeS w' lo hi v x := OwnV.kept h k hd
theorem O_ChangeS.below {w w' : World} {lo hi B : Nat} {v : Value} {x : List T3} (h : O_ChangeS w lo hi v x) (k : Below B w w') (hd : hi ≤ B) : O_ChangeS w' lo hi v x := OwnV.below h k hd
theorem O_ChangeS.widen {w : World} {lo hi lo' hi' : Nat} {v : Value} {x : List T3} (h : O_ChangeS w lo hi v x) (h1 : lo' ≤ lo) (h2 : hi ≤ hi') : O_ChangeS w lo' hi' v x := OwnV.widen h h1 h2
theorem O_ChangeS.nil (w : World) (lo hi : Nat) (A : Option Addr) (c : Nat) : O_ChangeS w lo hi (.slice A 0 c) [] := OwnV.nil _ _ _ _ _ _ _
def mark_ChangeS (x : List T3) (k : Int) : List T3 := marks (mk3 k) x.length
def cnt_ChangeS (x : List T3) : Int := 3 * x.length
theorem O_ChangeS.cnt {w : World} {lo hi : Nat} {v : Value} {x : List T3} (h : O_ChangeS w lo hi v x) : 0 ≤ cnt_ChangeS x ∧ cnt_ChangeS x ≤ 4194304 := by
  have := h.small
  unfold cnt_ChangeS; omega


end Go.Proofs.YtofjnmeblmbnmaaDoor
namespace Go.Proofs.YtofjnmeblmbnmaaDoor
open Go.RowKit

structure TZ where
  z : Int
  of : List Int
  ch : List T3
def TZ.Fits (x : TZ) : Prop := (-9223372036854775808 ≤ x.z ∧ x.z ≤ 9223372036854775807) ∧ (∀ z ∈ x.of, -9223372036854775808 ≤ z ∧ z ≤ 9223372036854775807) ∧ (∀ z ∈ x.ch, z.Fits)
def Fit_Zoned (x : TZ) : Prop := x.Fits
def size_Zoned (x : TZ) : Nat := x.of.length + x.ch.length
def Small_Zoned (x : TZ) : Prop := x.of.length ≤ 1048576 ∧ x.ch.length ≤ 1048576
def Len_Zoned (x : TZ) : Prop := x.of.length ≤ 9223372036854775807 ∧ x.ch.length ≤ 9223372036854775807
theorem small_Zoned {x : TZ} (h : (size_Zoned x : Int) ≤ 1048576) : Small_Zoned x := by unfold size_Zoned at h; exact ⟨by omega, by omega⟩
def R_Zoned (w : World) (B : Nat) (v : Value) (x : TZ) : Prop := ∃ A c A2 c2, v = .agg #[.int .i64 x.z, .slice A x.of.length c, .slice A2 x.ch.length c2] ∧ RdI w B A x.of ∧ Rd3 w B A2 x.ch
def O_Zoned (w : World) (lo hi : Nat) (v : Value) (x : TZ) : Prop := ∃ a b m, v = .agg #[.int .i64 x.z, a, b] ∧ lo ≤ m ∧ m ≤ hi ∧ O_Int64S w lo m a x.of ∧ O_ChangeS w m hi b x.ch
theorem R_Zoned.below {w w' : World} {B : Nat} {v : Value} {x : TZ} (h : R_Zoned w B v x) (k : Below B w w') : R_Zoned w' B v x := by
  obtain ⟨A, c, A2, c2, rfl, h1, h2⟩ := h; exact ⟨A, c, A2, c2, rfl, h1.below k, h2.below k⟩
theorem R_Zoned.more {w : World} {B B' : Nat} {v : Value} {x : TZ} (h : R_Zoned w B v x) (k : B ≤ B') : R_Zoned w B' v x := by
  obtain ⟨A, c, A2, c2, rfl, h1, h2⟩ := h; exact ⟨A, c, A2, c2, rfl, h1.more k, h2.more k⟩
theorem O_Zoned.r {w : World} {lo hi : Nat} {v : Value} {x : TZ} (h : O_Zoned w lo hi v x) : R_Zoned w w.heap.size v x := by
  obtain ⟨a, b, m, rfl, _, _, h1, h2⟩ := h
  obtain ⟨A, c, rfl, r1⟩ := h1.r
  obtain ⟨A2, c2, rfl, r2⟩ := h2.r
  exact ⟨A, c, A2, c2, rfl, r1, r2⟩
theorem O_Zoned.small {w : World} {lo hi : Nat} {v : Value} {x : TZ} (h : O_Zoned w lo hi v x) : Small_Zoned x := by
  obtain ⟨a, b, m, rfl, _, _, h1, h2⟩ := h
  exact ⟨h1.small, h2.small⟩
theorem O_Zoned.kept {w w' : World} {lo hi lo' hi' : Nat} {v : Value} {x : TZ} (h : O_Zoned w lo hi v x) (k : Only lo' hi' w w') (hd : hi ≤ lo' ∨ hi' ≤ lo) : O_Zoned w' lo hi v x := by
  obtain ⟨a, b, m, rfl, l1, l2, h1, h2⟩ := h
  exact ⟨a, b, m, rfl, l1, l2, h1.kept k (by omega), h2.kept k (by omega)⟩
theorem O_Zoned.below {w w' : World} {lo hi B : Nat} {v : Value} {x : TZ} (h : O_Zoned w lo hi v x) (k : Below B w w') (hd : hi ≤ B) : O_Zoned w' lo hi v x := by
  obtain ⟨a, b, m, rfl, l1, l2, h1, h2⟩ := h
  exact ⟨a, b, m, rfl, l1, l2, h1.below k (by omega), h2.below k (by omega)⟩
theorem O_Zoned.widen {w : World} {lo hi lo' hi' : Nat} {v : Value} {x : TZ} (h : O_Zoned w lo hi v x) (h1 : lo' ≤ lo) (h2 : hi ≤ hi') : O_Zoned w lo' hi' v x := by
  obtain ⟨a, b, m, rfl, l1, l2, k1, k2⟩ := h
  exact ⟨a, b, m, rfl, by omega, by omega, k1.widen h1 (by omega), k2.widen (by omega) h2⟩
theorem O_Zoned.nil (w : World) (lo hi : Nat) (hl : lo ≤ hi) (A : Option Addr) (c : Nat) (A2 : Option Addr) (c2 : Nat) : O_Zoned w lo hi (.agg #[.int .i64 0, .slice A 0 c, .slice A2 0 c2]) ⟨0, [], []⟩ :=
  ⟨_, _, lo, rfl, Nat.le_refl _, hl, O_Int64S.nil _ _ _ _ _, O_ChangeS.nil _ _ _ _ _⟩
def mark_Zoned (x : TZ) (k : Int) : TZ := ⟨x.z, mark_Int64S x.of k, mark_ChangeS x.ch (k + cnt_Int64S x.of)⟩
def cnt_Zoned (x : TZ) : Int := cnt_Int64S x.of + cnt_ChangeS x.ch
theorem O_Zoned.cnt {w : World} {lo hi : Nat} {v : Value} {x : TZ} (h : O_Zoned w lo hi v x) : 0 ≤ cnt_Zoned x ∧ cnt_Zoned x ≤ 8388608 := by
  have := h.small
  unfold cnt_Zoned cnt_Int64S cnt_ChangeS; unfold Small_Zoned at this; omega
/-- A block with these cells, none of them frozen. -/
def BoxAt (w : World) (b : Nat) (cs : Array Value) (e : TypeId) : Prop := w.heap[b]? = some (.cells cs e (0, 0))
theorem BoxAt.new (w : World) (cs : Array Value) (e : TypeId) : BoxAt (w.alloc (.cells cs e)) w.heap.size cs e := heap_alloc_new w _
theorem BoxAt.lt {w : World} {b : Nat} {cs : Array Value} {e : TypeId} (h : BoxAt w b cs e) : b < w.heap.size := lt_of_block h
theorem BoxAt.alloc {w : World} {b : Nat} {cs : Array Value} {e : TypeId} (h : BoxAt w b cs e) (o : Obj) : BoxAt (w.alloc o) b cs e := by
  have := h.lt
  unfold BoxAt at *
  rw [heap_alloc_old _ _ this]; exact h
theorem BoxAt.below {w w' : World} {b B : Nat} {cs : Array Value} {e : TypeId} (h : BoxAt w b cs e) (k : Below B w w') (hb : b < B) : BoxAt w' b cs e := (k.block b hb).trans h
theorem BoxAt.cell {w : World} {b : Nat} {cs : Array Value} {e : TypeId} (h : BoxAt w b cs e) (j : Nat) : w.cell? ⟨b, j, none⟩ = cs.toList[j]? := by
  rw [cell_of_row w b j cs e (0, 0) h]; simp
theorem BoxAt.fro {w : World} {b : Nat} {cs : Array Value} {e : TypeId} (h : BoxAt w b cs e) (j : Nat) : w.frozen? ⟨b, j, none⟩ = false := frozen_of_row w b j cs e h
theorem BoxAt.set {w : World} {b : Nat} {cs : Array Value} {e : TypeId} (h : BoxAt w b cs e) (j : Nat) (v : Value) : BoxAt (w.setCell ⟨b, j, none⟩ v) b (cs.setIfInBounds j v) e := by
  unfold BoxAt at *
  simp [World.setCell, Array.getElem?_modify, h]
theorem BoxAt.other {w : World} {b b' : Nat} {cs : Array Value} {e : TypeId} (h : BoxAt w b cs e) (hne : b' ≠ b) (j : Nat) (v : Value) : BoxAt (w.setCell ⟨b', j, none⟩ v) b cs e := by
  unfold BoxAt at *
  rw [heap_setCell_other _ ⟨b', j, none⟩ _ v (Ne.symm hne)]; exact h
theorem Only.cell {lo hi : Nat} {w w' : World} (h : Only lo hi w w') {p : Addr} (h1 : p.block < w.heap.size) (h2 : p.block < lo ∨ hi ≤ p.block) : w'.cell? p = w.cell? p := by
  have := h.2.2.2.2 p.block h1 h2
  unfold World.cell?
  rw [this]
theorem only_set {w : World} {b j lo hi : Nat} {v : Value} (h1 : lo ≤ b) (h2 : b < hi) : Only lo hi w (w.setCell ⟨b, j, none⟩ v) :=
  ⟨rfl, rfl, rfl, by simp, fun k _ ho => heap_setCell_other w ⟨b, j, none⟩ _ v (by simp; omega)⟩
end Go.Proofs.YtofjnmeblmbnmaaDoor
namespace Go.Proofs.YtofjnmeblmbnmaaDoor
open Go.RowKit

set_option maxRecDepth 100000 in
set_option maxHeartbeats 1000000 in
theorem cloneI_any (xs : List Int) (A : Option Addr) (c : Nat) (w : World) (hx : xs.length ≤ 1048576) (h1 : RdI w w.heap.size A xs) :
    Calls Tryd.prog 85 #[.slice A xs.length c] w fun e w' => ∃ A' c', e = .returned (.slice A' xs.length c') ∧ w'.ownsRow w.heap.size 2 1 (.slice A' xs.length c') xs.length (xs.map (Value.int .i64)) ∧ Below w.heap.size w w' := by
  have hinfo : (Tryd.prog.info? 2).map (fun i => (i.zero, i.size, i.bytes)) = some (some (.int .i64 0), 1, 8) := by kernel_rfl
  obtain ⟨i0, hi0, hz0, hs0, hb0⟩ := info_parts hinfo
  clear hinfo
  have hnil := fun (W : World) (A : Option Addr) (n c : Nat) => Lib.run_eql_slice_nil (P := Tryd.prog) W 44 2 A n c 0 0 Tryd.underlying44
  cases A with
  | none =>
    have hn : xs = [] := by
      rcases xs with _ | ⟨x, xs⟩
      · rfl
      · exact absurd (h1 (by simp)) (by rintro ⟨b, o, h, _⟩; cases h)
    subst hn
    clear h1
    go_enter Tryd.func85, Tryd.ntmps85
    go_wp2_with fail
    go_ret
    exact ⟨none, 0, rfl, World.ownsRow_nil _ _ _ _, Below.refl _ _⟩
  | some ad =>
    have HX := hide h1; clear h1
    go_enter Tryd.func85, Tryd.ntmps85
    have ho0 := own_new0 w w.heap.size 2 1 (Nat.le_refl _)
    have hb1 : Below w.heap.size w (w.alloc (.cells #[] 2)) := (Below.refl _ _).alloc (Nat.le_refl _) _
    have HR := hide (Rd.below HX.out hb1)
    go_wp2_with (at_builtin; go_must (refine wp_app _ rfl _ _ 44 rfl w.heap.size 2 i0 (.int .i64 0) 1 8 Tryd.underlying44 hi0 hz0 hs0 hb0 rfl (by decide) _ _ _ rfl ho0 _ _ xs.length c _ rfl (by simp) HR.out (ints_one _) (by omega) (by decide) (by simp) ?_); intro v' w1 hown' hgrow hat)
    go_ret
    simp only [Nat.zero_add, List.nil_append] at hown'
    obtain ⟨A', c', rfl, _⟩ := own_shape hown'
    exact ⟨A', c', rfl, hown', app_below hb1 ho0 hgrow (Nat.le_refl _) (by simp)⟩
set_option maxRecDepth 100000 in
set_option maxHeartbeats 1000000 in
theorem cloneChange_any (xs : List T3) (A : Option Addr) (c : Nat) (w : World) (hx : xs.length ≤ 1048576) (h1 : Rd3 w w.heap.size A xs) :
    Calls Tryd.prog 87 #[.slice A xs.length c] w fun e w' => ∃ A' c', e = .returned (.slice A' xs.length c') ∧ w'.ownsRow w.heap.size 41 3 (.slice A' xs.length c') xs.length (xs.flatMap T3.cells) ∧ Below w.heap.size w w' := by
  have hinfo : (Tryd.prog.info? 41).map (fun i => (i.zero, i.size, i.bytes)) = some (some (.agg #[.int .i64 0, .int .i64 0, .int .i64 0]), 3, 24) := by kernel_rfl
  obtain ⟨i0, hi0, hz0, hs0, hb0⟩ := info_parts hinfo
  clear hinfo
  have hnil := fun (W : World) (A : Option Addr) (n c : Nat) => Lib.run_eql_slice_nil (P := Tryd.prog) W 45 41 A n c 0 0 Tryd.underlying45
  cases A with
  | none =>
    have hn : xs = [] := by
      rcases xs with _ | ⟨x, xs⟩
      · rfl
      · exact absurd (h1 (by simp [T3.cells])) (by rintro ⟨b, o, h, _⟩; cases h)
    subst hn
    clear h1
    go_enter Tryd.func87, Tryd.ntmps87
    go_wp2_with fail
    go_ret
    exact ⟨none, 0, rfl, World.ownsRow_nil _ _ _ _, Below.refl _ _⟩
  | some ad =>
    have HX := hide h1; clear h1
    go_enter Tryd.func87, Tryd.ntmps87
    have ho0 := own_new0 w w.heap.size 41 3 (Nat.le_refl _)
    have hb1 : Below w.heap.size w (w.alloc (.cells #[] 41)) := (Below.refl _ _).alloc (Nat.le_refl _) _
    have HR := hide (Rd.below HX.out hb1)
    go_wp2_with (at_builtin; go_must (refine wp_app _ rfl _ _ 45 rfl w.heap.size 41 i0 (.agg #[.int .i64 0, .int .i64 0, .int .i64 0]) 3 24 Tryd.underlying45 hi0 hz0 hs0 hb0 rfl (by decide) _ _ _ rfl ho0 _ _ xs.length c _ rfl (by simp [flatMap_len T3.cells 3 (fun _ => rfl)]) HR.out (T3.ones _) (by omega) (by decide) (by simp) ?_); intro v' w1 hown' hgrow hat)
    go_ret
    simp only [Nat.zero_add, List.nil_append] at hown'
    obtain ⟨A', c', rfl, _⟩ := own_shape hown'
    exact ⟨A', c', rfl, hown', app_below hb1 ho0 hgrow (Nat.le_refl _) (by simp)⟩
set_option maxRecDepth 100000 in
set_option maxHeartbeats 1000000 in
theorem equalChange_any (xs ys : List T3) (A1 A2 : Option Addr) (c1 c2 : Nat) (w : World) (hx : xs.length ≤ 9223372036854775807) (hy : ys.length ≤ 9223372036854775807)
    (h1 : Rd3 w w.heap.size A1 xs) (h2 : Rd3 w w.heap.size A2 ys) :
    Calls Tryd.prog 93 #[.slice A1 xs.length c1, .slice A2 ys.length c2] w fun e w' => e = .returned (.bool (decide (xs = ys))) ∧ Below w.heap.size w w' := by
  by_cases hl : xs.length = ys.length
  · have hB : ((xs.length : Int) != ys.length) = false := by simp [hl]
    have hst : Tryd.prog.stoodInHeld 41 = false := by kernel_rfl
    have hgu : Tryd.prog.eqGuardType Tryd.prog.depth 41 = false := by kernel_rfl
    have HL := hide hl; clear hl
    go_enter Tryd.func93, Tryd.ntmps93
    go_wp2_with fail
    go_loopg [13] xs.length (fun g i wr => ∃ k : Nat, k ≤ xs.length ∧ Hid (g = xs.length - k) ∧ i = .int .i64 k ∧ Below w.heap.size w wr ∧ Hid (xs = ys ↔ xs.drop k = ys.drop k))
    case atStart => exact ⟨0, by omega, by simp [Hid], rfl, Below.refl _ _, by simp [Hid]⟩
    case round =>
      obtain ⟨k, hk, hg, rfl, hb, HE⟩ := hrel
      by_cases hlt : k < xs.length
      · have hlt2 : k < ys.length := by have := HL.out; omega
        obtain ⟨b1, o1, z1, rfl, _, hz1, hc1a, hc1b, hc1c⟩ := (h1.below hb).at_ hlt
        obtain ⟨b2, o2, z2, rfl, _, hz2, hc2a, hc2b, hc2c⟩ := (h2.below hb).at_ hlt2
        have Z1 := hide hz1; have Z2 := hide hz2; clear hz1 hz2 h1 h2
        have hE : decide (xs = ys) = (decide (z1 = z2) && decide (xs.drop (k + 1) = ys.drop (k + 1))) := by
          have h := HE.out
          rw [drop_cons Z1.out, drop_cons Z2.out] at h
          rw [Bool.eq_iff_iff]; simpa using h
        have HE' := hide hE
        clear hE
        obtain ⟨p0, p1, p2⟩ := z1
        obtain ⟨q0, q1, q2⟩ := z2
        dsimp only at *
        by_cases e0 : p0 = q0
        case neg =>
          have hB0 : (p0 == q0) = false := by simp [e0]
          have E0 := hide e0; clear e0
          go_wp2_with fail
          go_quiet (fail)
          go_wp2_with fail
          go_ret
          exact ⟨ret_b (by rw [HE'.out]; simp [E0.out]), bdn hb _⟩
        have hB0 : (p0 == q0) = true := by simp [e0]
        have E0 := hide e0; clear e0
        by_cases e1 : p1 = q1
        case neg =>
          have hB1 : (p1 == q1) = false := by simp [e1]
          have E1 := hide e1; clear e1
          go_wp2_with fail
          go_quiet (fail)
          go_wp2_with fail
          go_ret
          exact ⟨ret_b (by rw [HE'.out]; simp [E1.out]), bdn hb _⟩
        have hB1 : (p1 == q1) = true := by simp [e1]
        have E1 := hide e1; clear e1
        by_cases e2 : p2 = q2
        case neg =>
          have hB2 : (p2 == q2) = false := by simp [e2]
          have E2 := hide e2; clear e2
          go_wp2_with fail
          go_quiet (fail)
          go_wp2_with fail
          go_ret
          exact ⟨ret_b (by rw [HE'.out]; simp [E2.out]), bdn hb _⟩
        have hB2 : (p2 == q2) = true := by simp [e2]
        have E2 := hide e2; clear e2
        go_wp2_with fail
        go_quiet (fail)
        go_wp2_with fail
        go_roundg (xs.length - (k + 1))
        case measure => have := hg.out; omega
        case rel => exact ⟨k + 1, by omega, rfl, by go_num, bdn hb _, hide (by have := HE'.out; simpa [E0.out, E1.out, E2.out] using this)⟩
      · go_wp2_with fail
        go_ret
        refine ⟨ret_b ?_, hb⟩
        have h := HE.out
        rw [List.drop_eq_nil_of_le (by omega), List.drop_eq_nil_of_le (by have := HL.out; omega)] at h
        simpa using h
  · have hB : ((xs.length : Int) != ys.length) = true := by simp; omega
    have HL := hide hl; clear hl
    go_enter Tryd.func93, Tryd.ntmps93
    go_wp2_with fail
    go_ret
    exact ⟨ret_b (by simp; intro e; exact HL.out (by rw [e])), Below.refl _ _⟩
end Go.Proofs.YtofjnmeblmbnmaaDoor
