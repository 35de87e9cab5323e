/-
  The words of the exact laws: 'R': a value reads as x; 'O': it is memory of the law's own, in blocks lo .. hi. The helpers' contracts in these words. Printed by gen_law.py.
  Stocks: the contracts of the reference and of the program in the laws' words.
  Contracts of slices.Equal and slices.Clone at the program's element types. Printed by gen_lib.py.
-/
import Derived.Test.YtklfjekpeoigoaaQMovesBack1
import Derived.Test.YtklfjekpeoigoaaQMovesBack2
import Derived.Lib.SliceRun
import Derived.Deep.DeepMust
namespace Go.Proofs.Ytklfjekpeoigoaa
open Go.RowKit

/-- Only blocks lo .. hi, and new ones, have turned. -/
def Only (lo hi : Nat) (w w' : World) : Prop :=
  w'.os = w.os ∧ w'.tape = w.tape ∧ w'.output = w.output ∧ w.heap.size ≤ w'.heap.size ∧ ∀ k, k < w.heap.size → (k < lo ∨ hi ≤ k) → w'.heap[k]? = w.heap[k]?
theorem Only.size {lo hi : Nat} {w w' : World} (h : Only lo hi w w') : w.heap.size ≤ w'.heap.size := h.2.2.2.1
theorem Only.below {lo hi : Nat} {w w' : World} (h : Only lo hi w w') {B : Nat} (hB : B ≤ lo) (hB' : B ≤ w.heap.size) : Below B w w' :=
  ⟨h.1, h.2.1, h.2.2.1, h.2.2.2.1, fun k hk => h.2.2.2.2 k (by omega) (.inl (by omega))⟩
theorem only_row {w w' : World} {r : Option Nat} {lo hi : Nat} (h : w.grownBy w' r) (hr : ∀ g, r = some g → lo ≤ g ∧ g < hi) : Only lo hi w w' :=
  ⟨h.os, h.tape, h.output, h.size, fun k hk ho => h.block k hk (fun e => by have := hr k e.symm; omega)⟩
theorem only_of_below {w w' : World} {lo hi : Nat} (h : Below w.heap.size w w') : Only lo hi w w' := ⟨h.os, h.tape, h.output, h.size, fun k hk _ => h.block k hk⟩
theorem only_trans {w w1 w2 : World} {lo hi : Nat} (h : Only lo hi w w1) (k : Only lo hi w1 w2) : Only lo hi w w2 :=
  ⟨k.1.trans h.1, k.2.1.trans h.2.1, k.2.2.1.trans h.2.2.1, Nat.le_trans h.size k.size, fun i hi' ho => (k.2.2.2.2 i (Nat.lt_of_lt_of_le hi' h.size) ho).trans (h.2.2.2.2 i hi' ho)⟩
/-- A row of the call's own, of elements with s cells. -/
def OwnV (e : TypeId) (s : Nat) (w : World) (lo hi : Nat) (v : Value) (n : Nat) (xs : List Value) : Prop :=
  (∃ A c, v = .slice A n c) ∧ n ≤ 1048576 ∧ ((n = 0 ∧ xs = []) ∨ (w.ownsRow lo e s v n xs ∧ ∀ g, v.ownBlock = some g → g < hi))
theorem OwnV.of_row {e : TypeId} {s : Nat} {w : World} {lo : Nat} {v : Value} {n : Nat} {xs : List Value} (h : w.ownsRow lo e s v n xs) (hn : n ≤ 1048576) : OwnV e s w lo w.heap.size v n xs := by
  obtain ⟨A, c, rfl, _⟩ := own_shape h
  exact ⟨⟨A, c, rfl⟩, hn, .inr ⟨h, fun g hg => (h.lt g hg).2⟩⟩
theorem OwnV.nil (e : TypeId) (s : Nat) (w : World) (lo hi : Nat) (A : Option Addr) (c : Nat) : OwnV e s w lo hi (.slice A 0 c) 0 [] := ⟨⟨A, c, rfl⟩, by omega, .inl ⟨rfl, rfl⟩⟩
theorem OwnV.kept {e : TypeId} {s : Nat} {w w' : World} {lo hi lo' hi' : Nat} {v : Value} {n : Nat} {xs : List Value} (h : OwnV e s w lo hi v n xs) (k : Only lo' hi' w w') (hd : hi ≤ lo' ∨ hi' ≤ lo) : OwnV e s w' lo hi v n xs := by
  refine ⟨h.1, h.2.1, ?_⟩
  rcases h.2.2 with h0 | ⟨ho, hlt⟩
  · exact .inl h0
  · refine .inr ⟨⟨ho.1, ?_⟩, hlt⟩
    rcases ho.2 with h0 | ⟨g, cap, cur, rfl, hb, hg, rest⟩
    · exact .inl h0
    · refine .inr ⟨g, cap, cur, rfl, hb, ?_, rest⟩
      have := hlt g rfl
      rw [k.2.2.2.2 g (lt_of_block hg) (by omega)]; exact hg
theorem OwnV.below {e : TypeId} {s : Nat} {w w' : World} {lo hi B : Nat} {v : Value} {n : Nat} {xs : List Value} (h : OwnV e s w lo hi v n xs) (k : Below B w w') (hd : hi ≤ B) : OwnV e s w' lo hi v n xs := by
  refine ⟨h.1, h.2.1, ?_⟩
  rcases h.2.2 with h0 | ⟨ho, hlt⟩
  · exact .inl h0
  · refine .inr ⟨⟨ho.1, ?_⟩, hlt⟩
    rcases ho.2 with h0 | ⟨g, cap, cur, rfl, hb, hg, rest⟩
    · exact .inl h0
    · refine .inr ⟨g, cap, cur, rfl, hb, ?_, rest⟩
      have := hlt g rfl
      rw [k.block g (by omega)]; exact hg
theorem OwnV.widen {e : TypeId} {s : Nat} {w : World} {lo hi lo' hi' : Nat} {v : Value} {n : Nat} {xs : List Value} (h : OwnV e s w lo hi v n xs) (h1 : lo' ≤ lo) (h2 : hi ≤ hi') : OwnV e s w lo' hi' v n xs := by
  refine ⟨h.1, h.2.1, ?_⟩
  rcases h.2.2 with h0 | ⟨ho, hlt⟩
  · exact .inl h0
  · exact .inr ⟨own_base ho h1, fun g hg => Nat.lt_of_lt_of_le (hlt g hg) h2⟩
theorem OwnV.rd {e : TypeId} {s : Nat} {w : World} {lo hi : Nat} {v : Value} {n : Nat} {xs : List Value} (h : OwnV e s w lo hi v n xs) : ∃ A c, v = .slice A n c ∧ Rd w w.heap.size A xs := by
  obtain ⟨⟨A, c, rfl⟩, _, h0 | ⟨ho, _⟩⟩ := h
  · obtain ⟨rfl, rfl⟩ := h0; exact ⟨A, c, rfl, Rd.nil _ _ _⟩
  · exact ⟨A, c, rfl, Rd.of_own ho⟩

/-! ### Int64S -/
def R_Int64S (w : World) (B : Nat) (v : Value) (x : List Int) : Prop := ∃ A c, v = .slice A x.length c ∧ RdI w B A x
def O_Int64S (w : World) (lo hi : Nat) (v : Value) (x : List Int) : Prop := OwnV 2 1 w lo hi v x.length (x.map (Value.int .i64))
theorem R_Int64S.below {w w' : World} {B : Nat} {v : Value} {x : List Int} (h : R_Int64S w B v x) (k : Below B w w') : R_Int64S w' B v x := by
  obtain ⟨A, c, rfl, h⟩ := h; exact ⟨A, c, rfl, h.below k⟩
theorem R_Int64S.more {w : World} {B B' : Nat} {v : Value} {x : List Int} (h : R_Int64S w B v x) (k : B ≤ B') : R_Int64S w B' v x := by
  obtain ⟨A, c, rfl, h⟩ := h; exact ⟨A, c, rfl, h.more k⟩
theorem O_Int64S.r {w : World} {lo hi : Nat} {v : Value} {x : List Int} (h : O_Int64S w lo hi v x) : R_Int64S w w.heap.size v x := h.rd
theorem O_Int64S.small {w : World} {lo hi : Nat} {v : Value} {x : List Int} (h : O_Int64S w lo hi v x) : x.length ≤ 1048576 := h.2.1
theorem O_Int64S.kept {w w' : World} {lo hi lo' hi' : Nat} {v : Value} {x : List Int} (h : O_Int64S w lo hi v x) (k : Only lo' hi' w w') (hd : hi ≤ lo' ∨ hi' ≤ lo) : O_Int64S w' lo hi v x := OwnV.kept h k hd
theorem O_Int64S.below {w w' : World} {lo hi B : Nat} {v : Value} {x : List Int} (h : O_Int64S w lo hi v x) (k : Below B w w') (hd : hi ≤ B) : O_Int64S w' lo hi v x := OwnV.below h k hd
theorem O_Int64S.widen {w : World} {lo hi lo' hi' : Nat} {v : Value} {x : List Int} (h : O_Int64S w lo hi v x) (h1 : lo' ≤ lo) (h2 : hi ≤ hi') : O_Int64S w lo' hi' v x := OwnV.widen h h1 h2
theorem O_Int64S.nil (w : World) (lo hi : Nat) (A : Option Addr) (c : Nat) : O_Int64S w lo hi (.slice A 0 c) [] := OwnV.nil _ _ _ _ _ _ _
def mark_Int64S (x : List Int) (k : Int) : List Int := marks (mkI k) x.length
def cnt_Int64S (x : List Int) : Int := x.length
theorem O_Int64S.cnt {w : World} {lo hi : Nat} {v : Value} {x : List Int} (h : O_Int64S w lo hi v x) : 0 ≤ cnt_Int64S x ∧ cnt_Int64S x ≤ 4194304 := by
  have := h.small
  unfold cnt_Int64S; omega
theorem L_to_Int64S (x : List Int) (v : Value) (w : World) (hs : x.length ≤ 1048576) (h : R_Int64S w w.heap.size v x) :
    Calls Try.prog 13 #[v] w fun e w' => ∃ v', e = .returned v' ∧ O_Int64S w' w.heap.size w'.heap.size v' x ∧ Below w.heap.size w w' := by
  obtain ⟨A, c, rfl, h⟩ := h
  exact (toInt64S_any x A c w hs h).mono fun e w' ⟨A', c', he, ho, hb⟩ => ⟨_, he, OwnV.of_row ho hs, hb⟩
theorem L_eq_Int64S (x : List Int) (v1 v2 : Value) (lo1 hi1 lo2 hi2 : Nat) (w : World) (h1 : O_Int64S w lo1 hi1 v1 x) (h2 : O_Int64S w lo2 hi2 v2 x) :
    Calls Try.prog 17 #[v1, v2] w fun e w' => e = .returned (.bool true) ∧ Below w.heap.size w w' := by
  have hs := h1.small
  obtain ⟨A1, c1, rfl, r1⟩ := h1.r
  obtain ⟨A2, c2, rfl, r2⟩ := h2.r
  exact (eqInt64S_any x x A1 A2 c1 c2 w (by omega) (by omega) r1 r2).mono fun e w' ⟨he, hb⟩ => ⟨by rw [he]; simp, hb⟩
theorem L_sz_Int64S (x : List Int) (v : Value) (left : Int) (B : Nat) (w : World) (hx : x.length ≤ 9223372036854775807) (hl : 0 ≤ left) (hl2 : left ≤ 1048576) (h : R_Int64S w B v x) :
    Calls Try.prog 118 #[v, .int .i64 left] w fun e w' => e = .returned (.int .i64 (szF x.length left)) ∧ w = w' := by
  obtain ⟨A, c, rfl, h⟩ := h
  exact szInt64S_any A x.length c left w hx hl hl2
theorem L_mark_Int64S (x : List Int) (v : Value) (k : Int) (lo hi : Nat) (w : World) (hk0 : 0 ≤ k) (hk1 : k ≤ 1099511627776) (h : O_Int64S w lo hi v x) :
    Calls Try.prog 19 #[v, .int .i64 k] w fun e w' => e = .returned (.int .i64 (k + cnt_Int64S x)) ∧ O_Int64S w' lo hi v (mark_Int64S x k) ∧ Only lo hi w w' := by
  have hs := h.small
  obtain ⟨⟨A, c, rfl⟩, _, ⟨hn, hx⟩ | ⟨ho, hlt⟩⟩ := h
  · have hx0 : x = [] := List.eq_nil_of_length_eq_zero hn
    subst hx0
    have hnil : w.ownsRow 0 2 1 (.slice none 0 0) 0 [] := World.ownsRow_nil _ _ _ _
    refine (markInt64S_nil A c k w hk0 hk1).mono fun e w' ⟨he, hw⟩ => ?_
    subst hw
    exact ⟨by rw [he]; simp [cnt_Int64S], OwnV.nil _ _ _ _ _ _ _, only_of_below (Below.refl _ _)⟩
  · refine (markInt64S_any lo x A c k w hs hk0 hk1 ho).mono fun e w' ⟨he, ho', hg⟩ => ⟨by rw [he]; simp [cnt_Int64S], ?_, only_row hg fun g hg' => ⟨(ho.lt g hg').1, hlt g hg'⟩⟩
    unfold O_Int64S mark_Int64S
    rw [marks_len]
    exact ⟨⟨A, c, rfl⟩, hs, .inr ⟨ho', hlt⟩⟩
theorem L_held_Int64S (x : List Int) (v : Value) (k : Int) (lo hi : Nat) (w : World) (hk0 : 0 ≤ k) (hk1 : k ≤ 1099511627776) (h : O_Int64S w lo hi v (mark_Int64S x k)) :
    Calls Try.prog 214 #[v, .int .i64 k] w fun e w' => e = .returned (.int .i64 (k + cnt_Int64S x)) ∧ Below w.heap.size w w' := by
  have hs := h.small
  obtain ⟨A, c, rfl, r⟩ := h.r
  unfold mark_Int64S at *
  rw [marks_len] at *
  exact (heldInt64S_any x.length A c k w hs hk0 hk1 r).mono fun e w' ⟨he, hb⟩ => ⟨by rw [he]; simp [cnt_Int64S], hb⟩


/-! ### MoveS -/
def R_MoveS (w : World) (B : Nat) (v : Value) (x : List T3) : Prop := ∃ A c, v = .slice A x.length c ∧ Rd3 w B A x
def O_MoveS (w : World) (lo hi : Nat) (v : Value) (x : List T3) : Prop := OwnV 143 3 w lo hi v x.length (x.flatMap T3.cells)
theorem R_MoveS.below {w w' : World} {B : Nat} {v : Value} {x : List T3} (h : R_MoveS w B v x) (k : Below B w w') : R_MoveS w' B v x := by
  obtain ⟨A, c, rfl, h⟩ := h; exact ⟨A, c, rfl, h.below k⟩
theorem R_MoveS.more {w : World} {B B' : Nat} {v : Value} {x : List T3} (h : R_MoveS w B v x) (k : B ≤ B') : R_MoveS w B' v x := by
  obtain ⟨A, c, rfl, h⟩ := h; exact ⟨A, c, rfl, h.more k⟩
theorem O_MoveS.r {w : World} {lo hi : Nat} {v : Value} {x : List T3} (h : O_MoveS w lo hi v x) : R_MoveS w w.heap.size v x := h.rd
theorem O_MoveS.small {w : World} {lo hi : Nat} {v : Value} {x : List T3} (h : O_MoveS w lo hi v x) : x.length ≤ 1048576 := h.2.1
theorem O_MoveS.kept {w w' : World} {lo hi lo' hi' : Nat} {v : Value} {x : List T3} (h : O_MoveS w lo hi v x) (k : Only lo' hi' w w') (hd : hi ≤ lo' ∨ hi' ≤ lo) : O_MoveS w' lo hi v x := OwnV.kept h k hd
theorem O_MoveS.below {w w' : World} {lo hi B : Nat} {v : Value} {x : List T3} (h : O_MoveS w lo hi v x) (k : Below B w w') (hd : hi ≤ B) : O_MoveS w' lo hi v x := OwnV.below h k hd
theorem O_MoveS.widen {w : World} {lo hi lo' hi' : Nat} {v : Value} {x : List T3} (h : O_MoveS w lo hi v x) (h1 : lo' ≤ lo) (h2 : hi ≤ hi') : O_MoveS w lo' hi' v x := OwnV.widen h h1 h2
theorem O_MoveS.nil (w : World) (lo hi : Nat) (A : Option Addr) (c : Nat) : O_MoveS w lo hi (.slice A 0 c) [] := OwnV.nil _ _ _ _ _ _ _
def mark_MoveS (x : List T3) (k : Int) : List T3 := marks (mk3 k) x.length
def cnt_MoveS (x : List T3) : Int := 3 * x.length
theorem O_MoveS.cnt {w : World} {lo hi : Nat} {v : Value} {x : List T3} (h : O_MoveS w lo hi v x) : 0 ≤ cnt_MoveS x ∧ cnt_MoveS x ≤ 4194304 := by
  have := h.small
  unfold cnt_MoveS; omega
theorem L_eq_MoveS (x : List T3) (v1 v2 : Value) (lo1 hi1 lo2 hi2 : Nat) (w : World) (h1 : O_MoveS w lo1 hi1 v1 x) (h2 : O_MoveS w lo2 hi2 v2 x) :
    Calls Try.prog 16 #[v1, v2] w fun e w' => e = .returned (.bool true) ∧ Below w.heap.size w w' := by
  have hs := h1.small
  obtain ⟨A1, c1, rfl, r1⟩ := h1.r
  obtain ⟨A2, c2, rfl, r2⟩ := h2.r
  exact (eqMoveS_any x x A1 A2 c1 c2 w (by omega) (by omega) r1 r2).mono fun e w' ⟨he, hb⟩ => ⟨by rw [he]; simp, hb⟩
theorem L_mark_MoveS (x : List T3) (v : Value) (k : Int) (lo hi : Nat) (w : World) (hk0 : 0 ≤ k) (hk1 : k ≤ 1099511627776) (h : O_MoveS w lo hi v x) :
    Calls Try.prog 21 #[v, .int .i64 k] w fun e w' => e = .returned (.int .i64 (k + cnt_MoveS x)) ∧ O_MoveS w' lo hi v (mark_MoveS x k) ∧ Only lo hi w w' := by
  have hs := h.small
  obtain ⟨⟨A, c, rfl⟩, _, ⟨hn, hx⟩ | ⟨ho, hlt⟩⟩ := h
  · have hx0 : x = [] := List.eq_nil_of_length_eq_zero hn
    subst hx0
    have hnil : w.ownsRow 0 143 3 (.slice none 0 0) 0 [] := World.ownsRow_nil _ _ _ _
    refine (markMoveS_nil A c k w hk0 hk1).mono fun e w' ⟨he, hw⟩ => ?_
    subst hw
    exact ⟨by rw [he]; simp [cnt_MoveS], OwnV.nil _ _ _ _ _ _ _, only_of_below (Below.refl _ _)⟩
  · refine (markMoveS_any lo x A c k w hs hk0 hk1 ho).mono fun e w' ⟨he, ho', hg⟩ => ⟨by rw [he]; simp [cnt_MoveS], ?_, only_row hg fun g hg' => ⟨(ho.lt g hg').1, hlt g hg'⟩⟩
    unfold O_MoveS mark_MoveS
    rw [marks_len]
    exact ⟨⟨A, c, rfl⟩, hs, .inr ⟨ho', hlt⟩⟩
theorem L_held_MoveS (x : List T3) (v : Value) (k : Int) (lo hi : Nat) (w : World) (hk0 : 0 ≤ k) (hk1 : k ≤ 1099511627776) (h : O_MoveS w lo hi v (mark_MoveS x k)) :
    Calls Try.prog 22 #[v, .int .i64 k] w fun e w' => e = .returned (.int .i64 (k + cnt_MoveS x)) ∧ Below w.heap.size w w' := by
  have hs := h.small
  obtain ⟨A, c, rfl, r⟩ := h.r
  unfold mark_MoveS at *
  rw [marks_len] at *
  exact (heldMoveS_any x.length A c k w hs hk0 hk1 r).mono fun e w' ⟨he, hb⟩ => ⟨by rw [he]; simp [cnt_MoveS], hb⟩

/-! ### TubeS -/
def R_TubeS (w : World) (B : Nat) (v : Value) (x : List T3) : Prop := ∃ A c, v = .slice A x.length c ∧ Rd3 w B A x
def O_TubeS (w : World) (lo hi : Nat) (v : Value) (x : List T3) : Prop := OwnV 72 3 w lo hi v x.length (x.flatMap T3.cells)
theorem R_TubeS.below {w w' : World} {B : Nat} {v : Value} {x : List T3} (h : R_TubeS w B v x) (k : Below B w w') : R_TubeS w' B v x := by
  obtain ⟨A, c, rfl, h⟩ := h; exact ⟨A, c, rfl, h.below k⟩
theorem R_TubeS.more {w : World} {B B' : Nat} {v : Value} {x : List T3} (h : R_TubeS w B v x) (k : B ≤ B') : R_TubeS w B' v x := by
  obtain ⟨A, c, rfl, h⟩ := h; exact ⟨A, c, rfl, h.more k⟩
theorem O_TubeS.r {w : World} {lo hi : Nat} {v : Value} {x : List T3} (h : O_TubeS w lo hi v x) : R_TubeS w w.heap.size v x := h.rd
theorem O_TubeS.small {w : World} {lo hi : Nat} {v : Value} {x : List T3} (h : O_TubeS w lo hi v x) : x.length ≤ 1048576 := h.2.1
theorem O_TubeS.kept {w w' : World} {lo hi lo' hi' : Nat} {v : Value} {x : List T3} (h : O_TubeS w lo hi v x) (k : Only lo' hi' w w') (hd : hi ≤ lo' ∨ hi' ≤ lo) : O_TubeS w' lo hi v x := OwnV.kept h k hd
theorem O_TubeS.below {w w' : World} {lo hi B : Nat} {v : Value} {x : List T3} (h : O_TubeS w lo hi v x) (k : Below B w w') (hd : hi ≤ B) : O_TubeS w' lo hi v x := OwnV.below h k hd
theorem O_TubeS.widen {w : World} {lo hi lo' hi' : Nat} {v : Value} {x : List T3} (h : O_TubeS w lo hi v x) (h1 : lo' ≤ lo) (h2 : hi ≤ hi') : O_TubeS w lo' hi' v x := OwnV.widen h h1 h2
theorem O_TubeS.nil (w : World) (lo hi : Nat) (A : Option Addr) (c : Nat) : O_TubeS w lo hi (.slice A 0 c) [] := OwnV.nil _ _ _ _ _ _ _
def mark_TubeS (x : List T3) (k : Int) : List T3 := marks (mk3 k) x.length
def cnt_TubeS (x : List T3) : Int := 3 * x.length
theorem O_TubeS.cnt {w : World} {lo hi : Nat} {v : Value} {x : List T3} (h : O_TubeS w lo hi v x) : 0 ≤ cnt_TubeS x ∧ cnt_TubeS x ≤ 4194304 := by
  have := h.small
  unfold cnt_TubeS; omega

/-! ### ChangeS -/
def R_ChangeS (w : World) (B : Nat) (v : Value) (x : List T3) : Prop := ∃ A c, v = .slice A x.length c ∧ Rd3 w B A x
def O_ChangeS (w : World) (lo hi : Nat) (v : Value) (x : List T3) : Prop := OwnV 118 3 w lo hi v x.length (x.flatMap T3.cells)
theorem R_ChangeS.below {w w' : World} {B : Nat} {v : Value} {x : List T3} (h : R_ChangeS w B v x) (k : Below B w w') : R_ChangeS w' B v x := by
  obtain ⟨A, c, rfl, h⟩ := h; exact ⟨A, c, rfl, h.below k⟩
theorem R_ChangeS.more {w : World} {B B' : Nat} {v : Value} {x : List T3} (h : R_ChangeS w B v x) (k : B ≤ B') : R_ChangeS w B' v x := by
  obtain ⟨A, c, rfl, h⟩ := h; exact ⟨A, c, rfl, h.more k⟩
theorem O_ChangeS.r {w : World} {lo hi : Nat} {v : Value} {x : List T3} (h : O_ChangeS w lo hi v x) : R_ChangeS w w.heap.size v x := h.rd
theorem O_ChangeS.small {w : World} {lo hi : Nat} {v : Value} {x : List T3} (h : O_ChangeS w lo hi v x) : x.length ≤ 1048576 := h.2.1
theorem O_ChangeS.kept {w w' : World} {lo hi lo' hi' : Nat} {v : Value} {x : List T3} (h : O_ChangeS w lo hi v x) (k : Only lo' hi' w w') (hd : hi ≤ lo' ∨ hi' ≤ lo) : O_ChangeS w' lo hi v x := OwnV.kept h k hd
theorem O_ChangeS.below {w w' : World} {lo hi B : Nat} {v : Value} {x : List T3} (h : O_ChangeS w lo hi v x) (k : Below B w w') (hd : hi ≤ B) : O_ChangeS w' lo hi v x := OwnV.below h k hd
theorem O_ChangeS.widen {w : World} {lo hi lo' hi' : Nat} {v : Value} {x : List T3} (h : O_ChangeS w lo hi v x) (h1 : lo' ≤ lo) (h2 : hi ≤ hi') : O_ChangeS w lo' hi' v x := OwnV.widen h h1 h2
theorem O_ChangeS.nil (w : World) (lo hi : Nat) (A : Option Addr) (c : Nat) : O_ChangeS w lo hi (.slice A 0 c) [] := OwnV.nil _ _ _ _ _ _ _
def mark_ChangeS (x : List T3) (k : Int) : List T3 := marks (mk3 k) x.length
def cnt_ChangeS (x : List T3) : Int := 3 * x.length
theorem O_ChangeS.cnt {w : World} {lo hi : Nat} {v : Value} {x : List T3} (h : O_ChangeS w lo hi v x) : 0 ≤ cnt_ChangeS x ∧ cnt_ChangeS x ≤ 4194304 := by
  have := h.small
  unfold cnt_ChangeS; omega
theorem L_to_ChangeS (x : List T3) (v : Value) (w : World) (hs : x.length ≤ 1048576) (h : R_ChangeS w w.heap.size v x) :
    Calls Try.prog 205 #[v] w fun e w' => ∃ v', e = .returned v' ∧ O_ChangeS w' w.heap.size w'.heap.size v' x ∧ Below w.heap.size w w' := by
  obtain ⟨A, c, rfl, h⟩ := h
  exact (toChangeS_any x A c w hs h).mono fun e w' ⟨A', c', he, ho, hb⟩ => ⟨_, he, OwnV.of_row ho hs, hb⟩
theorem L_eq_ChangeS (x : List T3) (v1 v2 : Value) (lo1 hi1 lo2 hi2 : Nat) (w : World) (h1 : O_ChangeS w lo1 hi1 v1 x) (h2 : O_ChangeS w lo2 hi2 v2 x) :
    Calls Try.prog 212 #[v1, v2] w fun e w' => e = .returned (.bool true) ∧ Below w.heap.size w w' := by
  have hs := h1.small
  obtain ⟨A1, c1, rfl, r1⟩ := h1.r
  obtain ⟨A2, c2, rfl, r2⟩ := h2.r
  exact (eqChangeS_any x x A1 A2 c1 c2 w (by omega) (by omega) r1 r2).mono fun e w' ⟨he, hb⟩ => ⟨by rw [he]; simp, hb⟩
theorem L_sz_ChangeS (x : List T3) (v : Value) (left : Int) (B : Nat) (w : World) (hx : x.length ≤ 9223372036854775807) (hl : 0 ≤ left) (hl2 : left ≤ 1048576) (h : R_ChangeS w B v x) :
    Calls Try.prog 201 #[v, .int .i64 left] w fun e w' => e = .returned (.int .i64 (szF x.length left)) ∧ w = w' := by
  obtain ⟨A, c, rfl, h⟩ := h
  exact szChangeS_any A x.length c left w hx hl hl2
theorem L_mark_ChangeS (x : List T3) (v : Value) (k : Int) (lo hi : Nat) (w : World) (hk0 : 0 ≤ k) (hk1 : k ≤ 1099511627776) (h : O_ChangeS w lo hi v x) :
    Calls Try.prog 213 #[v, .int .i64 k] w fun e w' => e = .returned (.int .i64 (k + cnt_ChangeS x)) ∧ O_ChangeS w' lo hi v (mark_ChangeS x k) ∧ Only lo hi w w' := by
  have hs := h.small
  obtain ⟨⟨A, c, rfl⟩, _, ⟨hn, hx⟩ | ⟨ho, hlt⟩⟩ := h
  · have hx0 : x = [] := List.eq_nil_of_length_eq_zero hn
    subst hx0
    have hnil : w.ownsRow 0 118 3 (.slice none 0 0) 0 [] := World.ownsRow_nil _ _ _ _
    refine (markChangeS_nil A c k w hk0 hk1).mono fun e w' ⟨he, hw⟩ => ?_
    subst hw
    exact ⟨by rw [he]; simp [cnt_ChangeS], OwnV.nil _ _ _ _ _ _ _, only_of_below (Below.refl _ _)⟩
  · refine (markChangeS_any lo x A c k w hs hk0 hk1 ho).mono fun e w' ⟨he, ho', hg⟩ => ⟨by rw [he]; simp [cnt_ChangeS], ?_, only_row hg fun g hg' => ⟨(ho.lt g hg').1, hlt g hg'⟩⟩
    unfold O_ChangeS mark_ChangeS
    rw [marks_len]
    exact ⟨⟨A, c, rfl⟩, hs, .inr ⟨ho', hlt⟩⟩
theorem L_held_ChangeS (x : List T3) (v : Value) (k : Int) (lo hi : Nat) (w : World) (hk0 : 0 ≤ k) (hk1 : k ≤ 1099511627776) (h : O_ChangeS w lo hi v (mark_ChangeS x k)) :
    Calls Try.prog 215 #[v, .int .i64 k] w fun e w' => e = .returned (.int .i64 (k + cnt_ChangeS x)) ∧ Below w.heap.size w w' := by
  have hs := h.small
  obtain ⟨A, c, rfl, r⟩ := h.r
  unfold mark_ChangeS at *
  rw [marks_len] at *
  exact (heldChangeS_any x.length A c k w hs hk0 hk1 r).mono fun e w' ⟨he, hb⟩ => ⟨by rw [he]; simp [cnt_ChangeS], hb⟩


/-! ### RideS -/
def R_RideS (w : World) (B : Nat) (v : Value) (x : List T4) : Prop := ∃ A c, v = .slice A x.length c ∧ Rd4 w B A x
def O_RideS (w : World) (lo hi : Nat) (v : Value) (x : List T4) : Prop := OwnV 87 4 w lo hi v x.length (x.flatMap T4.cells)
theorem R_RideS.below {w w' : World} {B : Nat} {v : Value} {x : List T4} (h : R_RideS w B v x) (k : Below B w w') : R_RideS w' B v x := by
  obtain ⟨A, c, rfl, h⟩ := h; exact ⟨A, c, rfl, h.below k⟩
theorem R_RideS.more {w : World} {B B' : Nat} {v : Value} {x : List T4} (h : R_RideS w B v x) (k : B ≤ B') : R_RideS w B' v x := by
  obtain ⟨A, c, rfl, h⟩ := h; exact ⟨A, c, rfl, h.more k⟩
theorem O_RideS.r {w : World} {lo hi : Nat} {v : Value} {x : List T4} (h : O_RideS w lo hi v x) : R_RideS w w.heap.size v x := h.rd
theorem O_RideS.small {w : World} {lo hi : Nat} {v : Value} {x : List T4} (h : O_RideS w lo hi v x) : x.length ≤ 1048576 := h.2.1
theorem O_RideS.kept {w w' : World} {lo hi lo' hi' : Nat} {v : Value} {x : List T4} (h : O_RideS w lo hi v x) (k : Only lo' hi' w w') (hd : hi ≤ lo' ∨ hi' ≤ lo) : O_RideS w' lo hi v x := OwnV.kept h k hd
theorem O_RideS.below {w w' : World} {lo hi B : Nat} {v : Value} {x : List T4} (h : O_RideS w lo hi v x) (k : Below B w w') (hd : hi ≤ B) : O_RideS w' lo hi v x := OwnV.below h k hd
theorem O_RideS.widen {w : World} {lo hi lo' hi' : Nat} {v : Value} {x : List T4} (h : O_RideS w lo hi v x) (h1 : lo' ≤ lo) (h2 : hi ≤ hi') : O_RideS w lo' hi' v x := OwnV.widen h h1 h2
theorem O_RideS.nil (w : World) (lo hi : Nat) (A : Option Addr) (c : Nat) : O_RideS w lo hi (.slice A 0 c) [] := OwnV.nil _ _ _ _ _ _ _
def mark_RideS (x : List T4) (k : Int) : List T4 := marks (mk4 k) x.length
def cnt_RideS (x : List T4) : Int := 4 * x.length
theorem O_RideS.cnt {w : World} {lo hi : Nat} {v : Value} {x : List T4} (h : O_RideS w lo hi v x) : 0 ≤ cnt_RideS x ∧ cnt_RideS x ≤ 4194304 := by
  have := h.small
  unfold cnt_RideS; omega
end Go.Proofs.Ytklfjekpeoigoaa
namespace Go.Proofs.Ytklfjekpeoigoaa
open Go.RowKit

theorem S_ValidStock (x : List Int) (v : Value) (w : World) (hs : x.length ≤ 1048576) (_ : ∀ z ∈ x, -9223372036854775808 ≤ z ∧ z ≤ 9223372036854775807) (h : R_Int64S w w.heap.size v x) :
    Calls Try.prog 38 #[v] w fun e w' => e = .returned (.bool (vStock x)) ∧ Below w.heap.size w w' := by
  obtain ⟨A, c, rfl, r⟩ := h
  exact (specValidStock_any x A c w hs r).mono fun e w' ⟨he, hw⟩ => ⟨he, by subst hw; exact Below.refl _ _⟩
theorem P_ValidStock (x : List Int) (v : Value) (w : World) (hs : x.length ≤ 1048576) (_ : ∀ z ∈ x, -9223372036854775808 ≤ z ∧ z ≤ 9223372036854775807) (h : R_Int64S w w.heap.size v x) :
    Calls Try.prog 37 #[v] w fun e w' => e = .returned (.bool (vStock x)) ∧ Below w.heap.size w w' := by
  obtain ⟨A, c, rfl, r⟩ := h
  exact implValidStock_any x A c w hs r
end Go.Proofs.Ytklfjekpeoigoaa
namespace Go.Proofs.Ytklfjekpeoigoaa
open Go.RowKit

set_option maxRecDepth 100000 in
set_option maxHeartbeats 1000000 in
theorem cloneI_any (xs : List Int) (A : Option Addr) (c : Nat) (w : World) (hx : xs.length ≤ 1048576) (h1 : RdI w w.heap.size A xs) :
    Calls Try.prog 142 #[.slice A xs.length c] w fun e w' => ∃ A' c', e = .returned (.slice A' xs.length c') ∧ w'.ownsRow w.heap.size 2 1 (.slice A' xs.length c') xs.length (xs.map (Value.int .i64)) ∧ Below w.heap.size w w' := by
  have hinfo : (Try.prog.info? 2).map (fun i => (i.zero, i.size, i.bytes)) = some (some (.int .i64 0), 1, 8) := by kernel_rfl
  obtain ⟨i0, hi0, hz0, hs0, hb0⟩ := info_parts hinfo
  clear hinfo
  have hnil := fun (W : World) (A : Option Addr) (n c : Nat) => Lib.run_eql_slice_nil (P := Try.prog) W 22 2 A n c 0 0 Try.underlying22
  cases A with
  | none =>
    have hn : xs = [] := by
      rcases xs with _ | ⟨x, xs⟩
      · rfl
      · exact absurd (h1 (by simp)) (by rintro ⟨b, o, h, _⟩; cases h)
    subst hn
    clear h1
    go_enter Try.func142, Try.ntmps142
    go_wp2_with fail
    go_ret
    exact ⟨none, 0, rfl, World.ownsRow_nil _ _ _ _, Below.refl _ _⟩
  | some ad =>
    have HX := hide h1; clear h1
    go_enter Try.func142, Try.ntmps142
    have ho0 := own_new0 w w.heap.size 2 1 (Nat.le_refl _)
    have hb1 : Below w.heap.size w (w.alloc (.cells #[] 2)) := (Below.refl _ _).alloc (Nat.le_refl _) _
    have HR := hide (Rd.below HX.out hb1)
    go_wp2_with (at_builtin; go_must (refine wp_app _ rfl _ _ 22 rfl w.heap.size 2 i0 (.int .i64 0) 1 8 Try.underlying22 hi0 hz0 hs0 hb0 rfl (by decide) _ _ _ rfl ho0 _ _ xs.length c _ rfl (by simp) HR.out (ints_one _) (by omega) (by decide) (by simp) ?_); intro v' w1 hown' hgrow hat)
    go_ret
    simp only [Nat.zero_add, List.nil_append] at hown'
    obtain ⟨A', c', rfl, _⟩ := own_shape hown'
    exact ⟨A', c', rfl, hown', app_below hb1 ho0 hgrow (Nat.le_refl _) (by simp)⟩
set_option maxRecDepth 100000 in
set_option maxHeartbeats 1000000 in
theorem equalMove_any (xs ys : List T3) (A1 A2 : Option Addr) (c1 c2 : Nat) (w : World) (hx : xs.length ≤ 9223372036854775807) (hy : ys.length ≤ 9223372036854775807)
    (h1 : Rd3 w w.heap.size A1 xs) (h2 : Rd3 w w.heap.size A2 ys) :
    Calls Try.prog 145 #[.slice A1 xs.length c1, .slice A2 ys.length c2] w fun e w' => e = .returned (.bool (decide (xs = ys))) ∧ Below w.heap.size w w' := by
  by_cases hl : xs.length = ys.length
  · have hB : ((xs.length : Int) != ys.length) = false := by simp [hl]
    have hst : Try.prog.stoodInHeld 143 = false := by kernel_rfl
    have hgu : Try.prog.eqGuardType Try.prog.depth 143 = false := by kernel_rfl
    have HL := hide hl; clear hl
    go_enter Try.func145, Try.ntmps145
    go_wp2_with fail
    go_loopg [13] xs.length (fun g i wr => ∃ k : Nat, k ≤ xs.length ∧ Hid (g = xs.length - k) ∧ i = .int .i64 k ∧ Below w.heap.size w wr ∧ Hid (xs = ys ↔ xs.drop k = ys.drop k))
    case atStart => exact ⟨0, by omega, by simp [Hid], rfl, Below.refl _ _, by simp [Hid]⟩
    case round =>
      obtain ⟨k, hk, hg, rfl, hb, HE⟩ := hrel
      by_cases hlt : k < xs.length
      · have hlt2 : k < ys.length := by have := HL.out; omega
        obtain ⟨b1, o1, z1, rfl, _, hz1, hc1a, hc1b, hc1c⟩ := (h1.below hb).at_ hlt
        obtain ⟨b2, o2, z2, rfl, _, hz2, hc2a, hc2b, hc2c⟩ := (h2.below hb).at_ hlt2
        have Z1 := hide hz1; have Z2 := hide hz2; clear hz1 hz2 h1 h2
        have hE : decide (xs = ys) = (decide (z1 = z2) && decide (xs.drop (k + 1) = ys.drop (k + 1))) := by
          have h := HE.out
          rw [drop_cons Z1.out, drop_cons Z2.out] at h
          rw [Bool.eq_iff_iff]; simpa using h
        have HE' := hide hE
        clear hE
        obtain ⟨p0, p1, p2⟩ := z1
        obtain ⟨q0, q1, q2⟩ := z2
        dsimp only at *
        by_cases e0 : p0 = q0
        case neg =>
          have hB0 : (p0 == q0) = false := by simp [e0]
          have E0 := hide e0; clear e0
          go_wp2_with fail
          go_quiet (fail)
          go_wp2_with fail
          go_ret
          exact ⟨ret_b (by rw [HE'.out]; simp [E0.out]), bdn hb _⟩
        have hB0 : (p0 == q0) = true := by simp [e0]
        have E0 := hide e0; clear e0
        by_cases e1 : p1 = q1
        case neg =>
          have hB1 : (p1 == q1) = false := by simp [e1]
          have E1 := hide e1; clear e1
          go_wp2_with fail
          go_quiet (fail)
          go_wp2_with fail
          go_ret
          exact ⟨ret_b (by rw [HE'.out]; simp [E1.out]), bdn hb _⟩
        have hB1 : (p1 == q1) = true := by simp [e1]
        have E1 := hide e1; clear e1
        by_cases e2 : p2 = q2
        case neg =>
          have hB2 : (p2 == q2) = false := by simp [e2]
          have E2 := hide e2; clear e2
          go_wp2_with fail
          go_quiet (fail)
          go_wp2_with fail
          go_ret
          exact ⟨ret_b (by rw [HE'.out]; simp [E2.out]), bdn hb _⟩
        have hB2 : (p2 == q2) = true := by simp [e2]
        have E2 := hide e2; clear e2
        go_wp2_with fail
        go_quiet (fail)
        go_wp2_with fail
        go_roundg (xs.length - (k + 1))
        case measure => have := hg.out; omega
        case rel => exact ⟨k + 1, by omega, rfl, by go_num, bdn hb _, hide (by have := HE'.out; simpa [E0.out, E1.out, E2.out] using this)⟩
      · go_wp2_with fail
        go_ret
        refine ⟨ret_b ?_, hb⟩
        have h := HE.out
        rw [List.drop_eq_nil_of_le (by omega), List.drop_eq_nil_of_le (by have := HL.out; omega)] at h
        simpa using h
  · have hB : ((xs.length : Int) != ys.length) = true := by simp; omega
    have HL := hide hl; clear hl
    go_enter Try.func145, Try.ntmps145
    go_wp2_with fail
    go_ret
    exact ⟨ret_b (by simp; intro e; exact HL.out (by rw [e])), Below.refl _ _⟩
set_option maxRecDepth 100000 in
set_option maxHeartbeats 1000000 in
theorem cloneChange_any (xs : List T3) (A : Option Addr) (c : Nat) (w : World) (hx : xs.length ≤ 1048576) (h1 : Rd3 w w.heap.size A xs) :
    Calls Try.prog 211 #[.slice A xs.length c] w fun e w' => ∃ A' c', e = .returned (.slice A' xs.length c') ∧ w'.ownsRow w.heap.size 118 3 (.slice A' xs.length c') xs.length (xs.flatMap T3.cells) ∧ Below w.heap.size w w' := by
  have hinfo : (Try.prog.info? 118).map (fun i => (i.zero, i.size, i.bytes)) = some (some (.agg #[.int .i64 0, .int .i64 0, .int .i64 0]), 3, 24) := by kernel_rfl
  obtain ⟨i0, hi0, hz0, hs0, hb0⟩ := info_parts hinfo
  clear hinfo
  have hnil := fun (W : World) (A : Option Addr) (n c : Nat) => Lib.run_eql_slice_nil (P := Try.prog) W 112 118 A n c 0 0 Try.underlying112
  cases A with
  | none =>
    have hn : xs = [] := by
      rcases xs with _ | ⟨x, xs⟩
      · rfl
      · exact absurd (h1 (by simp [T3.cells])) (by rintro ⟨b, o, h, _⟩; cases h)
    subst hn
    clear h1
    go_enter Try.func211, Try.ntmps211
    go_wp2_with fail
    go_ret
    exact ⟨none, 0, rfl, World.ownsRow_nil _ _ _ _, Below.refl _ _⟩
  | some ad =>
    have HX := hide h1; clear h1
    go_enter Try.func211, Try.ntmps211
    have ho0 := own_new0 w w.heap.size 118 3 (Nat.le_refl _)
    have hb1 : Below w.heap.size w (w.alloc (.cells #[] 118)) := (Below.refl _ _).alloc (Nat.le_refl _) _
    have HR := hide (Rd.below HX.out hb1)
    go_wp2_with (at_builtin; go_must (refine wp_app _ rfl _ _ 112 rfl w.heap.size 118 i0 (.agg #[.int .i64 0, .int .i64 0, .int .i64 0]) 3 24 Try.underlying112 hi0 hz0 hs0 hb0 rfl (by decide) _ _ _ rfl ho0 _ _ xs.length c _ rfl (by simp [flatMap_len T3.cells 3 (fun _ => rfl)]) HR.out (T3.ones _) (by omega) (by decide) (by simp) ?_); intro v' w1 hown' hgrow hat)
    go_ret
    simp only [Nat.zero_add, List.nil_append] at hown'
    obtain ⟨A', c', rfl, _⟩ := own_shape hown'
    exact ⟨A', c', rfl, hown', app_below hb1 ho0 hgrow (Nat.le_refl _) (by simp)⟩
set_option maxRecDepth 100000 in
set_option maxHeartbeats 1000000 in
theorem cloneRide_any (xs : List T4) (A : Option Addr) (c : Nat) (w : World) (hx : xs.length ≤ 1048576) (h1 : Rd4 w w.heap.size A xs) :
    Calls Try.prog 183 #[.slice A xs.length c] w fun e w' => ∃ A' c', e = .returned (.slice A' xs.length c') ∧ w'.ownsRow w.heap.size 87 4 (.slice A' xs.length c') xs.length (xs.flatMap T4.cells) ∧ Below w.heap.size w w' := by
  have hinfo : (Try.prog.info? 87).map (fun i => (i.zero, i.size, i.bytes)) = some (some (.agg #[.int .i64 0, .int .i64 0, .int .i64 0, .int .i64 0]), 4, 32) := by kernel_rfl
  obtain ⟨i0, hi0, hz0, hs0, hb0⟩ := info_parts hinfo
  clear hinfo
  have hnil := fun (W : World) (A : Option Addr) (n c : Nat) => Lib.run_eql_slice_nil (P := Try.prog) W 77 87 A n c 0 0 Try.underlying77
  cases A with
  | none =>
    have hn : xs = [] := by
      rcases xs with _ | ⟨x, xs⟩
      · rfl
      · exact absurd (h1 (by simp [T4.cells])) (by rintro ⟨b, o, h, _⟩; cases h)
    subst hn
    clear h1
    go_enter Try.func183, Try.ntmps183
    go_wp2_with fail
    go_ret
    exact ⟨none, 0, rfl, World.ownsRow_nil _ _ _ _, Below.refl _ _⟩
  | some ad =>
    have HX := hide h1; clear h1
    go_enter Try.func183, Try.ntmps183
    have ho0 := own_new0 w w.heap.size 87 4 (Nat.le_refl _)
    have hb1 : Below w.heap.size w (w.alloc (.cells #[] 87)) := (Below.refl _ _).alloc (Nat.le_refl _) _
    have HR := hide (Rd.below HX.out hb1)
    go_wp2_with (at_builtin; go_must (refine wp_app _ rfl _ _ 77 rfl w.heap.size 87 i0 (.agg #[.int .i64 0, .int .i64 0, .int .i64 0, .int .i64 0]) 4 32 Try.underlying77 hi0 hz0 hs0 hb0 rfl (by decide) _ _ _ rfl ho0 _ _ xs.length c _ rfl (by simp [flatMap_len T4.cells 4 (fun _ => rfl)]) HR.out (T4.ones _) (by omega) (by decide) (by simp) ?_); intro v' w1 hown' hgrow hat)
    go_ret
    simp only [Nat.zero_add, List.nil_append] at hown'
    obtain ⟨A', c', rfl, _⟩ := own_shape hown'
    exact ⟨A', c', rfl, hown', app_below hb1 ho0 hgrow (Nat.le_refl _) (by simp)⟩
set_option maxRecDepth 100000 in
set_option maxHeartbeats 1000000 in
theorem specSameMoves_any (xs ys : List T3) (A1 A2 : Option Addr) (c1 c2 : Nat) (w : World) (hx : xs.length ≤ 9223372036854775807) (hy : ys.length ≤ 9223372036854775807)
    (h1 : Rd3 w w.heap.size A1 xs) (h2 : Rd3 w w.heap.size A2 ys) :
    Calls Try.prog 34 #[.slice A1 xs.length c1, .slice A2 ys.length c2] w fun e w' => e = .returned (.bool (decide (xs = ys))) ∧ Below w.heap.size w w' := by
  by_cases hl : xs.length = ys.length
  · have hB : ((xs.length : Int) != ys.length) = false := by simp [hl]
    have hst : Try.prog.stoodInHeld 143 = false := by kernel_rfl
    have hgu : Try.prog.eqGuardType Try.prog.depth 143 = false := by kernel_rfl
    have HL := hide hl; clear hl
    go_enter Try.func34, Try.ntmps34
    go_wp2_with fail
    go_loopg [5] xs.length (fun g i wr => ∃ k : Nat, k ≤ xs.length ∧ Hid (g = xs.length - k) ∧ i = .int .i64 k ∧ Below w.heap.size w wr ∧ Hid (xs = ys ↔ xs.drop k = ys.drop k))
    case atStart => exact ⟨0, by omega, by simp [Hid], rfl, Below.refl _ _, by simp [Hid]⟩
    case round =>
      obtain ⟨k, hk, hg, rfl, hb, HE⟩ := hrel
      by_cases hlt : k < xs.length
      · have hlt2 : k < ys.length := by have := HL.out; omega
        obtain ⟨b1, o1, z1, rfl, _, hz1, hc1a, hc1b, hc1c⟩ := (h1.below hb).at_ hlt
        obtain ⟨b2, o2, z2, rfl, _, hz2, hc2a, hc2b, hc2c⟩ := (h2.below hb).at_ hlt2
        have Z1 := hide hz1; have Z2 := hide hz2; clear hz1 hz2 h1 h2
        have hE : decide (xs = ys) = (decide (z1 = z2) && decide (xs.drop (k + 1) = ys.drop (k + 1))) := by
          have h := HE.out
          rw [drop_cons Z1.out, drop_cons Z2.out] at h
          rw [Bool.eq_iff_iff]; simpa using h
        have HE' := hide hE
        clear hE
        obtain ⟨p0, p1, p2⟩ := z1
        obtain ⟨q0, q1, q2⟩ := z2
        dsimp only at *
        by_cases e0 : p0 = q0
        case neg =>
          have hB0 : (p0 == q0) = false := by simp [e0]
          have E0 := hide e0; clear e0
          go_wp2_with fail
          go_quiet (fail)
          go_wp2_with fail
          go_ret
          exact ⟨ret_b (by rw [HE'.out]; simp [E0.out]), bdn hb _⟩
        have hB0 : (p0 == q0) = true := by simp [e0]
        have E0 := hide e0; clear e0
        by_cases e1 : p1 = q1
        case neg =>
          have hB1 : (p1 == q1) = false := by simp [e1]
          have E1 := hide e1; clear e1
          go_wp2_with fail
          go_quiet (fail)
          go_wp2_with fail
          go_ret
          exact ⟨ret_b (by rw [HE'.out]; simp [E1.out]), bdn hb _⟩
        have hB1 : (p1 == q1) = true := by simp [e1]
        have E1 := hide e1; clear e1
        by_cases e2 : p2 = q2
        case neg =>
          have hB2 : (p2 == q2) = false := by simp [e2]
          have E2 := hide e2; clear e2
          go_wp2_with fail
          go_quiet (fail)
          go_wp2_with fail
          go_ret
          exact ⟨ret_b (by rw [HE'.out]; simp [E2.out]), bdn hb _⟩
        have hB2 : (p2 == q2) = true := by simp [e2]
        have E2 := hide e2; clear e2
        go_wp2_with fail
        go_quiet (fail)
        go_wp2_with fail
        go_roundg (xs.length - (k + 1))
        case measure => have := hg.out; omega
        case rel => exact ⟨k + 1, by omega, rfl, by go_num, bdn hb _, hide (by have := HE'.out; simpa [E0.out, E1.out, E2.out] using this)⟩
      · go_wp2_with fail
        go_ret
        refine ⟨ret_b ?_, hb⟩
        have h := HE.out
        rw [List.drop_eq_nil_of_le (by omega), List.drop_eq_nil_of_le (by have := HL.out; omega)] at h
        simpa using h
  · have hB : ((xs.length : Int) != ys.length) = true := by simp; omega
    have HL := hide hl; clear hl
    go_enter Try.func34, Try.ntmps34
    go_wp2_with fail
    go_ret
    exact ⟨ret_b (by simp; intro e; exact HL.out (by rw [e])), Below.refl _ _⟩
end Go.Proofs.Ytklfjekpeoigoaa
