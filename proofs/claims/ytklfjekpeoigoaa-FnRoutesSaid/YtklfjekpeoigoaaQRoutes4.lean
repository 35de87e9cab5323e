/-
  The words of the exact laws: 'R': a value reads as x; 'O': it is memory of the law's own, in blocks lo .. hi. The helpers' contracts in these words. Printed by gen_law.py.
  Contracts: a stock is valid, in the program and in the reference.
-/
import Derived.Test.YtklfjekpeoigoaaQRoutes3
import Derived.Test.YtklfjekpeoigoaaQRoutes2
namespace Go.Proofs.Ytklfjekpeoigoaa
open Go.RowKit

/-- Only blocks lo .. hi, and new ones, have turned. -/
def Only (lo hi : Nat) (w w' : World) : Prop :=
  w'.os = w.os ∧ w'.tape = w.tape ∧ w'.output = w.output ∧ w.heap.size ≤ w'.heap.size ∧ ∀ k, k < w.heap.size → (k < lo ∨ hi ≤ k) → w'.heap[k]? = w.heap[k]?
theorem Only.size {lo hi : Nat} {w w' : World} (h : Only lo hi w w') : w.heap.size ≤ w'.heap.size := h.2.2.2.1
theorem Only.below {lo hi : Nat} {w w' : World} (h : Only lo hi w w') {B : Nat} (hB : B ≤ lo) (hB' : B ≤ w.heap.size) : Below B w w' :=
  ⟨h.1, h.2.1, h.2.2.1, h.2.2.2.1, fun k hk => h.2.2.2.2 k (by omega) (.inl (by omega))⟩
theorem only_row {w w' : World} {r : Option Nat} {lo hi : Nat} (h : w.grownBy w' r) (hr : ∀ g, r = some g → lo ≤ g ∧ g < hi) : Only lo hi w w' :=
  ⟨h.os, h.tape, h.output, h.size, fun k hk ho => h.block k hk (fun e => by have := hr k e.symm; omega)⟩
theorem only_of_below {w w' : World} {lo hi : Nat} (h : Below w.heap.size w w') : Only lo hi w w' := ⟨h.os, h.tape, h.output, h.size, fun k hk _ => h.block k hk⟩
theorem only_trans {w w1 w2 : World} {lo hi : Nat} (h : Only lo hi w w1) (k : Only lo hi w1 w2) : Only lo hi w w2 :=
  ⟨k.1.trans h.1, k.2.1.trans h.2.1, k.2.2.1.trans h.2.2.1, Nat.le_trans h.size k.size, fun i hi' ho => (k.2.2.2.2 i (Nat.lt_of_lt_of_le hi' h.size) ho).trans (h.2.2.2.2 i hi' ho)⟩
/-- A row of the call's own, of elements with s cells. -/
def OwnV (e : TypeId) (s : Nat) (w : World) (lo hi : Nat) (v : Value) (n : Nat) (xs : List Value) : Prop :=
  (∃ A c, v = .slice A n c) ∧ n ≤ 1048576 ∧ ((n = 0 ∧ xs = []) ∨ (w.ownsRow lo e s v n xs ∧ ∀ g, v.ownBlock = some g → g < hi))
theorem OwnV.of_row {e : TypeId} {s : Nat} {w : World} {lo : Nat} {v : Value} {n : Nat} {xs : List Value} (h : w.ownsRow lo e s v n xs) (hn : n ≤ 1048576) : OwnV e s w lo w.heap.size v n xs := by
  obtain ⟨A, c, rfl, _⟩ := own_shape h
  exact ⟨⟨A, c, rfl⟩, hn, .inr ⟨h, fun g hg => (h.lt g hg).2⟩⟩
theorem OwnV.nil (e : TypeId) (s : Nat) (w : World) (lo hi : Nat) (A : Option Addr) (c : Nat) : OwnV e s w lo hi (.slice A 0 c) 0 [] := ⟨⟨A, c, rfl⟩, by omega, .inl ⟨rfl, rfl⟩⟩
theorem OwnV.kept {e : TypeId} {s : Nat} {w w' : World} {lo hi lo' hi' : Nat} {v : Value} {n : Nat} {xs : List Value} (h : OwnV e s w lo hi v n xs) (k : Only lo' hi' w w') (hd : hi ≤ lo' ∨ hi' ≤ lo) : OwnV e s w' lo hi v n xs := by
  refine ⟨h.1, h.2.1, ?_⟩
  rcases h.2.2 with h0 | ⟨ho, hlt⟩
  · exact .inl h0
  · refine .inr ⟨⟨ho.1, ?_⟩, hlt⟩
    rcases ho.2 with h0 | ⟨g, cap, cur, rfl, hb, hg, rest⟩
    · exact .inl h0
    · refine .inr ⟨g, cap, cur, rfl, hb, ?_, rest⟩
      have := hlt g rfl
      rw [k.2.2.2.2 g (lt_of_block hg) (by omega)]; exact hg
theorem OwnV.below {e : TypeId} {s : Nat} {w w' : World} {lo hi B : Nat} {v : Value} {n : Nat} {xs : List Value} (h : OwnV e s w lo hi v n xs) (k : Below B w w') (hd : hi ≤ B) : OwnV e s w' lo hi v n xs := by
  refine ⟨h.1, h.2.1, ?_⟩
  rcases h.2.2 with h0 | ⟨ho, hlt⟩
  · exact .inl h0
  · refine .inr ⟨⟨ho.1, ?_⟩, hlt⟩
    rcases ho.2 with h0 | ⟨g, cap, cur, rfl, hb, hg, rest⟩
    · exact .inl h0
    · refine .inr ⟨g, cap, cur, rfl, hb, ?_, rest⟩
      have := hlt g rfl
      rw [k.block g (by omega)]; exact hg
theorem OwnV.widen {e : TypeId} {s : Nat} {w : World} {lo hi lo' hi' : Nat} {v : Value} {n : Nat} {xs : List Value} (h : OwnV e s w lo hi v n xs) (h1 : lo' ≤ lo) (h2 : hi ≤ hi') : OwnV e s w lo' hi' v n xs := by
  refine ⟨h.1, h.2.1, ?_⟩
  rcases h.2.2 with h0 | ⟨ho, hlt⟩
  · exact .inl h0
  · exact .inr ⟨own_base ho h1, fun g hg => Nat.lt_of_lt_of_le (hlt g hg) h2⟩
theorem OwnV.rd {e : TypeId} {s : Nat} {w : World} {lo hi : Nat} {v : Value} {n : Nat} {xs : List Value} (h : OwnV e s w lo hi v n xs) : ∃ A c, v = .slice A n c ∧ Rd w w.heap.size A xs := by
  obtain ⟨⟨A, c, rfl⟩, _, h0 | ⟨ho, _⟩⟩ := h
  · obtain ⟨rfl, rfl⟩ := h0; exact ⟨A, c, rfl, Rd.nil _ _ _⟩
  · exact ⟨A, c, rfl, Rd.of_own ho⟩

/-! ### Int64S -/
def R_Int64S (w : World) (B : Nat) (v : Value) (x : List Int) : Prop := ∃ A c, v = .slice A x.length c ∧ RdI w B A x
def O_Int64S (w : World) (lo hi : Nat) (v : Value) (x : List Int) : Prop := OwnV 2 1 w lo hi v x.length (x.map (Value.int .i64))
theorem R_Int64S.below {w w' : World} {B : Nat} {v : Value} {x : List Int} (h : R_Int64S w B v x) (k : Below B w w') : R_Int64S w' B v x := by
  obtain ⟨A, c, rfl, h⟩ := h; exact ⟨A, c, rfl, h.below k⟩
theorem R_Int64S.more {w : World} {B B' : Nat} {v : Value} {x : List Int} (h : R_Int64S w B v x) (k : B ≤ B') : R_Int64S w B' v x := by
  obtain ⟨A, c, rfl, h⟩ := h; exact ⟨A, c, rfl, h.more k⟩
theorem O_Int64S.r {w : World} {lo hi : Nat} {v : Value} {x : List Int} (h : O_Int64S w lo hi v x) : R_Int64S w w.heap.size v x := h.rd
theorem O_Int64S.small {w : World} {lo hi : Nat} {v : Value} {x : List Int} (h : O_Int64S w lo hi v x) : x.length ≤ 1048576 := h.2.1
theorem O_Int64S.kept {w w' : World} {lo hi lo' hi' : Nat} {v : Value} {x : List Int} (h : O_Int64S w lo hi v x) (k : Only lo' hi' w w') (hd : hi ≤ lo' ∨ hi' ≤ lo) : O_Int64S w' lo hi v x := OwnV.kept h k hd
theorem O_Int64S.below {w w' : World} {lo hi B : Nat} {v : Value} {x : List Int} (h : O_Int64S w lo hi v x) (k : Below B w w') (hd : hi ≤ B) : O_Int64S w' lo hi v x := OwnV.below h k hd
theorem O_Int64S.widen {w : World} {lo hi lo' hi' : Nat} {v : Value} {x : List Int} (h : O_Int64S w lo hi v x) (h1 : lo' ≤ lo) (h2 : hi ≤ hi') : O_Int64S w lo' hi' v x := OwnV.widen h h1 h2
theorem O_Int64S.nil (w : World) (lo hi : Nat) (A : Option Addr) (c : Nat) : O_Int64S w lo hi (.slice A 0 c) [] := OwnV.nil _ _ _ _ _ _ _
def mark_Int64S (x : List Int) (k : Int) : List Int := marks (mkI k) x.length
def cnt_Int64S (x : List Int) : Int := x.length
theorem O_Int64S.cnt {w : World} {lo hi : Nat} {v : Value} {x : List Int} (h : O_Int64S w lo hi v x) : 0 ≤ cnt_Int64S x ∧ cnt_Int64S x ≤ 4194304 := by
  have := h.small
  unfold cnt_Int64S; omega
theorem L_to_Int64S (x : List Int) (v : Value) (w : World) (hs : x.length ≤ 1048576) (h : R_Int64S w w.heap.size v x) :
    Calls Try.prog 13 #[v] w fun e w' => ∃ v', e = .returned v' ∧ O_Int64S w' w.heap.size w'.heap.size v' x ∧ Below w.heap.size w w' := by
  obtain ⟨A, c, rfl, h⟩ := h
  exact (toInt64S_any x A c w hs h).mono fun e w' ⟨A', c', he, ho, hb⟩ => ⟨_, he, OwnV.of_row ho hs, hb⟩
theorem L_eq_Int64S (x : List Int) (v1 v2 : Value) (lo1 hi1 lo2 hi2 : Nat) (w : World) (h1 : O_Int64S w lo1 hi1 v1 x) (h2 : O_Int64S w lo2 hi2 v2 x) :
    Calls Try.prog 17 #[v1, v2] w fun e w' => e = .returned (.bool true) ∧ Below w.heap.size w w' := by
  have hs := h1.small
  obtain ⟨A1, c1, rfl, r1⟩ := h1.r
  obtain ⟨A2, c2, rfl, r2⟩ := h2.r
  exact (eqInt64S_any x x A1 A2 c1 c2 w (by omega) (by omega) r1 r2).mono fun e w' ⟨he, hb⟩ => ⟨by rw [he]; simp, hb⟩
theorem L_sz_Int64S (x : List Int) (v : Value) (left : Int) (B : Nat) (w : World) (hx : x.length ≤ 9223372036854775807) (hl : 0 ≤ left) (hl2 : left ≤ 1048576) (h : R_Int64S w B v x) :
    Calls Try.prog 118 #[v, .int .i64 left] w fun e w' => e = .returned (.int .i64 (szF x.length left)) ∧ w = w' := by
  obtain ⟨A, c, rfl, h⟩ := h
  exact szInt64S_any A x.length c left w hx hl hl2
theorem L_mark_Int64S (x : List Int) (v : Value) (k : Int) (lo hi : Nat) (w : World) (hk0 : 0 ≤ k) (hk1 : k ≤ 1099511627776) (h : O_Int64S w lo hi v x) :
    Calls Try.prog 19 #[v, .int .i64 k] w fun e w' => e = .returned (.int .i64 (k + cnt_Int64S x)) ∧ O_Int64S w' lo hi v (mark_Int64S x k) ∧ Only lo hi w w' := by
  have hs := h.small
  obtain ⟨⟨A, c, rfl⟩, _, ⟨hn, hx⟩ | ⟨ho, hlt⟩⟩ := h
  · have hx0 : x = [] := List.eq_nil_of_length_eq_zero hn
    subst hx0
    have hnil : w.ownsRow 0 2 1 (.slice none 0 0) 0 [] := World.ownsRow_nil _ _ _ _
    refine (markInt64S_nil A c k w hk0 hk1).mono fun e w' ⟨he, hw⟩ => ?_
    subst hw
    exact ⟨by rw [he]; simp [cnt_Int64S], OwnV.nil _ _ _ _ _ _ _, only_of_below (Below.refl _ _)⟩
  · refine (markInt64S_any lo x A c k w hs hk0 hk1 ho).mono fun e w' ⟨he, ho', hg⟩ => ⟨by rw [he]; simp [cnt_Int64S], ?_, only_row hg fun g hg' => ⟨(ho.lt g hg').1, hlt g hg'⟩⟩
    unfold O_Int64S mark_Int64S
    rw [marks_len]
    exact ⟨⟨A, c, rfl⟩, hs, .inr ⟨ho', hlt⟩⟩
theorem L_held_Int64S (x : List Int) (v : Value) (k : Int) (lo hi : Nat) (w : World) (hk0 : 0 ≤ k) (hk1 : k ≤ 1099511627776) (h : O_Int64S w lo hi v (mark_Int64S x k)) :
    Calls Try.prog 214 #[v, .int .i64 k] w fun e w' => e = .returned (.int .i64 (k + cnt_Int64S x)) ∧ Below w.heap.size w w' := by
  have hs := h.small
  obtain ⟨A, c, rfl, r⟩ := h.r
  unfold mark_Int64S at *
  rw [marks_len] at *
  exact (heldInt64S_any x.length A c k w hs hk0 hk1 r).mono fun e w' ⟨he, hb⟩ => ⟨by rw [he]; simp [cnt_Int64S], hb⟩


/-! ### MoveS -/
def R_MoveS (w : World) (B : Nat) (v : Value) (x : List T3) : Prop := ∃ A c, v = .slice A x.length c ∧ Rd3 w B A x
def O_MoveS (w : World) (lo hi : Nat) (v : Value) (x : List T3) : Prop := OwnV 143 3 w lo hi v x.length (x.flatMap T3.cells)
theorem R_MoveS.below {w w' : World} {B : Nat} {v : Value} {x : List T3} (h : R_MoveS w B v x) (k : Below B w w') : R_MoveS w' B v x := by
  obtain ⟨A, c, rfl, h⟩ := h; exact ⟨A, c, rfl, h.below k⟩
theorem R_MoveS.more {w : World} {B B' : Nat} {v : Value} {x : List T3} (h : R_MoveS w B v x) (k : B ≤ B') : R_MoveS w B' v x := by
  obtain ⟨A, c, rfl, h⟩ := h; exact ⟨A, c, rfl, h.more k⟩
theorem O_MoveS.r {w : World} {lo hi : Nat} {v : Value} {x : List T3} (h : O_MoveS w lo hi v x) : R_MoveS w w.heap.size v x := h.rd
theorem O_MoveS.small {w : World} {lo hi : Nat} {v : Value} {x : List T3} (h : O_MoveS w lo hi v x) : x.length ≤ 1048576 := h.2.1
theorem O_MoveS.kept {w w' : World} {lo hi lo' hi' : Nat} {v : Value} {x : List T3} (h : O_MoveS w lo hi v x) (k : Only lo' hi' w w') (hd : hi ≤ lo' ∨ hi' ≤ lo) : O_MoveS w' lo hi v x := OwnV.kept h k hd
theorem O_MoveS.below {w w' : World} {lo hi B : Nat} {v : Value} {x : List T3} (h : O_MoveS w lo hi v x) (k : Below B w w') (hd : hi ≤ B) : O_MoveS w' lo hi v x := OwnV.below h k hd
theorem O_MoveS.widen {w : World} {lo hi lo' hi' : Nat} {v : Value} {x : List T3} (h : O_MoveS w lo hi v x) (h1 : lo' ≤ lo) (h2 : hi ≤ hi') : O_MoveS w lo' hi' v x := OwnV.widen h h1 h2
theorem O_MoveS.nil (w : World) (lo hi : Nat) (A : Option Addr) (c : Nat) : O_MoveS w lo hi (.slice A 0 c) [] := OwnV.nil _ _ _ _ _ _ _
def mark_MoveS (x : List T3) (k : Int) : List T3 := marks (mk3 k) x.length
def cnt_MoveS (x : List T3) : Int := 3 * x.length
theorem O_MoveS.cnt {w : World} {lo hi : Nat} {v : Value} {x : List T3} (h : O_MoveS w lo hi v x) : 0 ≤ cnt_MoveS x ∧ cnt_MoveS x ≤ 4194304 := by
  have := h.small
  unfold cnt_MoveS; omega
theorem L_eq_MoveS (x : List T3) (v1 v2 : Value) (lo1 hi1 lo2 hi2 : Nat) (w : World) (h1 : O_MoveS w lo1 hi1 v1 x) (h2 : O_MoveS w lo2 hi2 v2 x) :
    Calls Try.prog 16 #[v1, v2] w fun e w' => e = .returned (.bool true) ∧ Below w.heap.size w w' := by
  have hs := h1.small
  obtain ⟨A1, c1, rfl, r1⟩ := h1.r
  obtain ⟨A2, c2, rfl, r2⟩ := h2.r
  exact (eqMoveS_any x x A1 A2 c1 c2 w (by omega) (by omega) r1 r2).mono fun e w' ⟨he, hb⟩ => ⟨by rw [he]; simp, hb⟩
theorem L_mark_MoveS (x : List T3) (v : Value) (k : Int) (lo hi : Nat) (w : World) (hk0 : 0 ≤ k) (hk1 : k ≤ 1099511627776) (h : O_MoveS w lo hi v x) :
    Calls Try.prog 21 #[v, .int .i64 k] w fun e w' => e = .returned (.int .i64 (k + cnt_MoveS x)) ∧ O_MoveS w' lo hi v (mark_MoveS x k) ∧ Only lo hi w w' := by
  have hs := h.small
  obtain ⟨⟨A, c, rfl⟩, _, ⟨hn, hx⟩ | ⟨ho, hlt⟩⟩ := h
  · have hx0 : x = [] := List.eq_nil_of_length_eq_zero hn
    subst hx0
    have hnil : w.ownsRow 0 143 3 (.slice none 0 0) 0 [] := World.ownsRow_nil _ _ _ _
    refine (markMoveS_nil A c k w hk0 hk1).mono fun e w' ⟨he, hw⟩ => ?_
    subst hw
    exact ⟨by rw [he]; simp [cnt_MoveS], OwnV.nil _ _ _ _ _ _ _, only_of_below (Below.refl _ _)⟩
  · refine (markMoveS_any lo x A c k w hs hk0 hk1 ho).mono fun e w' ⟨he, ho', hg⟩ => ⟨by rw [he]; simp [cnt_MoveS], ?_, only_row hg fun g hg' => ⟨(ho.lt g hg').1, hlt g hg'⟩⟩
    unfold O_MoveS mark_MoveS
    rw [marks_len]
    exact ⟨⟨A, c, rfl⟩, hs, .inr ⟨ho', hlt⟩⟩
theorem L_held_MoveS (x : List T3) (v : Value) (k : Int) (lo hi : Nat) (w : World) (hk0 : 0 ≤ k) (hk1 : k ≤ 1099511627776) (h : O_MoveS w lo hi v (mark_MoveS x k)) :
    Calls Try.prog 22 #[v, .int .i64 k] w fun e w' => e = .returned (.int .i64 (k + cnt_MoveS x)) ∧ Below w.heap.size w w' := by
  have hs := h.small
  obtain ⟨A, c, rfl, r⟩ := h.r
  unfold mark_MoveS at *
  rw [marks_len] at *
  exact (heldMoveS_any x.length A c k w hs hk0 hk1 r).mono fun e w' ⟨he, hb⟩ => ⟨by rw [he]; simp [cnt_MoveS], hb⟩

/-! ### TubeS -/
def R_TubeS (w : World) (B : Nat) (v : Value) (x : List T3) : Prop := ∃ A c, v = .slice A x.length c ∧ Rd3 w B A x
def O_TubeS (w : World) (lo hi : Nat) (v : Value) (x : List T3) : Prop := OwnV 72 3 w lo hi v x.length (x.flatMap T3.cells)
theorem R_TubeS.below {w w' : World} {B : Nat} {v : Value} {x : List T3} (h : R_TubeS w B v x) (k : Below B w w') : R_TubeS w' B v x := by
  obtain ⟨A, c, rfl, h⟩ := h; exact ⟨A, c, rfl, h.below k⟩
theorem R_TubeS.more {w : World} {B B' : Nat} {v : Value} {x : List T3} (h : R_TubeS w B v x) (k : B ≤ B') : R_TubeS w B' v x := by
  obtain ⟨A, c, rfl, h⟩ := h; exact ⟨A, c, rfl, h.more k⟩
theorem O_TubeS.r {w : World} {lo hi : Nat} {v : Value} {x : List T3} (h : O_TubeS w lo hi v x) : R_TubeS w w.heap.size v x := h.rd
theorem O_TubeS.small {w : World} {lo hi : Nat} {v : Value} {x : List T3} (h : O_TubeS w lo hi v x) : x.length ≤ 1048576 := h.2.1
theorem O_TubeS.kept {w w' : World} {lo hi lo' hi' : Nat} {v : Value} {x : List T3} (h : O_TubeS w lo hi v x) (k : Only lo' hi' w w') (hd : hi ≤ lo' ∨ hi' ≤ lo) : O_TubeS w' lo hi v x := OwnV.kept h k hd
theorem O_TubeS.below {w w' : World} {lo hi B : Nat} {v : Value} {x : List T3} (h : O_TubeS w lo hi v x) (k : Below B w w') (hd : hi ≤ B) : O_TubeS w' lo hi v x := OwnV.below h k hd
theorem O_TubeS.widen {w : World} {lo hi lo' hi' : Nat} {v : Value} {x : List T3} (h : O_TubeS w lo hi v x) (h1 : lo' ≤ lo) (h2 : hi ≤ hi') : O_TubeS w lo' hi' v x := OwnV.widen h h1 h2
theorem O_TubeS.nil (w : World) (lo hi : Nat) (A : Option Addr) (c : Nat) : O_TubeS w lo hi (.slice A 0 c) [] := OwnV.nil _ _ _ _ _ _ _
def mark_TubeS (x : List T3) (k : Int) : List T3 := marks (mk3 k) x.length
def cnt_TubeS (x : List T3) : Int := 3 * x.length
theorem O_TubeS.cnt {w : World} {lo hi : Nat} {v : Value} {x : List T3} (h : O_TubeS w lo hi v x) : 0 ≤ cnt_TubeS x ∧ cnt_TubeS x ≤ 4194304 := by
  have := h.small
  unfold cnt_TubeS; omega

/-! ### ChangeS -/
def R_ChangeS (w : World) (B : Nat) (v : Value) (x : List T3) : Prop := ∃ A c, v = .slice A x.length c ∧ Rd3 w B A x
def O_ChangeS (w : World) (lo hi : Nat) (v : Value) (x : List T3) : Prop := OwnV 118 3 w lo hi v x.length (x.flatMap T3.cells)
theorem R_ChangeS.below {w w' : World} {B : Nat} {v : Value} {x : List T3} (h : R_ChangeS w B v x) (k : Below B w w') : R_ChangeS w' B v x := by
  obtain ⟨A, c, rfl, h⟩ := h; exact ⟨A, c, rfl, h.below k⟩
theorem R_ChangeS.more {w : World} {B B' : Nat} {v : Value} {x : List T3} (h : R_ChangeS w B v x) (k : B ≤ B') : R_ChangeS w B' v x := by
  obtain ⟨A, c, rfl, h⟩ := h; exact ⟨A, c, rfl, h.more k⟩
theorem O_ChangeS.r {w : World} {lo hi : Nat} {v : Value} {x : List T3} (h : O_ChangeS w lo hi v x) : R_ChangeS w w.heap.size v x := h.rd
theorem O_ChangeS.small {w : World} {lo hi : Nat} {v : Value} {x : List T3} (h : O_ChangeS w lo hi v x) : x.length ≤ 1048576 := h.2.1
theorem O_ChangeS.kept {w w' : World} {lo hi lo' hi' : Nat} {v : Value} {x : List T3} (h : O_ChangeS w lo hi v x) (k : Only lo' hi' w w') (hd : hi ≤ lo' ∨ hi' ≤ lo) : O_ChangeS w' lo hi v x := OwnV.kept h k hd
theorem O_ChangeS.below {w w' : World} {lo hi B : Nat} {v : Value} {x : List T3} (h : O_ChangeS w lo hi v x) (k : Below B w w') (hd : hi ≤ B) : O_ChangeS w' lo hi v x := OwnV.below h k hd
theorem O_ChangeS.widen {w : World} {lo hi lo' hi' : Nat} {v : Value} {x : List T3} (h : O_ChangeS w lo hi v x) (h1 : lo' ≤ lo) (h2 : hi ≤ hi') : O_ChangeS w lo' hi' v x := OwnV.widen h h1 h2
theorem O_ChangeS.nil (w : World) (lo hi : Nat) (A : Option Addr) (c : Nat) : O_ChangeS w lo hi (.slice A 0 c) [] := OwnV.nil _ _ _ _ _ _ _
def mark_ChangeS (x : List T3) (k : Int) : List T3 := marks (mk3 k) x.length
def cnt_ChangeS (x : List T3) : Int := 3 * x.length
theorem O_ChangeS.cnt {w : World} {lo hi : Nat} {v : Value} {x : List T3} (h : O_ChangeS w lo hi v x) : 0 ≤ cnt_ChangeS x ∧ cnt_ChangeS x ≤ 4194304 := by
  have := h.small
  unfold cnt_ChangeS; omega
theorem L_to_ChangeS (x : List T3) (v : Value) (w : World) (hs : x.length ≤ 1048576) (h : R_ChangeS w w.heap.size v x) :
    Calls Try.prog 205 #[v] w fun e w' => ∃ v', e = .returned v' ∧ O_ChangeS w' w.heap.size w'.heap.size v' x ∧ Below w.heap.size w w' := by
  obtain ⟨A, c, rfl, h⟩ := h
  exact (toChangeS_any x A c w hs h).mono fun e w' ⟨A', c', he, ho, hb⟩ => ⟨_, he, OwnV.of_row ho hs, hb⟩
theorem L_eq_ChangeS (x : List T3) (v1 v2 : Value) (lo1 hi1 lo2 hi2 : Nat) (w : World) (h1 : O_ChangeS w lo1 hi1 v1 x) (h2 : O_ChangeS w lo2 hi2 v2 x) :
    Calls Try.prog 212 #[v1, v2] w fun e w' => e = .returned (.bool true) ∧ Below w.heap.size w w' := by
  have hs := h1.small
  obtain ⟨A1, c1, rfl, r1⟩ := h1.r
  obtain ⟨A2, c2, rfl, r2⟩ := h2.r
  exact (eqChangeS_any x x A1 A2 c1 c2 w (by omega) (by omega) r1 r2).mono fun e w' ⟨he, hb⟩ => ⟨by rw [he]; simp, hb⟩
theorem L_sz_ChangeS (x : List T3) (v : Value) (left : Int) (B : Nat) (w : World) (hx : x.length ≤ 9223372036854775807) (hl : 0 ≤ left) (hl2 : left ≤ 1048576) (h : R_ChangeS w B v x) :
    Calls Try.prog 201 #[v, .int .i64 left] w fun e w' => e = .returned (.int .i64 (szF x.length left)) ∧ w = w' := by
  obtain ⟨A, c, rfl, h⟩ := h
  exact szChangeS_any A x.length c left w hx hl hl2
theorem L_mark_ChangeS (x : List T3) (v : Value) (k : Int) (lo hi : Nat) (w : World) (hk0 : 0 ≤ k) (hk1 : k ≤ 1099511627776) (h : O_ChangeS w lo hi v x) :
    Calls Try.prog 213 #[v, .int .i64 k] w fun e w' => e = .returned (.int .i64 (k + cnt_ChangeS x)) ∧ O_ChangeS w' lo hi v (mark_ChangeS x k) ∧ Only lo hi w w' := by
  have hs := h.small
  obtain ⟨⟨A, c, rfl⟩, _, ⟨hn, hx⟩ | ⟨ho, hlt⟩⟩ := h
  · have hx0 : x = [] := List.eq_nil_of_length_eq_zero hn
    subst hx0
    have hnil : w.ownsRow 0 118 3 (.slice none 0 0) 0 [] := World.ownsRow_nil _ _ _ _
    refine (markChangeS_nil A c k w hk0 hk1).mono fun e w' ⟨he, hw⟩ => ?_
    subst hw
    exact ⟨by rw [he]; simp [cnt_ChangeS], OwnV.nil _ _ _ _ _ _ _, only_of_below (Below.refl _ _)⟩
  · refine (markChangeS_any lo x A c k w hs hk0 hk1 ho).mono fun e w' ⟨he, ho', hg⟩ => ⟨by rw [he]; simp [cnt_ChangeS], ?_, only_row hg fun g hg' => ⟨(ho.lt g hg').1, hlt g hg'⟩⟩
    unfold O_ChangeS mark_ChangeS
    rw [marks_len]
    exact ⟨⟨A, c, rfl⟩, hs, .inr ⟨ho', hlt⟩⟩
theorem L_held_ChangeS (x : List T3) (v : Value) (k : Int) (lo hi : Nat) (w : World) (hk0 : 0 ≤ k) (hk1 : k ≤ 1099511627776) (h : O_ChangeS w lo hi v (mark_ChangeS x k)) :
    Calls Try.prog 215 #[v, .int .i64 k] w fun e w' => e = .returned (.int .i64 (k + cnt_ChangeS x)) ∧ Below w.heap.size w w' := by
  have hs := h.small
  obtain ⟨A, c, rfl, r⟩ := h.r
  unfold mark_ChangeS at *
  rw [marks_len] at *
  exact (heldChangeS_any x.length A c k w hs hk0 hk1 r).mono fun e w' ⟨he, hb⟩ => ⟨by rw [he]; simp [cnt_ChangeS], hb⟩


/-! ### RideS -/
def R_RideS (w : World) (B : Nat) (v : Value) (x : List T4) : Prop := ∃ A c, v = .slice A x.length c ∧ Rd4 w B A x
def O_RideS (w : World) (lo hi : Nat) (v : Value) (x : List T4) : Prop := OwnV 87 4 w lo hi v x.length (x.flatMap T4.cells)
theorem R_RideS.below {w w' : World} {B : Nat} {v : Value} {x : List T4} (h : R_RideS w B v x) (k : Below B w w') : R_RideS w' B v x := by
  obtain ⟨A, c, rfl, h⟩ := h; exact ⟨A, c, rfl, h.below k⟩
theorem R_RideS.more {w : World} {B B' : Nat} {v : Value} {x : List T4} (h : R_RideS w B v x) (k : B ≤ B') : R_RideS w B' v x := by
  obtain ⟨A, c, rfl, h⟩ := h; exact ⟨A, c, rfl, h.more k⟩
theorem O_RideS.r {w : World} {lo hi : Nat} {v : Value} {x : List T4} (h : O_RideS w lo hi v x) : R_RideS w w.heap.size v x := h.rd
theorem O_RideS.small {w : World} {lo hi : Nat} {v : Value} {x : List T4} (h : O_RideS w lo hi v x) : x.length ≤ 1048576 := h.2.1
theorem O_RideS.kept {w w' : World} {lo hi lo' hi' : Nat} {v : Value} {x : List T4} (h : O_RideS w lo hi v x) (k : Only lo' hi' w w') (hd : hi ≤ lo' ∨ hi' ≤ lo) : O_RideS w' lo hi v x := OwnV.kept h k hd
theorem O_RideS.below {w w' : World} {lo hi B : Nat} {v : Value} {x : List T4} (h : O_RideS w lo hi v x) (k : Below B w w') (hd : hi ≤ B) : O_RideS w' lo hi v x := OwnV.below h k hd
theorem O_RideS.widen {w : World} {lo hi lo' hi' : Nat} {v : Value} {x : List T4} (h : O_RideS w lo hi v x) (h1 : lo' ≤ lo) (h2 : hi ≤ hi') : O_RideS w lo' hi' v x := OwnV.widen h h1 h2
theorem O_RideS.nil (w : World) (lo hi : Nat) (A : Option Addr) (c : Nat) : O_RideS w lo hi (.slice A 0 c) [] := OwnV.nil _ _ _ _ _ _ _
def mark_RideS (x : List T4) (k : Int) : List T4 := marks (mk4 k) x.length
def cnt_RideS (x : List T4) : Int := 4 * x.length
theorem O_RideS.cnt {w : World} {lo hi : Nat} {v : Value} {x : List T4} (h : O_RideS w lo hi v x) : 0 ≤ cnt_RideS x ∧ cnt_RideS x ≤ 4194304 := by
  have := h.small
  unfold cnt_RideS; omega
end Go.Proofs.Ytklfjekpeoigoaa
namespace Go.Proofs.Ytklfjekpeoigoaa
open Go.RowKit

/-- A valid stock. -/
def vStock (zs : List Int) : Bool := zs.all (inB 0 200) && (inB 2 10 zs.length && decide (zs.sum ≤ 200))

set_option maxRecDepth 100000 in
set_option maxHeartbeats 1000000 in
theorem l07Ok_any (xs : List Int) (A : Option Addr) (c : Nat) (w : World) (hx : xs.length ≤ 1048576) (h1 : RdI w w.heap.size A xs) :
    Calls Try.prog 143 #[.slice A xs.length c] w fun e w' => e = .returned (.bool (vStock xs)) ∧ w = w' := by
  have HX := hide h1; clear h1
  go_enter Try.func143, Try.ntmps143
  go_wp2_with fail
  go_loopg [3] xs.length (fun g i wr => ∃ k : Nat, k ≤ xs.length ∧ Hid (g = xs.length - k) ∧ i = .int .i64 k ∧ Hid (xs.all (inB 0 200) = (xs.drop k).all (inB 0 200)) ∧ w = wr)
  case atStart => exact ⟨0, by omega, by simp [Hid], rfl, by simp [Hid], rfl⟩
  case round =>
    obtain ⟨k, hk, hg, rfl, HS, rfl⟩ := hrel
    by_cases hlt : k < xs.length
    · obtain ⟨b1, o1, z1, rfl, _, hz1, hc1⟩ := HX.out.at_ hlt
      have HS' := HS.out; rw [all_drop _ _ _ _ hz1] at HS'
      have HQ := hide HS'; clear HS' hz1
      by_cases hz : 0 ≤ z1 ∧ z1 ≤ 200
      · have HB := hide (inB_t hz)
        obtain ⟨hz0, hz9⟩ := hz
        go_wp2_with (go_at_call 148; first | (refine (l00In_t _ _ _ _ (by omega)).mono ?_; rintro e w' ⟨rfl, rfl⟩) | (refine (l00In_f _ _ _ _ (by omega)).mono ?_; rintro e w' ⟨rfl, rfl⟩))
        go_roundg (xs.length - (k + 1))
        case measure => have := hg.out; omega
        case rel => exact ⟨k + 1, by omega, rfl, by go_num, hide (by have := HQ.out; rw [HB.out] at this; simpa using this), rfl⟩
      · have hz' : z1 < 0 ∨ 200 < z1 := by omega
        have HB := hide (inB_f hz')
        clear hz
        go_wp2_with (go_at_call 148; first | (refine (l00In_t _ _ _ _ (by omega)).mono ?_; rintro e w' ⟨rfl, rfl⟩) | (refine (l00In_f _ _ _ _ (by omega)).mono ?_; rintro e w' ⟨rfl, rfl⟩))
        go_ret
        refine ⟨ret_b ?_, rfl⟩
        unfold vStock
        rw [HQ.out, HB.out]; rfl
    · have HA : Hid (xs.all (inB 0 200) = true) := by
        have := HS.out; rw [List.drop_eq_nil_of_le (by omega)] at this; exact this
      by_cases hl : 2 ≤ xs.length ∧ xs.length ≤ 10
      · have HL := hide (inB_t (lo := 2) (hi := 10) (n := (xs.length : Int)) (by omega))
        obtain ⟨hl2, hl10⟩ := hl
        have HC := hide (l00Sum_any xs A c w hx (fun z hz => by have := List.all_eq_true.1 HA.out z hz; rw [inB_iff] at this; omega) HX.out)
        go_wp2_with (first | (go_at_call 148; first | (refine (l00In_t _ _ _ _ (by omega)).mono ?_; rintro e w' ⟨rfl, rfl⟩) | (refine (l00In_f _ _ _ _ (by omega)).mono ?_; rintro e w' ⟨rfl, rfl⟩)) | (go_at_call 121; refine HC.out.mono ?_; rintro e w' ⟨rfl, rfl⟩))
        go_ret
        refine ⟨ret_b ?_, rfl⟩
        unfold vStock
        rw [HA.out, HL.out]; simp
      · have hl' : (xs.length : Int) < 2 ∨ 10 < (xs.length : Int) := by omega
        have HL := hide (inB_f hl')
        clear hl
        go_wp2_with (go_at_call 148; first | (refine (l00In_t _ _ _ _ (by omega)).mono ?_; rintro e w' ⟨rfl, rfl⟩) | (refine (l00In_f _ _ _ _ (by omega)).mono ?_; rintro e w' ⟨rfl, rfl⟩))
        go_ret
        refine ⟨ret_b ?_, rfl⟩
        unfold vStock
        rw [HA.out, HL.out]; simp
set_option maxRecDepth 100000 in
set_option maxHeartbeats 1000000 in
theorem specValidStock_any (xs : List Int) (A : Option Addr) (c : Nat) (w : World) (hx : xs.length ≤ 1048576) (h1 : RdI w w.heap.size A xs) :
    Calls Try.prog 38 #[.slice A xs.length c] w fun e w' => e = .returned (.bool (vStock xs)) ∧ w = w' := by
  have HC := hide (l07Ok_any xs A c w hx h1)
  clear h1
  go_enter Try.func38, Try.ntmps38
  go_wp2_with (go_at_call 143; refine HC.out.mono ?_; rintro e w' ⟨rfl, rfl⟩)
  go_ret
  exact ⟨rfl, rfl⟩
set_option maxRecDepth 100000 in
set_option maxHeartbeats 1000000 in
theorem isCount_any (n : Int) (w : World) :
    Calls Try.prog 146 #[.int .i64 n] w fun e w' => e = .returned (.bool (inB 2 10 n)) ∧ w = w' := by
  have HC := hide (within_any n 2 10 w)
  go_enter Try.func146, Try.ntmps146
  go_wp2_with (go_at_call 186; refine HC.out.mono ?_; rintro e w' ⟨rfl, rfl⟩)
  go_ret
  exact ⟨rfl, rfl⟩
set_option maxRecDepth 100000 in
set_option maxHeartbeats 1000000 in
theorem implValidStock_any (xs : List Int) (A : Option Addr) (c : Nat) (w : World) (hx : xs.length ≤ 1048576) (h1 : RdI w w.heap.size A xs) :
    Calls Try.prog 37 #[.slice A xs.length c] w fun e w' => e = .returned (.bool (vStock xs)) ∧ Below w.heap.size w w' := by
  have HC := hide (isCount_any (xs.length : Int))
  by_cases hl : 2 ≤ xs.length ∧ xs.length ≤ 10
  · have HL := inB_t (lo := 2) (hi := 10) (n := (xs.length : Int)) (by omega)
    rw [HL] at HC
    have HL' := hide HL; clear HL hl
    have HO := hide (outside_any xs 0 200 A c w (by omega) h1)
    cases ha : xs.all (inB 0 200)
    · rw [any_not_all, ha] at HO
      have HA := hide ha; clear ha
      have HX := hide h1; clear h1
      go_enter Try.func37, Try.ntmps37
      go_wp2_with (first | (go_at_call 146; refine (HC.out _).mono ?_; rintro e w' ⟨rfl, rfl⟩) | (go_at_call 147; refine (HO.out).mono ?_; rintro e w1 ⟨rfl, hb1⟩))
      go_ret
      exact ⟨ret_b (by unfold vStock; rw [HA.out]; rfl), hb1⟩
    · rw [any_not_all, ha] at HO
      have HA := hide ha; clear ha
      have HX := hide h1; clear h1
      have HS := hide fun W (hW : Below w.heap.size w W) => sumOf_any xs A c W hx (fun z hz => by have := List.all_eq_true.1 HA.out z hz; rw [inB_iff] at this; omega) ((HX.out.below hW).more hW.size)
      go_enter Try.func37, Try.ntmps37
      go_wp2_with (first | (go_at_call 146; refine (HC.out _).mono ?_; rintro e w' ⟨rfl, rfl⟩) | (go_at_call 147; refine (HO.out).mono ?_; rintro e w1 ⟨rfl, hb1⟩) | (go_at_call 127; refine (HS.out _ hb1).mono ?_; rintro e w' ⟨rfl, rfl⟩))
      go_ret
      exact ⟨ret_b (by unfold vStock; rw [HA.out, HL'.out]; simp), hb1⟩
  · have HL := inB_f (lo := 2) (hi := 10) (n := (xs.length : Int)) (by omega)
    rw [HL] at HC
    have HL' := hide HL; clear HL hl h1
    go_enter Try.func37, Try.ntmps37
    go_wp2_with (go_at_call 146; refine (HC.out _).mono ?_; rintro e w' ⟨rfl, rfl⟩)
    go_ret
    exact ⟨ret_b (by unfold vStock; rw [HL'.out]; simp), Below.refl _ _⟩
end Go.Proofs.Ytklfjekpeoigoaa
