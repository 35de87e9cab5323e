/-
  The words of the exact laws: 'R': a value reads as x; 'O': it is memory of the law's own, in blocks lo .. hi. The helpers' contracts in these words. Printed by gen_law.py.
-/
import Derived.Test.YtflbddfmhjlknaaInts
import Derived.Test.YtflbddfmhjlknaaRec
namespace Go.Proofs.Ytflbddfmhjlknaa
open Go.RowKit

/-- Only blocks lo .. hi, and new ones, have turned. -/
def Only (lo hi : Nat) (w w' : World) : Prop :=
  w'.os = w.os ∧ w'.tape = w.tape ∧ w'.output = w.output ∧ w.heap.size ≤ w'.heap.size ∧ ∀ k, k < w.heap.size → (k < lo ∨ hi ≤ k) → w'.heap[k]? = w.heap[k]?
theorem Only.size {lo hi : Nat} {w w' : World} (h : Only lo hi w w') : w.heap.size ≤ w'.heap.size := h.2.2.2.1
theorem Only.below {lo hi : Nat} {w w' : World} (h : Only lo hi w w') {B : Nat} (hB : B ≤ lo) (hB' : B ≤ w.heap.size) : Below B w w' :=
  ⟨h.1, h.2.1, h.2.2.1, h.2.2.2.1, fun k hk => h.2.2.2.2 k (by omega) (.inl (by omega))⟩
theorem only_row {w w' : World} {r : Option Nat} {lo hi : Nat} (h : w.grownBy w' r) (hr : ∀ g, r = some g → lo ≤ g ∧ g < hi) : Only lo hi w w' :=
  ⟨h.os, h.tape, h.output, h.size, fun k hk ho => h.block k hk (fun e => by have := hr k e.symm; omega)⟩
theorem only_of_below {w w' : World} {lo hi : Nat} (h : Below w.heap.size w w') : Only lo hi w w' := ⟨h.os, h.tape, h.output, h.size, fun k hk _ => h.block k hk⟩
theorem only_trans {w w1 w2 : World} {lo hi : Nat} (h : Only lo hi w w1) (k : Only lo hi w1 w2) : Only lo hi w w2 :=
  ⟨k.1.trans h.1, k.2.1.trans h.2.1, k.2.2.1.trans h.2.2.1, Nat.le_trans h.size k.size, fun i hi' ho => (k.2.2.2.2 i (Nat.lt_of_lt_of_le hi' h.size) ho).trans (h.2.2.2.2 i hi' ho)⟩
/-- A row of the call's own, of elements with s cells. -/
def OwnV (e : TypeId) (s : Nat) (w : World) (lo hi : Nat) (v : Value) (n : Nat) (xs : List Value) : Prop :=
  (∃ A c, v = .slice A n c) ∧ n ≤ 1048576 ∧ ((n = 0 ∧ xs = []) ∨ (w.ownsRow lo e s v n xs ∧ ∀ g, v.ownBlock = some g → g < hi))
theorem OwnV.of_row {e : TypeId} {s : Nat} {w : World} {lo : Nat} {v : Value} {n : Nat} {xs : List Value} (h : w.ownsRow lo e s v n xs) (hn : n ≤ 1048576) : OwnV e s w lo w.heap.size v n xs := by
  obtain ⟨A, c, rfl, _⟩ := own_shape h
  exact ⟨⟨A, c, rfl⟩, hn, .inr ⟨h, fun g hg => (h.lt g hg).2⟩⟩
theorem OwnV.nil (e : TypeId) (s : Nat) (w : World) (lo hi : Nat) (A : Option Addr) (c : Nat) : OwnV e s w lo hi (.slice A 0 c) 0 [] := ⟨⟨A, c, rfl⟩, by omega, .inl ⟨rfl, rfl⟩⟩
theorem OwnV.kept {e : TypeId} {s : Nat} {w w' : World} {lo hi lo' hi' : Nat} {v : Value} {n : Nat} {xs : List Value} (h : OwnV e s w lo hi v n xs) (k : Only lo' hi' w w') (hd : hi ≤ lo' ∨ hi' ≤ lo) : OwnV e s w' lo hi v n xs := by
  refine ⟨h.1, h.2.1, ?_⟩
  rcases h.2.2 with h0 | ⟨ho, hlt⟩
  · exact .inl h0
  · refine .inr ⟨⟨ho.1, ?_⟩, hlt⟩
    rcases ho.2 with h0 | ⟨g, cap, cur, rfl, hb, hg, rest⟩
    · exact .inl h0
    · refine .inr ⟨g, cap, cur, rfl, hb, ?_, rest⟩
      have := hlt g rfl
      rw [k.2.2.2.2 g (lt_of_block hg) (by omega)]; exact hg
theorem OwnV.below {e : TypeId} {s : Nat} {w w' : World} {lo hi B : Nat} {v : Value} {n : Nat} {xs : List Value} (h : OwnV e s w lo hi v n xs) (k : Below B w w') (hd : hi ≤ B) : OwnV e s w' lo hi v n xs := by
  refine ⟨h.1, h.2.1, ?_⟩
  rcases h.2.2 with h0 | ⟨ho, hlt⟩
  · exact .inl h0
  · refine .inr ⟨⟨ho.1, ?_⟩, hlt⟩
    rcases ho.2 with h0 | ⟨g, cap, cur, rfl, hb, hg, rest⟩
    · exact .inl h0
    · refine .inr ⟨g, cap, cur, rfl, hb, ?_, rest⟩
      have := hlt g rfl
      rw [k.block g (by omega)]; exact hg
theorem OwnV.widen {e : TypeId} {s : Nat} {w : World} {lo hi lo' hi' : Nat} {v : Value} {n : Nat} {xs : List Value} (h : OwnV e s w lo hi v n xs) (h1 : lo' ≤ lo) (h2 : hi ≤ hi') : OwnV e s w lo' hi' v n xs := by
  refine ⟨h.1, h.2.1, ?_⟩
  rcases h.2.2 with h0 | ⟨ho, hlt⟩
  · exact .inl h0
  · exact .inr ⟨own_base ho h1, fun g hg => Nat.lt_of_lt_of_le (hlt g hg) h2⟩
theorem OwnV.rd {e : TypeId} {s : Nat} {w : World} {lo hi : Nat} {v : Value} {n : Nat} {xs : List Value} (h : OwnV e s w lo hi v n xs) : ∃ A c, v = .slice A n c ∧ Rd w w.heap.size A xs := by
  obtain ⟨⟨A, c, rfl⟩, _, h0 | ⟨ho, _⟩⟩ := h
  · obtain ⟨rfl, rfl⟩ := h0; exact ⟨A, c, rfl, Rd.nil _ _ _⟩
  · exact ⟨A, c, rfl, Rd.of_own ho⟩

/-! ### Int64S -/
def R_Int64S (w : World) (B : Nat) (v : Value) (x : List Int) : Prop := ∃ A c, v = .slice A x.length c ∧ RdI w B A x
def O_Int64S (w : World) (lo hi : Nat) (v : Value) (x : List Int) : Prop := OwnV 2 1 w lo hi v x.length (x.map (Value.int .i64))
theorem R_Int64S.below {w w' : World} {B : Nat} {v : Value} {x : List Int} (h : R_Int64S w B v x) (k : Below B w w') : R_Int64S w' B v x := by
  obtain ⟨A, c, rfl, h⟩ := h; exact ⟨A, c, rfl, h.below k⟩
theorem R_Int64S.more {w : World} {B B' : Nat} {v : Value} {x : List Int} (h : R_Int64S w B v x) (k : B ≤ B') : R_Int64S w B' v x := by
  obtain ⟨A, c, rfl, h⟩ := h; exact ⟨A, c, rfl, h.more k⟩
theorem O_Int64S.r {w : World} {lo hi : Nat} {v : Value} {x : List Int} (h : O_Int64S w lo hi v x) : R_Int64S w w.heap.size v x := h.rd
theorem O_Int64S.small {w : World} {lo hi : Nat} {v : Value} {x : List Int} (h : O_Int64S w lo hi v x) : x.length ≤ 1048576 := h.2.1
theorem O_Int64S.kept {w w' : World} {lo hi lo' hi' : Nat} {v : Value} {x : List Int} (h : O_Int64S w lo hi v x) (k : Only lo' hi' w w') (hd : hi ≤ lo' ∨ hi' ≤ lo) : O_Int64S w' lo hi v x := OwnV.kept h k hd
theorem O_Int64S.below {w w' : World} {lo hi B : Nat} {v : Value} {x : List Int} (h : O_Int64S w lo hi v x) (k : Below B w w') (hd : hi ≤ B) : O_Int64S w' lo hi v x := OwnV.below h k hd
theorem O_Int64S.widen {w : World} {lo hi lo' hi' : Nat} {v : Value} {x : List Int} (h : O_Int64S w lo hi v x) (h1 : lo' ≤ lo) (h2 : hi ≤ hi') : O_Int64S w lo' hi' v x := OwnV.widen h h1 h2
theorem O_Int64S.nil (w : World) (lo hi : Nat) (A : Option Addr) (c : Nat) : O_Int64S w lo hi (.slice A 0 c) [] := OwnV.nil _ _ _ _ _ _ _
def mark_Int64S (x : List Int) (k : Int) : List Int := marks (mkI k) x.length
def cnt_Int64S (x : List Int) : Int := x.length
theorem O_Int64S.cnt {w : World} {lo hi : Nat} {v : Value} {x : List Int} (h : O_Int64S w lo hi v x) : 0 ≤ cnt_Int64S x ∧ cnt_Int64S x ≤ 4194304 := by
  have := h.small
  unfold cnt_Int64S; omega
theorem L_to_Int64S (x : List Int) (v : Value) (w : World) (hs : x.length ≤ 1048576) (h : R_Int64S w w.heap.size v x) :
    Calls Try.prog 48 #[v] w fun e w' => ∃ v', e = .returned v' ∧ O_Int64S w' w.heap.size w'.heap.size v' x ∧ Below w.heap.size w w' := by
  obtain ⟨A, c, rfl, h⟩ := h
  exact (toInt64S_any x A c w hs h).mono fun e w' ⟨A', c', he, ho, hb⟩ => ⟨_, he, OwnV.of_row ho hs, hb⟩
theorem L_eq_Int64S (x : List Int) (v1 v2 : Value) (lo1 hi1 lo2 hi2 : Nat) (w : World) (h1 : O_Int64S w lo1 hi1 v1 x) (h2 : O_Int64S w lo2 hi2 v2 x) :
    Calls Try.prog 52 #[v1, v2] w fun e w' => e = .returned (.bool true) ∧ Below w.heap.size w w' := by
  have hs := h1.small
  obtain ⟨A1, c1, rfl, r1⟩ := h1.r
  obtain ⟨A2, c2, rfl, r2⟩ := h2.r
  exact (eqInt64S_any x x A1 A2 c1 c2 w (by omega) (by omega) r1 r2).mono fun e w' ⟨he, hb⟩ => ⟨by rw [he]; simp, hb⟩
theorem L_sz_Int64S (x : List Int) (v : Value) (left : Int) (B : Nat) (w : World) (hx : x.length ≤ 9223372036854775807) (hl : 0 ≤ left) (hl2 : left ≤ 1048576) (h : R_Int64S w B v x) :
    Calls Try.prog 126 #[v, .int .i64 left] w fun e w' => e = .returned (.int .i64 (szF x.length left)) ∧ w = w' := by
  obtain ⟨A, c, rfl, h⟩ := h
  exact szInt64S_any A x.length c left w hx hl hl2
theorem L_mark_Int64S (x : List Int) (v : Value) (k : Int) (lo hi : Nat) (w : World) (hk0 : 0 ≤ k) (hk1 : k ≤ 1099511627776) (h : O_Int64S w lo hi v x) :
    Calls Try.prog 54 #[v, .int .i64 k] w fun e w' => e = .returned (.int .i64 (k + cnt_Int64S x)) ∧ O_Int64S w' lo hi v (mark_Int64S x k) ∧ Only lo hi w w' := by
  have hs := h.small
  obtain ⟨⟨A, c, rfl⟩, _, ⟨hn, hx⟩ | ⟨ho, hlt⟩⟩ := h
  · have hx0 : x = [] := List.eq_nil_of_length_eq_zero hn
    subst hx0
    have hnil : w.ownsRow 0 2 1 (.slice none 0 0) 0 [] := World.ownsRow_nil _ _ _ _
    refine (markInt64S_nil A c k w hk0 hk1).mono fun e w' ⟨he, hw⟩ => ?_
    subst hw
    exact ⟨by rw [he]; simp [cnt_Int64S], OwnV.nil _ _ _ _ _ _ _, only_of_below (Below.refl _ _)⟩
  · refine (markInt64S_any lo x A c k w hs hk0 hk1 ho).mono fun e w' ⟨he, ho', hg⟩ => ⟨by rw [he]; simp [cnt_Int64S], ?_, only_row hg fun g hg' => ⟨(ho.lt g hg').1, hlt g hg'⟩⟩
    unfold O_Int64S mark_Int64S
    rw [marks_len]
    exact ⟨⟨A, c, rfl⟩, hs, .inr ⟨ho', hlt⟩⟩
theorem L_held_Int64S (x : List Int) (v : Value) (k : Int) (lo hi : Nat) (w : World) (hk0 : 0 ≤ k) (hk1 : k ≤ 1099511627776) (h : O_Int64S w lo hi v (mark_Int64S x k)) :
    Calls Try.prog 122 #[v, .int .i64 k] w fun e w' => e = .returned (.int .i64 (k + cnt_Int64S x)) ∧ Below w.heap.size w w' := by
  have hs := h.small
  obtain ⟨A, c, rfl, r⟩ := h.r
  unfold mark_Int64S at *
  rw [marks_len] at *
  exact (heldInt64S_any x.length A c k w hs hk0 hk1 r).mono fun e w' ⟨he, hb⟩ => ⟨by rw [he]; simp [cnt_Int64S], hb⟩

/-! ### SealS -/
def R_SealS (w : World) (B : Nat) (v : Value) (x : List T2) : Prop := ∃ A c, v = .slice A x.length c ∧ Rd2 w B A x
def O_SealS (w : World) (lo hi : Nat) (v : Value) (x : List T2) : Prop := OwnV 46 2 w lo hi v x.length (x.flatMap T2.cells)
theorem R_SealS.below {w w' : World} {B : Nat} {v : Value} {x : List T2} (h : R_SealS w B v x) (k : Below B w w') : R_SealS w' B v x := by
  obtain ⟨A, c, rfl, h⟩ := h; exact ⟨A, c, rfl, h.below k⟩
theorem R_SealS.more {w : World} {B B' : Nat} {v : Value} {x : List T2} (h : R_SealS w B v x) (k : B ≤ B') : R_SealS w B' v x := by
  obtain ⟨A, c, rfl, h⟩ := h; exact ⟨A, c, rfl, h.more k⟩
theorem O_SealS.r {w : World} {lo hi : Nat} {v : Value} {x : List T2} (h : O_SealS w lo hi v x) : R_SealS w w.heap.size v x := h.rd
theorem O_SealS.small {w : World} {lo hi : Nat} {v : Value} {x : List T2} (h : O_SealS w lo hi v x) : x.length ≤ 1048576 := h.2.1
theorem O_SealS.kept {w w' : World} {lo hi lo' hi' : Nat} {v : Value} {x : List T2} (h : O_SealS w lo hi v x) (k : Only lo' hi' w w') (hd : hi ≤ lo' ∨ hi' ≤ lo) : O_SealS w' lo hi v x := OwnV.kept h k hd
theorem O_SealS.below {w w' : World} {lo hi B : Nat} {v : Value} {x : List T2} (h : O_SealS w lo hi v x) (k : Below B w w') (hd : hi ≤ B) : O_SealS w' lo hi v x := OwnV.below h k hd
theorem O_SealS.widen {w : World} {lo hi lo' hi' : Nat} {v : Value} {x : List T2} (h : O_SealS w lo hi v x) (h1 : lo' ≤ lo) (h2 : hi ≤ hi') : O_SealS w lo' hi' v x := OwnV.widen h h1 h2
theorem O_SealS.nil (w : World) (lo hi : Nat) (A : Option Addr) (c : Nat) : O_SealS w lo hi (.slice A 0 c) [] := OwnV.nil _ _ _ _ _ _ _
def mark_SealS (x : List T2) (k : Int) : List T2 := marks (mk2 k) x.length
def cnt_SealS (x : List T2) : Int := 2 * x.length
theorem O_SealS.cnt {w : World} {lo hi : Nat} {v : Value} {x : List T2} (h : O_SealS w lo hi v x) : 0 ≤ cnt_SealS x ∧ cnt_SealS x ≤ 4194304 := by
  have := h.small
  unfold cnt_SealS; omega

/-! ### MoveS -/
def R_MoveS (w : World) (B : Nat) (v : Value) (x : List T3) : Prop := ∃ A c, v = .slice A x.length c ∧ Rd3 w B A x
def O_MoveS (w : World) (lo hi : Nat) (v : Value) (x : List T3) : Prop := OwnV 34 3 w lo hi v x.length (x.flatMap T3.cells)
theorem R_MoveS.below {w w' : World} {B : Nat} {v : Value} {x : List T3} (h : R_MoveS w B v x) (k : Below B w w') : R_MoveS w' B v x := by
  obtain ⟨A, c, rfl, h⟩ := h; exact ⟨A, c, rfl, h.below k⟩
theorem R_MoveS.more {w : World} {B B' : Nat} {v : Value} {x : List T3} (h : R_MoveS w B v x) (k : B ≤ B') : R_MoveS w B' v x := by
  obtain ⟨A, c, rfl, h⟩ := h; exact ⟨A, c, rfl, h.more k⟩
theorem O_MoveS.r {w : World} {lo hi : Nat} {v : Value} {x : List T3} (h : O_MoveS w lo hi v x) : R_MoveS w w.heap.size v x := h.rd
theorem O_MoveS.small {w : World} {lo hi : Nat} {v : Value} {x : List T3} (h : O_MoveS w lo hi v x) : x.length ≤ 1048576 := h.2.1
theorem O_MoveS.kept {w w' : World} {lo hi lo' hi' : Nat} {v : Value} {x : List T3} (h : O_MoveS w lo hi v x) (k : Only lo' hi' w w') (hd : hi ≤ lo' ∨ hi' ≤ lo) : O_MoveS w' lo hi v x := OwnV.kept h k hd
theorem O_MoveS.below {w w' : World} {lo hi B : Nat} {v : Value} {x : List T3} (h : O_MoveS w lo hi v x) (k : Below B w w') (hd : hi ≤ B) : O_MoveS w' lo hi v x := OwnV.below h k hd
theorem O_MoveS.widen {w : World} {lo hi lo' hi' : Nat} {v : Value} {x : List T3} (h : O_MoveS w lo hi v x) (h1 : lo' ≤ lo) (h2 : hi ≤ hi') : O_MoveS w lo' hi' v x := OwnV.widen h h1 h2
theorem O_MoveS.nil (w : World) (lo hi : Nat) (A : Option Addr) (c : Nat) : O_MoveS w lo hi (.slice A 0 c) [] := OwnV.nil _ _ _ _ _ _ _
def mark_MoveS (x : List T3) (k : Int) : List T3 := marks (mk3 k) x.length
def cnt_MoveS (x : List T3) : Int := 3 * x.length
theorem O_MoveS.cnt {w : World} {lo hi : Nat} {v : Value} {x : List T3} (h : O_MoveS w lo hi v x) : 0 ≤ cnt_MoveS x ∧ cnt_MoveS x ≤ 4194304 := by
  have := h.small
  unfold cnt_MoveS; omega
theorem L_eq_MoveS (x : List T3) (v1 v2 : Value) (lo1 hi1 lo2 hi2 : Nat) (w : World) (h1 : O_MoveS w lo1 hi1 v1 x) (h2 : O_MoveS w lo2 hi2 v2 x) :
    Calls Try.prog 62 #[v1, v2] w fun e w' => e = .returned (.bool true) ∧ Below w.heap.size w w' := by
  have hs := h1.small
  obtain ⟨A1, c1, rfl, r1⟩ := h1.r
  obtain ⟨A2, c2, rfl, r2⟩ := h2.r
  exact (eqMoveS_any x x A1 A2 c1 c2 w (by omega) (by omega) r1 r2).mono fun e w' ⟨he, hb⟩ => ⟨by rw [he]; simp, hb⟩
theorem L_mark_MoveS (x : List T3) (v : Value) (k : Int) (lo hi : Nat) (w : World) (hk0 : 0 ≤ k) (hk1 : k ≤ 1099511627776) (h : O_MoveS w lo hi v x) :
    Calls Try.prog 63 #[v, .int .i64 k] w fun e w' => e = .returned (.int .i64 (k + cnt_MoveS x)) ∧ O_MoveS w' lo hi v (mark_MoveS x k) ∧ Only lo hi w w' := by
  have hs := h.small
  obtain ⟨⟨A, c, rfl⟩, _, ⟨hn, hx⟩ | ⟨ho, hlt⟩⟩ := h
  · have hx0 : x = [] := List.eq_nil_of_length_eq_zero hn
    subst hx0
    have hnil : w.ownsRow 0 34 3 (.slice none 0 0) 0 [] := World.ownsRow_nil _ _ _ _
    refine (markMoveS_nil A c k w hk0 hk1).mono fun e w' ⟨he, hw⟩ => ?_
    subst hw
    exact ⟨by rw [he]; simp [cnt_MoveS], OwnV.nil _ _ _ _ _ _ _, only_of_below (Below.refl _ _)⟩
  · refine (markMoveS_any lo x A c k w hs hk0 hk1 ho).mono fun e w' ⟨he, ho', hg⟩ => ⟨by rw [he]; simp [cnt_MoveS], ?_, only_row hg fun g hg' => ⟨(ho.lt g hg').1, hlt g hg'⟩⟩
    unfold O_MoveS mark_MoveS
    rw [marks_len]
    exact ⟨⟨A, c, rfl⟩, hs, .inr ⟨ho', hlt⟩⟩
theorem L_held_MoveS (x : List T3) (v : Value) (k : Int) (lo hi : Nat) (w : World) (hk0 : 0 ≤ k) (hk1 : k ≤ 1099511627776) (h : O_MoveS w lo hi v (mark_MoveS x k)) :
    Calls Try.prog 64 #[v, .int .i64 k] w fun e w' => e = .returned (.int .i64 (k + cnt_MoveS x)) ∧ Below w.heap.size w w' := by
  have hs := h.small
  obtain ⟨A, c, rfl, r⟩ := h.r
  unfold mark_MoveS at *
  rw [marks_len] at *
  exact (heldMoveS_any x.length A c k w hs hk0 hk1 r).mono fun e w' ⟨he, hb⟩ => ⟨by rw [he]; simp [cnt_MoveS], hb⟩

/-! ### TubeS -/
def R_TubeS (w : World) (B : Nat) (v : Value) (x : List T3) : Prop := ∃ A c, v = .slice A x.length c ∧ Rd3 w B A x
def O_TubeS (w : World) (lo hi : Nat) (v : Value) (x : List T3) : Prop := OwnV 93 3 w lo hi v x.length (x.flatMap T3.cells)
theorem R_TubeS.below {w w' : World} {B : Nat} {v : Value} {x : List T3} (h : R_TubeS w B v x) (k : Below B w w') : R_TubeS w' B v x := by
  obtain ⟨A, c, rfl, h⟩ := h; exact ⟨A, c, rfl, h.below k⟩
theorem R_TubeS.more {w : World} {B B' : Nat} {v : Value} {x : List T3} (h : R_TubeS w B v x) (k : B ≤ B') : R_TubeS w B' v x := by
  obtain ⟨A, c, rfl, h⟩ := h; exact ⟨A, c, rfl, h.more k⟩
theorem O_TubeS.r {w : World} {lo hi : Nat} {v : Value} {x : List T3} (h : O_TubeS w lo hi v x) : R_TubeS w w.heap.size v x := h.rd
theorem O_TubeS.small {w : World} {lo hi : Nat} {v : Value} {x : List T3} (h : O_TubeS w lo hi v x) : x.length ≤ 1048576 := h.2.1
theorem O_TubeS.kept {w w' : World} {lo hi lo' hi' : Nat} {v : Value} {x : List T3} (h : O_TubeS w lo hi v x) (k : Only lo' hi' w w') (hd : hi ≤ lo' ∨ hi' ≤ lo) : O_TubeS w' lo hi v x := OwnV.kept h k hd
theorem O_TubeS.below {w w' : World} {lo hi B : Nat} {v : Value} {x : List T3} (h : O_TubeS w lo hi v x) (k : Below B w w') (hd : hi ≤ B) : O_TubeS w' lo hi v x := OwnV.below h k hd
theorem O_TubeS.widen {w : World} {lo hi lo' hi' : Nat} {v : Value} {x : List T3} (h : O_TubeS w lo hi v x) (h1 : lo' ≤ lo) (h2 : hi ≤ hi') : O_TubeS w lo' hi' v x := OwnV.widen h h1 h2
theorem O_TubeS.nil (w : World) (lo hi : Nat) (A : Option Addr) (c : Nat) : O_TubeS w lo hi (.slice A 0 c) [] := OwnV.nil _ _ _ _ _ _ _
def mark_TubeS (x : List T3) (k : Int) : List T3 := marks (mk3 k) x.length
def cnt_TubeS (x : List T3) : Int := 3 * x.length
theorem O_TubeS.cnt {w : World} {lo hi : Nat} {v : Value} {x : List T3} (h : O_TubeS w lo hi v x) : 0 ≤ cnt_TubeS x ∧ cnt_TubeS x ≤ 4194304 := by
  have := h.small
  unfold cnt_TubeS; omega



end Go.Proofs.Ytflbddfmhjlknaa
