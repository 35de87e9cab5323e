/-
  The words of the exact laws: 'R': a value reads as x; 'O': it is memory of the law's own, in blocks lo .. hi. The helpers' contracts in these words. Printed by gen_law.py.
  Zones with their changes as a value: a record of a number and two slices. The words of the laws for it, and the laws' helpers by contract.
-/
import Derived.Test.YtlkccijlbeibjaaQExactAddChange1
namespace Go.Proofs.Ytlkccijlbeibjaa
open Go.RowKit

/-- Only blocks lo .. hi, and new ones, have turned. -/
def Only (lo hi : Nat) (w w' : World) : Prop :=
  w'.os = w.os ∧ w'.tape = w.tape ∧ w'.output = w.output ∧ w.heap.size ≤ w'.heap.size ∧ ∀ k, k < w.heap.size → (k < lo ∨ hi ≤ k) → w'.heap[k]? = w.heap[k]?
theorem Only.size {lo hi : Nat} {w w' : World} (h : Only lo hi w w') : w.heap.size ≤ w'.heap.size := h.2.2.2.1
theorem Only.below {lo hi : Nat} {w w' : World} (h : Only lo hi w w') {B : Nat} (hB : B ≤ lo) (hB' : B ≤ w.heap.size) : Below B w w' :=
  ⟨h.1, h.2.1, h.2.2.1, h.2.2.2.1, fun k hk => h.2.2.2.2 k (by omega) (.inl (by omega))⟩
theorem only_row {w w' : World} {r : Option Nat} {lo hi : Nat} (h : w.grownBy w' r) (hr : ∀ g, r = some g → lo ≤ g ∧ g < hi) : Only lo hi w w' :=
  ⟨h.os, h.tape, h.output, h.size, fun k hk ho => h.block k hk (fun e => by have := hr k e.symm; omega)⟩
theorem only_of_below {w w' : World} {lo hi : Nat} (h : Below w.heap.size w w') : Only lo hi w w' := ⟨h.os, h.tape, h.output, h.size, fun k hk _ => h.block k hk⟩
theorem only_trans {w w1 w2 : World} {lo hi : Nat} (h : Only lo hi w w1) (k : Only lo hi w1 w2) : Only lo hi w w2 :=
  ⟨k.1.trans h.1, k.2.1.trans h.2.1, k.2.2.1.trans h.2.2.1, Nat.le_trans h.size k.size, fun i hi' ho => (k.2.2.2.2 i (Nat.lt_of_lt_of_le hi' h.size) ho).trans (h.2.2.2.2 i hi' ho)⟩
/-- A row of the call's own, of elements with s cells. -/
def OwnV (e : TypeId) (s : Nat) (w : World) (lo hi : Nat) (v : Value) (n : Nat) (xs : List Value) : Prop :=
  (∃ A c, v = .slice A n c) ∧ n ≤ 1048576 ∧ ((n = 0 ∧ xs = []) ∨ (w.ownsRow lo e s v n xs ∧ ∀ g, v.ownBlock = some g → g < hi))
theorem OwnV.of_row {e : TypeId} {s : Nat} {w : World} {lo : Nat} {v : Value} {n : Nat} {xs : List Value} (h : w.ownsRow lo e s v n xs) (hn : n ≤ 1048576) : OwnV e s w lo w.heap.size v n xs := by
  obtain ⟨A, c, rfl, _⟩ := own_shape h
  exact ⟨⟨A, c, rfl⟩, hn, .inr ⟨h, fun g hg => (h.lt g hg).2⟩⟩
theorem OwnV.nil (e : TypeId) (s : Nat) (w : World) (lo hi : Nat) (A : Option Addr) (c : Nat) : OwnV e s w lo hi (.slice A 0 c) 0 [] := ⟨⟨A, c, rfl⟩, by omega, .inl ⟨rfl, rfl⟩⟩
theorem OwnV.kept {e : TypeId} {s : Nat} {w w' : World} {lo hi lo' hi' : Nat} {v : Value} {n : Nat} {xs : List Value} (h : OwnV e s w lo hi v n xs) (k : Only lo' hi' w w') (hd : hi ≤ lo' ∨ hi' ≤ lo) : OwnV e s w' lo hi v n xs := by
  refine ⟨h.1, h.2.1, ?_⟩
  rcases h.2.2 with h0 | ⟨ho, hlt⟩
  · exact .inl h0
  · refine .inr ⟨⟨ho.1, ?_⟩, hlt⟩
    rcases ho.2 with h0 | ⟨g, cap, cur, rfl, hb, hg, rest⟩
    · exact .inl h0
    · refine .inr ⟨g, cap, cur, rfl, hb, ?_, rest⟩
      have := hlt g rfl
      rw [k.2.2.2.2 g (lt_of_block hg) (by omega)]; exact hg
theorem OwnV.below {e : TypeId} {s : Nat} {w w' : World} {lo hi B : Nat} {v : Value} {n : Nat} {xs : List Value} (h : OwnV e s w lo hi v n xs) (k : Below B w w') (hd : hi ≤ B) : OwnV e s w' lo hi v n xs := by
  refine ⟨h.1, h.2.1, ?_⟩
  rcases h.2.2 with h0 | ⟨ho, hlt⟩
  · exact .inl h0
  · refine .inr ⟨⟨ho.1, ?_⟩, hlt⟩
    rcases ho.2 with h0 | ⟨g, cap, cur, rfl, hb, hg, rest⟩
    · exact .inl h0
    · refine .inr ⟨g, cap, cur, rfl, hb, ?_, rest⟩
      have := hlt g rfl
      rw [k.block g (by omega)]; exact hg
theorem OwnV.widen {e : TypeId} {s : Nat} {w : World} {lo hi lo' hi' : Nat} {v : Value} {n : Nat} {xs : List Value} (h : OwnV e s w lo hi v n xs) (h1 : lo' ≤ lo) (h2 : hi ≤ hi') : OwnV e s w lo' hi' v n xs := by
  refine ⟨h.1, h.2.1, ?_⟩
  rcases h.2.2 with h0 | ⟨ho, hlt⟩
  · exact .inl h0
  · exact .inr ⟨own_base ho h1, fun g hg => Nat.lt_of_lt_of_le (hlt g hg) h2⟩
theorem OwnV.rd {e : TypeId} {s : Nat} {w : World} {lo hi : Nat} {v : Value} {n : Nat} {xs : List Value} (h : OwnV e s w lo hi v n xs) : ∃ A c, v = .slice A n c ∧ Rd w w.heap.size A xs := by
  obtain ⟨⟨A, c, rfl⟩, _, h0 | ⟨ho, _⟩⟩ := h
  · obtain ⟨rfl, rfl⟩ := h0; exact ⟨A, c, rfl, Rd.nil _ _ _⟩
  · exact ⟨A, c, rfl, Rd.of_own ho⟩

/-! ### Int64S -/
def R_Int64S (w : World) (B : Nat) (v : Value) (x : List Int) : Prop := ∃ A c, v = .slice A x.length c ∧ RdI w B A x
def O_Int64S (w : World) (lo hi : Nat) (v : Value) (x : List Int) : Prop := OwnV 2 1 w lo hi v x.length (x.map (Value.int .i64))
theorem R_Int64S.below {w w' : World} {B : Nat} {v : Value} {x : List Int} (h : R_Int64S w B v x) (k : Below B w w') : R_Int64S w' B v x := by
  obtain ⟨A, c, rfl, h⟩ := h; exact ⟨A, c, rfl, h.below k⟩
theorem R_Int64S.more {w : World} {B B' : Nat} {v : Value} {x : List Int} (h : R_Int64S w B v x) (k : B ≤ B') : R_Int64S w B' v x := by
  obtain ⟨A, c, rfl, h⟩ := h; exact ⟨A, c, rfl, h.more k⟩
theorem O_Int64S.r {w : World} {lo hi : Nat} {v : Value} {x : List Int} (h : O_Int64S w lo hi v x) : R_Int64S w w.heap.size v x := h.rd
theorem O_Int64S.small {w : World} {lo hi : Nat} {v : Value} {x : List Int} (h : O_Int64S w lo hi v x) : x.length ≤ 1048576 := h.2.1
theorem O_Int64S.kept {w w' : World} {lo hi lo' hi' : Nat} {v : Value} {x : List Int} (h : O_Int64S w lo hi v x) (k : Only lo' hi' w w') (hd : hi ≤ lo' ∨ hi' ≤ lo) : O_Int64S w' lo hi v x := OwnV.kept h k hd
theorem O_Int64S.below {w w' : World} {lo hi B : Nat} {v : Value} {x : List Int} (h : O_Int64S w lo hi v x) (k : Below B w w') (hd : hi ≤ B) : O_Int64S w' lo hi v x := OwnV.below h k hd
theorem O_Int64S.widen {w : World} {lo hi lo' hi' : Nat} {v : Value} {x : List Int} (h : O_Int64S w lo hi v x) (h1 : lo' ≤ lo) (h2 : hi ≤ hi') : O_Int64S w lo' hi' v x := OwnV.widen h h1 h2
theorem O_Int64S.nil (w : World) (lo hi : Nat) (A : Option Addr) (c : Nat) : O_Int64S w lo hi (.slice A 0 c) [] := OwnV.nil _ _ _ _ _ _ _
def mark_Int64S (x : List Int) (k : Int) : List Int := marks (mkI k) x.length
def cnt_Int64S (x : List Int) : Int := x.length
theorem O_Int64S.cnt {w : World} {lo hi : Nat} {v : Value} {x : List Int} (h : O_Int64S w lo hi v x) : 0 ≤ cnt_Int64S x ∧ cnt_Int64S x ≤ 4194304 := by
  have := h.small
  unfold cnt_Int64S; omega
theorem L_to_Int64S (x : List Int) (v : Value) (w : World) (hs : x.length ≤ 1048576) (h : R_Int64S w w.heap.size v x) :
    Calls Try.prog 65 #[v] w fun e w' => ∃ v', e = .returned v' ∧ O_Int64S w' w.heap.size w'.heap.size v' x ∧ Below w.heap.size w w' := by
  obtain ⟨A, c, rfl, h⟩ := h
  exact (toInt64S_any x A c w hs h).mono fun e w' ⟨A', c', he, ho, hb⟩ => ⟨_, he, OwnV.of_row ho hs, hb⟩
theorem L_eq_Int64S (x : List Int) (v1 v2 : Value) (lo1 hi1 lo2 hi2 : Nat) (w : World) (h1 : O_Int64S w lo1 hi1 v1 x) (h2 : O_Int64S w lo2 hi2 v2 x) :
    Calls Try.prog 74 #[v1, v2] w fun e w' => e = .returned (.bool true) ∧ Below w.heap.size w w' := by
  have hs := h1.small
  obtain ⟨A1, c1, rfl, r1⟩ := h1.r
  obtain ⟨A2, c2, rfl, r2⟩ := h2.r
  exact (eqInt64S_any x x A1 A2 c1 c2 w (by omega) (by omega) r1 r2).mono fun e w' ⟨he, hb⟩ => ⟨by rw [he]; simp, hb⟩
theorem L_sz_Int64S (x : List Int) (v : Value) (left : Int) (B : Nat) (w : World) (hx : x.length ≤ 9223372036854775807) (hl : 0 ≤ left) (hl2 : left ≤ 1048576) (h : R_Int64S w B v x) :
    Calls Try.prog 60 #[v, .int .i64 left] w fun e w' => e = .returned (.int .i64 (szF x.length left)) ∧ w = w' := by
  obtain ⟨A, c, rfl, h⟩ := h
  exact szInt64S_any A x.length c left w hx hl hl2
theorem L_mark_Int64S (x : List Int) (v : Value) (k : Int) (lo hi : Nat) (w : World) (hk0 : 0 ≤ k) (hk1 : k ≤ 1099511627776) (h : O_Int64S w lo hi v x) :
    Calls Try.prog 76 #[v, .int .i64 k] w fun e w' => e = .returned (.int .i64 (k + cnt_Int64S x)) ∧ O_Int64S w' lo hi v (mark_Int64S x k) ∧ Only lo hi w w' := by
  have hs := h.small
  obtain ⟨⟨A, c, rfl⟩, _, ⟨hn, hx⟩ | ⟨ho, hlt⟩⟩ := h
  · have hx0 : x = [] := List.eq_nil_of_length_eq_zero hn
    subst hx0
    have hnil : w.ownsRow 0 2 1 (.slice none 0 0) 0 [] := World.ownsRow_nil _ _ _ _
    refine (markInt64S_nil A c k w hk0 hk1).mono fun e w' ⟨he, hw⟩ => ?_
    subst hw
    exact ⟨by rw [he]; simp [cnt_Int64S], OwnV.nil _ _ _ _ _ _ _, only_of_below (Below.refl _ _)⟩
  · refine (markInt64S_any lo x A c k w hs hk0 hk1 ho).mono fun e w' ⟨he, ho', hg⟩ => ⟨by rw [he]; simp [cnt_Int64S], ?_, only_row hg fun g hg' => ⟨(ho.lt g hg').1, hlt g hg'⟩⟩
    unfold O_Int64S mark_Int64S
    rw [marks_len]
    exact ⟨⟨A, c, rfl⟩, hs, .inr ⟨ho', hlt⟩⟩
theorem L_held_Int64S (x : List Int) (v : Value) (k : Int) (lo hi : Nat) (w : World) (hk0 : 0 ≤ k) (hk1 : k ≤ 1099511627776) (h : O_Int64S w lo hi v (mark_Int64S x k)) :
    Calls Try.prog 78 #[v, .int .i64 k] w fun e w' => e = .returned (.int .i64 (k + cnt_Int64S x)) ∧ Below w.heap.size w w' := by
  have hs := h.small
  obtain ⟨A, c, rfl, r⟩ := h.r
  unfold mark_Int64S at *
  rw [marks_len] at *
  exact (heldInt64S_any x.length A c k w hs hk0 hk1 r).mono fun e w' ⟨he, hb⟩ => ⟨by rw [he]; simp [cnt_Int64S], hb⟩



/-! ### TubeS -/
def R_TubeS (w : World) (B : Nat) (v : Value) (x : List T3) : Prop := ∃ A c, v = .slice A x.length c ∧ Rd3 w B A x
def O_TubeS (w : World) (lo hi : Nat) (v : Value) (x : List T3) : Prop := OwnV 111 3 w lo hi v x.length (x.flatMap T3.cells)
theorem R_TubeS.below {w w' : World} {B : Nat} {v : Value} {x : List T3} (h : R_TubeS w B v x) (k : Below B w w') : R_TubeS w' B v x := by
  obtain ⟨A, c, rfl, h⟩ := h; exact ⟨A, c, rfl, h.below k⟩
theorem R_TubeS.more {w : World} {B B' : Nat} {v : Value} {x : List T3} (h : R_TubeS w B v x) (k : B ≤ B') : R_TubeS w B' v x := by
  obtain ⟨A, c, rfl, h⟩ := h; exact ⟨A, c, rfl, h.more k⟩
theorem O_TubeS.r {w : World} {lo hi : Nat} {v : Value} {x : List T3} (h : O_TubeS w lo hi v x) : R_TubeS w w.heap.size v x := h.rd
theorem O_TubeS.small {w : World} {lo hi : Nat} {v : Value} {x : List T3} (h : O_TubeS w lo hi v x) : x.length ≤ 1048576 := h.2.1
theorem O_TubeS.kept {w w' : World} {lo hi lo' hi' : Nat} {v : Value} {x : List T3} (h : O_TubeS w lo hi v x) (k : Only lo' hi' w w') (hd : hi ≤ lo' ∨ hi' ≤ lo) : O_TubeS w' lo hi v x := OwnV.kept h k hd
theorem O_TubeS.below {w w' : World} {lo hi B : Nat} {v : Value} {x : List T3} (h : O_TubeS w lo hi v x) (k : Below B w w') (hd : hi ≤ B) : O_TubeS w' lo hi v x := OwnV.below h k hd
theorem O_TubeS.widen {w : World} {lo hi lo' hi' : Nat} {v : Value} {x : List T3} (h : O_TubeS w lo hi v x) (h1 : lo' ≤ lo) (h2 : hi ≤ hi') : O_TubeS w lo' hi' v x := OwnV.widen h h1 h2
theorem O_TubeS.nil (w : World) (lo hi : Nat) (A : Option Addr) (c : Nat) : O_TubeS w lo hi (.slice A 0 c) [] := OwnV.nil _ _ _ _ _ _ _
def mark_TubeS (x : List T3) (k : Int) : List T3 := marks (mk3 k) x.length
def cnt_TubeS (x : List T3) : Int := 3 * x.length
theorem O_TubeS.cnt {w : World} {lo hi : Nat} {v : Value} {x : List T3} (h : O_TubeS w lo hi v x) : 0 ≤ cnt_TubeS x ∧ cnt_TubeS x ≤ 4194304 := by
  have := h.small
  unfold cnt_TubeS; omega

/-! ### ChangeS -/
def R_ChangeS (w : World) (B : Nat) (v : Value) (x : List T3) : Prop := ∃ A c, v = .slice A x.length c ∧ Rd3 w B A x
def O_ChangeS (w : World) (lo hi : Nat) (v : Value) (x : List T3) : Prop := OwnV 35 3 w lo hi v x.length (x.flatMap T3.cells)
theorem R_ChangeS.below {w w' : World} {B : Nat} {v : Value} {x : List T3} (h : R_ChangeS w B v x) (k : Below B w w') : R_ChangeS w' B v x := by
  obtain ⟨A, c, rfl, h⟩ := h; exact ⟨A, c, rfl, h.below k⟩
theorem R_ChangeS.more {w : World} {B B' : Nat} {v : Value} {x : List T3} (h : R_ChangeS w B v x) (k : B ≤ B') : R_ChangeS w B' v x := by
  obtain ⟨A, c, rfl, h⟩ := h; exact ⟨A, c, rfl, h.more k⟩
theorem O_ChangeS.r {w : World} {lo hi : Nat} {v : Value} {x : List T3} (h : O_ChangeS w lo hi v x) : R_ChangeS w w.heap.size v x := h.rd
theorem O_ChangeS.small {w : World} {lo hi : Nat} {v : Value} {x : List T3} (h : O_ChangeS w lo hi v x) : x.length ≤ 1048576 := h.2.1
theorem O_ChangeS.kept {w w' : World} {lo hi lo' hi' : Nat} {v : Value} {x : List T3} (h : O_ChangeS w lo hi v x) (k : Only lo' hi' w w') (hd : hi ≤ lo' ∨ hi' ≤ lo) : O_ChangeS w' lo hi v x := OwnV.kept h k hd
theorem O_ChangeS.below {w w' : World} {lo hi B : Nat} {v : Value} {x : List T3} (h : O_ChangeS w lo hi v x) (k : Below B w w') (hd : hi ≤ B) : O_ChangeS w' lo hi v x := OwnV.below h k hd
theorem O_ChangeS.widen {w : World} {lo hi lo' hi' : Nat} {v : Value} {x : List T3} (h : O_ChangeS w lo hi v x) (h1 : lo' ≤ lo) (h2 : hi ≤ hi') : O_ChangeS w lo' hi' v x := OwnV.widen h h1 h2
theorem O_ChangeS.nil (w : World) (lo hi : Nat) (A : Option Addr) (c : Nat) : O_ChangeS w lo hi (.slice A 0 c) [] := OwnV.nil _ _ _ _ _ _ _
def mark_ChangeS (x : List T3) (k : Int) : List T3 := marks (mk3 k) x.length
def cnt_ChangeS (x : List T3) : Int := 3 * x.length
theorem O_ChangeS.cnt {w : World} {lo hi : Nat} {v : Value} {x : List T3} (h : O_ChangeS w lo hi v x) : 0 ≤ cnt_ChangeS x ∧ cnt_ChangeS x ≤ 4194304 := by
  have := h.small
  unfold cnt_ChangeS; omega
theorem L_to_ChangeS (x : List T3) (v : Value) (w : World) (hs : x.length ≤ 1048576) (h : R_ChangeS w w.heap.size v x) :
    Calls Try.prog 66 #[v] w fun e w' => ∃ v', e = .returned v' ∧ O_ChangeS w' w.heap.size w'.heap.size v' x ∧ Below w.heap.size w w' := by
  obtain ⟨A, c, rfl, h⟩ := h
  exact (toChangeS_any x A c w hs h).mono fun e w' ⟨A', c', he, ho, hb⟩ => ⟨_, he, OwnV.of_row ho hs, hb⟩
theorem L_eq_ChangeS (x : List T3) (v1 v2 : Value) (lo1 hi1 lo2 hi2 : Nat) (w : World) (h1 : O_ChangeS w lo1 hi1 v1 x) (h2 : O_ChangeS w lo2 hi2 v2 x) :
    Calls Try.prog 75 #[v1, v2] w fun e w' => e = .returned (.bool true) ∧ Below w.heap.size w w' := by
  have hs := h1.small
  obtain ⟨A1, c1, rfl, r1⟩ := h1.r
  obtain ⟨A2, c2, rfl, r2⟩ := h2.r
  exact (eqChangeS_any x x A1 A2 c1 c2 w (by omega) (by omega) r1 r2).mono fun e w' ⟨he, hb⟩ => ⟨by rw [he]; simp, hb⟩
theorem L_sz_ChangeS (x : List T3) (v : Value) (left : Int) (B : Nat) (w : World) (hx : x.length ≤ 9223372036854775807) (hl : 0 ≤ left) (hl2 : left ≤ 1048576) (h : R_ChangeS w B v x) :
    Calls Try.prog 61 #[v, .int .i64 left] w fun e w' => e = .returned (.int .i64 (szF x.length left)) ∧ w = w' := by
  obtain ⟨A, c, rfl, h⟩ := h
  exact szChangeS_any A x.length c left w hx hl hl2
theorem L_mark_ChangeS (x : List T3) (v : Value) (k : Int) (lo hi : Nat) (w : World) (hk0 : 0 ≤ k) (hk1 : k ≤ 1099511627776) (h : O_ChangeS w lo hi v x) :
    Calls Try.prog 77 #[v, .int .i64 k] w fun e w' => e = .returned (.int .i64 (k + cnt_ChangeS x)) ∧ O_ChangeS w' lo hi v (mark_ChangeS x k) ∧ Only lo hi w w' := by
  have hs := h.small
  obtain ⟨⟨A, c, rfl⟩, _, ⟨hn, hx⟩ | ⟨ho, hlt⟩⟩ := h
  · have hx0 : x = [] := List.eq_nil_of_length_eq_zero hn
    subst hx0
    have hnil : w.ownsRow 0 35 3 (.slice none 0 0) 0 [] := World.ownsRow_nil _ _ _ _
    refine (markChangeS_nil A c k w hk0 hk1).mono fun e w' ⟨he, hw⟩ => ?_
    subst hw
    exact ⟨by rw [he]; simp [cnt_ChangeS], OwnV.nil _ _ _ _ _ _ _, only_of_below (Below.refl _ _)⟩
  · refine (markChangeS_any lo x A c k w hs hk0 hk1 ho).mono fun e w' ⟨he, ho', hg⟩ => ⟨by rw [he]; simp [cnt_ChangeS], ?_, only_row hg fun g hg' => ⟨(ho.lt g hg').1, hlt g hg'⟩⟩
    unfold O_ChangeS mark_ChangeS
    rw [marks_len]
    exact ⟨⟨A, c, rfl⟩, hs, .inr ⟨ho', hlt⟩⟩
theorem L_held_ChangeS (x : List T3) (v : Value) (k : Int) (lo hi : Nat) (w : World) (hk0 : 0 ≤ k) (hk1 : k ≤ 1099511627776) (h : O_ChangeS w lo hi v (mark_ChangeS x k)) :
    Calls Try.prog 79 #[v, .int .i64 k] w fun e w' => e = .returned (.int .i64 (k + cnt_ChangeS x)) ∧ Below w.heap.size w w' := by
  have hs := h.small
  obtain ⟨A, c, rfl, r⟩ := h.r
  unfold mark_ChangeS at *
  rw [marks_len] at *
  exact (heldChangeS_any x.length A c k w hs hk0 hk1 r).mono fun e w' ⟨he, hb⟩ => ⟨by rw [he]; simp [cnt_ChangeS], hb⟩


/-! ### RideS -/
def R_RideS (w : World) (B : Nat) (v : Value) (x : List T4) : Prop := ∃ A c, v = .slice A x.length c ∧ Rd4 w B A x
def O_RideS (w : World) (lo hi : Nat) (v : Value) (x : List T4) : Prop := OwnV 83 4 w lo hi v x.length (x.flatMap T4.cells)
theorem R_RideS.below {w w' : World} {B : Nat} {v : Value} {x : List T4} (h : R_RideS w B v x) (k : Below B w w') : R_RideS w' B v x := by
  obtain ⟨A, c, rfl, h⟩ := h; exact ⟨A, c, rfl, h.below k⟩
theorem R_RideS.more {w : World} {B B' : Nat} {v : Value} {x : List T4} (h : R_RideS w B v x) (k : B ≤ B') : R_RideS w B' v x := by
  obtain ⟨A, c, rfl, h⟩ := h; exact ⟨A, c, rfl, h.more k⟩
theorem O_RideS.r {w : World} {lo hi : Nat} {v : Value} {x : List T4} (h : O_RideS w lo hi v x) : R_RideS w w.heap.size v x := h.rd
theorem O_RideS.small {w : World} {lo hi : Nat} {v : Value} {x : List T4} (h : O_RideS w lo hi v x) : x.length ≤ 1048576 := h.2.1
theorem O_RideS.kept {w w' : World} {lo hi lo' hi' : Nat} {v : Value} {x : List T4} (h : O_RideS w lo hi v x) (k : Only lo' hi' w w') (hd : hi ≤ lo' ∨ hi' ≤ lo) : O_RideS w' lo hi v x := OwnV.kept h k hd
theorem O_RideS.below {w w' : World} {lo hi B : Nat} {v : Value} {x : List T4} (h : O_RideS w lo hi v x) (k : Below B w w') (hd : hi ≤ B) : O_RideS w' lo hi v x := OwnV.below h k hd
theorem O_RideS.widen {w : World} {lo hi lo' hi' : Nat} {v : Value} {x : List T4} (h : O_RideS w lo hi v x) (h1 : lo' ≤ lo) (h2 : hi ≤ hi') : O_RideS w lo' hi' v x := OwnV.widen h h1 h2
theorem O_RideS.nil (w : World) (lo hi : Nat) (A : Option Addr) (c : Nat) : O_RideS w lo hi (.slice A 0 c) [] := OwnV.nil _ _ _ _ _ _ _
def mark_RideS (x : List T4) (k : Int) : List T4 := marks (mk4 k) x.length
def cnt_RideS (x : List T4) : Int := 4 * x.length
theorem O_RideS.cnt {w : World} {lo hi : Nat} {v : Value} {x : List T4} (h : O_RideS w lo hi v x) : 0 ≤ cnt_RideS x ∧ cnt_RideS x ≤ 4194304 := by
  have := h.small
  unfold cnt_RideS; omega
end Go.Proofs.Ytlkccijlbeibjaa
namespace Go.Proofs.Ytlkccijlbeibjaa
open Go.RowKit

structure TZ where
  z : Int
  of : List Int
  ch : List T3
def TZ.Fits (x : TZ) : Prop := (-9223372036854775808 ≤ x.z ∧ x.z ≤ 9223372036854775807) ∧ (∀ z ∈ x.of, -9223372036854775808 ≤ z ∧ z ≤ 9223372036854775807) ∧ (∀ z ∈ x.ch, z.Fits)
def Fit_Zoned (x : TZ) : Prop := x.Fits
def size_Zoned (x : TZ) : Nat := x.of.length + x.ch.length
def Small_Zoned (x : TZ) : Prop := x.of.length ≤ 1048576 ∧ x.ch.length ≤ 1048576
def Len_Zoned (x : TZ) : Prop := x.of.length ≤ 9223372036854775807 ∧ x.ch.length ≤ 9223372036854775807
theorem small_Zoned {x : TZ} (h : (size_Zoned x : Int) ≤ 1048576) : Small_Zoned x := by unfold size_Zoned at h; exact ⟨by omega, by omega⟩
def R_Zoned (w : World) (B : Nat) (v : Value) (x : TZ) : Prop := ∃ A c A2 c2, v = .agg #[.int .i64 x.z, .slice A x.of.length c, .slice A2 x.ch.length c2] ∧ RdI w B A x.of ∧ Rd3 w B A2 x.ch
def O_Zoned (w : World) (lo hi : Nat) (v : Value) (x : TZ) : Prop := ∃ a b m, v = .agg #[.int .i64 x.z, a, b] ∧ lo ≤ m ∧ m ≤ hi ∧ O_Int64S w lo m a x.of ∧ O_ChangeS w m hi b x.ch
theorem R_Zoned.below {w w' : World} {B : Nat} {v : Value} {x : TZ} (h : R_Zoned w B v x) (k : Below B w w') : R_Zoned w' B v x := by
  obtain ⟨A, c, A2, c2, rfl, h1, h2⟩ := h; exact ⟨A, c, A2, c2, rfl, h1.below k, h2.below k⟩
theorem R_Zoned.more {w : World} {B B' : Nat} {v : Value} {x : TZ} (h : R_Zoned w B v x) (k : B ≤ B') : R_Zoned w B' v x := by
  obtain ⟨A, c, A2, c2, rfl, h1, h2⟩ := h; exact ⟨A, c, A2, c2, rfl, h1.more k, h2.more k⟩
theorem O_Zoned.r {w : World} {lo hi : Nat} {v : Value} {x : TZ} (h : O_Zoned w lo hi v x) : R_Zoned w w.heap.size v x := by
  obtain ⟨a, b, m, rfl, _, _, h1, h2⟩ := h
  obtain ⟨A, c, rfl, r1⟩ := h1.r
  obtain ⟨A2, c2, rfl, r2⟩ := h2.r
  exact ⟨A, c, A2, c2, rfl, r1, r2⟩
theorem O_Zoned.small {w : World} {lo hi : Nat} {v : Value} {x : TZ} (h : O_Zoned w lo hi v x) : Small_Zoned x := by
  obtain ⟨a, b, m, rfl, _, _, h1, h2⟩ := h
  exact ⟨h1.small, h2.small⟩
theorem O_Zoned.kept {w w' : World} {lo hi lo' hi' : Nat} {v : Value} {x : TZ} (h : O_Zoned w lo hi v x) (k : Only lo' hi' w w') (hd : hi ≤ lo' ∨ hi' ≤ lo) : O_Zoned w' lo hi v x := by
  obtain ⟨a, b, m, rfl, l1, l2, h1, h2⟩ := h
  exact ⟨a, b, m, rfl, l1, l2, h1.kept k (by omega), h2.kept k (by omega)⟩
theorem O_Zoned.below {w w' : World} {lo hi B : Nat} {v : Value} {x : TZ} (h : O_Zoned w lo hi v x) (k : Below B w w') (hd : hi ≤ B) : O_Zoned w' lo hi v x := by
  obtain ⟨a, b, m, rfl, l1, l2, h1, h2⟩ := h
  exact ⟨a, b, m, rfl, l1, l2, h1.below k (by omega), h2.below k (by omega)⟩
theorem O_Zoned.widen {w : World} {lo hi lo' hi' : Nat} {v : Value} {x : TZ} (h : O_Zoned w lo hi v x) (h1 : lo' ≤ lo) (h2 : hi ≤ hi') : O_Zoned w lo' hi' v x := by
  obtain ⟨a, b, m, rfl, l1, l2, k1, k2⟩ := h
  exact ⟨a, b, m, rfl, by omega, by omega, k1.widen h1 (by omega), k2.widen (by omega) h2⟩
theorem O_Zoned.nil (w : World) (lo hi : Nat) (hl : lo ≤ hi) (A : Option Addr) (c : Nat) (A2 : Option Addr) (c2 : Nat) : O_Zoned w lo hi (.agg #[.int .i64 0, .slice A 0 c, .slice A2 0 c2]) ⟨0, [], []⟩ :=
  ⟨_, _, lo, rfl, Nat.le_refl _, hl, O_Int64S.nil _ _ _ _ _, O_ChangeS.nil _ _ _ _ _⟩
def mark_Zoned (x : TZ) (k : Int) : TZ := ⟨x.z, mark_Int64S x.of k, mark_ChangeS x.ch (k + cnt_Int64S x.of)⟩
def cnt_Zoned (x : TZ) : Int := cnt_Int64S x.of + cnt_ChangeS x.ch
theorem O_Zoned.cnt {w : World} {lo hi : Nat} {v : Value} {x : TZ} (h : O_Zoned w lo hi v x) : 0 ≤ cnt_Zoned x ∧ cnt_Zoned x ≤ 8388608 := by
  have := h.small
  unfold cnt_Zoned cnt_Int64S cnt_ChangeS; unfold Small_Zoned at this; omega
/-- A block with these cells, none of them frozen. -/
def BoxAt (w : World) (b : Nat) (cs : Array Value) (e : TypeId) : Prop := w.heap[b]? = some (.cells cs e (0, 0))
theorem BoxAt.new (w : World) (cs : Array Value) (e : TypeId) : BoxAt (w.alloc (.cells cs e)) w.heap.size cs e := heap_alloc_new w _
theorem BoxAt.lt {w : World} {b : Nat} {cs : Array Value} {e : TypeId} (h : BoxAt w b cs e) : b < w.heap.size := lt_of_block h
theorem BoxAt.alloc {w : World} {b : Nat} {cs : Array Value} {e : TypeId} (h : BoxAt w b cs e) (o : Obj) : BoxAt (w.alloc o) b cs e := by
  have := h.lt
  unfold BoxAt at *
  rw [heap_alloc_old _ _ this]; exact h
theorem BoxAt.below {w w' : World} {b B : Nat} {cs : Array Value} {e : TypeId} (h : BoxAt w b cs e) (k : Below B w w') (hb : b < B) : BoxAt w' b cs e := (k.block b hb).trans h
theorem BoxAt.cell {w : World} {b : Nat} {cs : Array Value} {e : TypeId} (h : BoxAt w b cs e) (j : Nat) : w.cell? ⟨b, j, none⟩ = cs.toList[j]? := by
  rw [cell_of_row w b j cs e (0, 0) h]; simp
theorem BoxAt.fro {w : World} {b : Nat} {cs : Array Value} {e : TypeId} (h : BoxAt w b cs e) (j : Nat) : w.frozen? ⟨b, j, none⟩ = false := frozen_of_row w b j cs e h
theorem BoxAt.set {w : World} {b : Nat} {cs : Array Value} {e : TypeId} (h : BoxAt w b cs e) (j : Nat) (v : Value) : BoxAt (w.setCell ⟨b, j, none⟩ v) b (cs.setIfInBounds j v) e := by
  unfold BoxAt at *
  simp [World.setCell, Array.getElem?_modify, h]
theorem BoxAt.other {w : World} {b b' : Nat} {cs : Array Value} {e : TypeId} (h : BoxAt w b cs e) (hne : b' ≠ b) (j : Nat) (v : Value) : BoxAt (w.setCell ⟨b', j, none⟩ v) b cs e := by
  unfold BoxAt at *
  rw [heap_setCell_other _ ⟨b', j, none⟩ _ v (Ne.symm hne)]; exact h
theorem Only.cell {lo hi : Nat} {w w' : World} (h : Only lo hi w w') {p : Addr} (h1 : p.block < w.heap.size) (h2 : p.block < lo ∨ hi ≤ p.block) : w'.cell? p = w.cell? p := by
  have := h.2.2.2.2 p.block h1 h2
  unfold World.cell?
  rw [this]
theorem only_set {w : World} {b j lo hi : Nat} {v : Value} (h1 : lo ≤ b) (h2 : b < hi) : Only lo hi w (w.setCell ⟨b, j, none⟩ v) :=
  ⟨rfl, rfl, rfl, by simp, fun k _ ho => heap_setCell_other w ⟨b, j, none⟩ _ v (by simp; omega)⟩
set_option maxRecDepth 100000 in
set_option maxHeartbeats 4000000 in
theorem L_to_Zoned (x : TZ) (v : Value) (w : World) (hs : Small_Zoned x) (h : R_Zoned w w.heap.size v x) :
    Calls Try.prog 9 #[v] w fun e w' => ∃ v', e = .returned v' ∧ O_Zoned w' w.heap.size w'.heap.size v' x ∧ Below w.heap.size w w' := by
  obtain ⟨A, c, A2, c2, rfl, h1, h2⟩ := h
  have H1 := hide fun W (hW : Below w.heap.size w W) => L_to_Int64S x.of (.slice A x.of.length c) W hs.1 ⟨A, c, rfl, (h1.below hW).more hW.size⟩
  have H2 := hide fun W (hW : Below w.heap.size w W) => L_to_ChangeS x.ch (.slice A2 x.ch.length c2) W hs.2 ⟨A2, c2, rfl, (h2.below hW).more hW.size⟩
  clear h1 h2
  go_enter Try.func9, Try.ntmps9
  go_wp2_with fail
  have b0 : Below w.heap.size w (((w.alloc (.cells #[.int .i64 x.z, .slice A x.of.length c, .slice A2 x.ch.length c2] 25)).alloc (.cells #[.int .i64 0, .slice none 0 0, .slice none 0 0] 31)).alloc (.cells #[.int .i64 x.z, .slice none 0 0, .slice none 0 0] 31)) := (by repeat (first | exact Below.refl _ _ | assumption | (refine Below.alloc ?_ (by simp <;> omega) _) | refine Below.drew ?_ | refine bdn ?_ _))
  have x1 : BoxAt (((w.alloc (.cells #[.int .i64 x.z, .slice A x.of.length c, .slice A2 x.ch.length c2] 25)).alloc (.cells #[.int .i64 0, .slice none 0 0, .slice none 0 0] 31)).alloc (.cells #[.int .i64 x.z, .slice none 0 0, .slice none 0 0] 31)) w.heap.size #[.int .i64 x.z, .slice A x.of.length c, .slice A2 x.ch.length c2] 25 := ((BoxAt.new w _ _).alloc _).alloc _
  have x2 : BoxAt (((w.alloc (.cells #[.int .i64 x.z, .slice A x.of.length c, .slice A2 x.ch.length c2] 25)).alloc (.cells #[.int .i64 0, .slice none 0 0, .slice none 0 0] 31)).alloc (.cells #[.int .i64 x.z, .slice none 0 0, .slice none 0 0] 31)) (w.heap.size + 1) #[.int .i64 0, .slice none 0 0, .slice none 0 0] 31 := by have := (BoxAt.new (w.alloc (.cells #[.int .i64 x.z, .slice A x.of.length c, .slice A2 x.ch.length c2] 25)) #[.int .i64 0, .slice none 0 0, .slice none 0 0] 31).alloc (.cells #[.int .i64 x.z, .slice none 0 0, .slice none 0 0] 31); simpa using this
  have x3 : BoxAt (((w.alloc (.cells #[.int .i64 x.z, .slice A x.of.length c, .slice A2 x.ch.length c2] 25)).alloc (.cells #[.int .i64 0, .slice none 0 0, .slice none 0 0] 31)).alloc (.cells #[.int .i64 x.z, .slice none 0 0, .slice none 0 0] 31)) (w.heap.size + 1 + 1) #[.int .i64 x.z, .slice none 0 0, .slice none 0 0] 31 := by have := (BoxAt.new ((w.alloc (.cells #[.int .i64 x.z, .slice A x.of.length c, .slice A2 x.ch.length c2] 25)).alloc (.cells #[.int .i64 0, .slice none 0 0, .slice none 0 0] 31)) #[.int .i64 x.z, .slice none 0 0, .slice none 0 0] 31); simpa using this
  have z0 : w.heap.size + 3 ≤ (((w.alloc (.cells #[.int .i64 x.z, .slice A x.of.length c, .slice A2 x.ch.length c2] 25)).alloc (.cells #[.int .i64 0, .slice none 0 0, .slice none 0 0] 31)).alloc (.cells #[.int .i64 x.z, .slice none 0 0, .slice none 0 0] 31)).heap.size := by simp
  generalize (((w.alloc (.cells #[.int .i64 x.z, .slice A x.of.length c, .slice A2 x.ch.length c2] 25)).alloc (.cells #[.int .i64 0, .slice none 0 0, .slice none 0 0] 31)).alloc (.cells #[.int .i64 x.z, .slice none 0 0, .slice none 0 0] 31)) = w0 at *
  refine (H1.out _ b0).mono ?_
  rintro e w1 ⟨v1, rfl, o1, s1⟩
  have z1 := s1.size
  have sh1 := o1.1
  obtain ⟨A3, c3, rfl⟩ := sh1
  have y1 := x1.below s1 (by omega)
  have y2 := x2.below s1 (by omega)
  have y3 := x3.below s1 (by omega)
  have b1 := b0.trans (s1.mono b0.size)
  clear x1 x2 x3 s1
  have k1 := y3.cell 1
  have k2 := y3.fro 1
  have u3 := y3.set 1 (.slice A3 x.of.length c3)
  have u1 := y1.other (show w.heap.size + 1 + 1 ≠ w.heap.size by omega) 1 (.slice A3 x.of.length c3)
  have u2 := y2.other (show w.heap.size + 1 + 1 ≠ w.heap.size + 1 by omega) 1 (.slice A3 x.of.length c3)
  have k3 := u1.cell 2
  have bb : Below w.heap.size w (w1.setCell ⟨w.heap.size + 1 + 1, 1, none⟩ (.slice A3 x.of.length c3)) := b1.setCell (by simp; omega) _
  simp only [Array.toList_setIfInBounds, List.set_cons_succ, List.set_cons_zero, List.getElem?_cons_succ, List.getElem?_cons_zero] at k1 k3
  clear y1 y2 y3
  go_wp2_with fail
  have z2 : (w1.setCell ⟨w.heap.size + 1 + 1, 1, none⟩ (.slice A3 x.of.length c3)).heap.size = w1.heap.size := by simp
  have q1 := o1.kept (only_set (w := w1) (b := w.heap.size + 1 + 1) (j := 1) (v := .slice A3 x.of.length c3) (lo := w.heap.size) (hi := w.heap.size + 3) (by omega) (by omega)) (.inr z0)
  clear o1 k1 k2 k3
  refine (H2.out _ bb).mono ?_
  rintro e w2 ⟨v2, rfl, o2, s2⟩
  have z3 := s2.size
  have sh2 := o2.1
  obtain ⟨A4, c4, rfl⟩ := sh2
  rw [z2] at o2 s2 z3
  have y1 := u1.below s2 (by omega)
  have y2 := u2.below s2 (by omega)
  have y3 := u3.below s2 (by omega)
  have p1 := q1.below s2 (Nat.le_refl _)
  have b2 := bb.trans (s2.mono (by omega))
  clear q1 u1 u2 u3 s2
  have k1 := y3.cell 2
  have k2 := y3.fro 2
  have u3 := y3.set 2 (.slice A4 x.ch.length c4)
  have u2 := y2.other (show w.heap.size + 1 + 1 ≠ w.heap.size + 1 by omega) 2 (.slice A4 x.ch.length c4)
  have i0 := u3.cell 0
  have i1 := u3.cell 1
  have i2 := u3.cell 2
  have j0 := u2.cell 0
  have j1 := u2.cell 1
  have j2 := u2.cell 2
  have l0 := u2.fro 0
  have l1 := u2.fro 1
  have l2 := u2.fro 2
  simp only [Array.toList_setIfInBounds, List.set_cons_succ, List.set_cons_zero, List.getElem?_cons_succ, List.getElem?_cons_zero] at k1 i0 i1 i2 j0 j1 j2
  clear y1 y2 y3
  go_wp2_with fail
  have f3 := ((u2.set 0 (.int .i64 x.z)).set 1 (.slice A3 x.of.length c3)).set 2 (.slice A4 x.ch.length c4)
  have t0 := f3.cell 0
  have t1 := f3.cell 1
  have t2 := f3.cell 2
  simp only [Array.toList_setIfInBounds, List.set_cons_succ, List.set_cons_zero, List.getElem?_cons_succ, List.getElem?_cons_zero] at t0 t1 t2
  refine bodyPost_ret (v := .agg #[.int .i64 x.z, .slice A3 x.of.length c3, .slice A4 x.ch.length c4]) (by simp [results, Try.results9, go_sem, t0, t1, t2]) rfl ⟨_, rfl, ?_, ?_⟩
  · have K := only_trans (only_trans (only_trans (only_set (w := w2) (b := w.heap.size + 1 + 1) (j := 2) (v := .slice A4 x.ch.length c4) (lo := w.heap.size) (hi := w.heap.size + 3) (by omega) (by omega)) (only_set (b := w.heap.size + 1) (j := 0) (v := .int .i64 x.z) (by omega) (by omega))) (only_set (b := w.heap.size + 1) (j := 1) (v := .slice A3 x.of.length c3) (by omega) (by omega))) (only_set (b := w.heap.size + 1) (j := 2) (v := .slice A4 x.ch.length c4) (by omega) (by omega))
    exact ⟨_, _, w1.heap.size, rfl, by omega, by simp; omega, (p1.kept K (.inr z0)).widen (by omega) (Nat.le_refl _), (o2.kept K (.inr (by omega))).widen (Nat.le_refl _) (by simp)⟩
  · exact (((b2.setCell (by simp; omega) _).setCell (by simp) _).setCell (by simp) _).setCell (by simp) _
set_option maxRecDepth 100000 in
set_option maxHeartbeats 4000000 in
theorem L_eq_Zoned (x : TZ) (v1 v2 : Value) (lo1 hi1 lo2 hi2 : Nat) (w : World) (h1 : O_Zoned w lo1 hi1 v1 x) (h2 : O_Zoned w lo2 hi2 v2 x) :
    Calls Try.prog 12 #[v1, v2] w fun e w' => e = .returned (.bool true) ∧ Below w.heap.size w w' := by
  obtain ⟨a1, b1, m1, rfl, l1, l2, p1, p2⟩ := h1
  obtain ⟨a2, b2, m2, rfl, l3, l4, q1, q2⟩ := h2
  obtain ⟨A, c, rfl, pr1⟩ := p1.r
  obtain ⟨A2, c2, rfl, pr2⟩ := p2.r
  obtain ⟨A3, c3, rfl, qr1⟩ := q1.r
  obtain ⟨A4, c4, rfl, qr2⟩ := q2.r
  have n1 := p1.small
  have n2 := p2.small
  have H1 := hide fun W (hW : Below w.heap.size w W) => eqInt64S_any x.of x.of A A3 c c3 W (by omega) (by omega) ((pr1.below hW).more hW.size) ((qr1.below hW).more hW.size)
  have H2 := hide fun W (hW : Below w.heap.size w W) => eqChangeS_any x.ch x.ch A2 A4 c2 c4 W (by omega) (by omega) ((pr2.below hW).more hW.size) ((qr2.below hW).more hW.size)
  clear p1 p2 q1 q2 pr1 pr2 qr1 qr2 l1 l2 l3 l4 n1 n2
  go_enter Try.func12, Try.ntmps12
  have b0 : Below w.heap.size w ((w.alloc (.cells #[.int .i64 x.z, .slice A x.of.length c, .slice A2 x.ch.length c2] 31)).alloc (.cells #[.int .i64 x.z, .slice A3 x.of.length c3, .slice A4 x.ch.length c4] 31)) := (by repeat (first | exact Below.refl _ _ | assumption | (refine Below.alloc ?_ (by simp <;> omega) _) | refine Below.drew ?_ | refine bdn ?_ _))
  have x1 : BoxAt ((w.alloc (.cells #[.int .i64 x.z, .slice A x.of.length c, .slice A2 x.ch.length c2] 31)).alloc (.cells #[.int .i64 x.z, .slice A3 x.of.length c3, .slice A4 x.ch.length c4] 31)) w.heap.size #[.int .i64 x.z, .slice A x.of.length c, .slice A2 x.ch.length c2] 31 := (BoxAt.new w _ _).alloc _
  have x2 : BoxAt ((w.alloc (.cells #[.int .i64 x.z, .slice A x.of.length c, .slice A2 x.ch.length c2] 31)).alloc (.cells #[.int .i64 x.z, .slice A3 x.of.length c3, .slice A4 x.ch.length c4] 31)) (w.heap.size + 1) #[.int .i64 x.z, .slice A3 x.of.length c3, .slice A4 x.ch.length c4] 31 := by have := BoxAt.new (w.alloc (.cells #[.int .i64 x.z, .slice A x.of.length c, .slice A2 x.ch.length c2] 31)) #[.int .i64 x.z, .slice A3 x.of.length c3, .slice A4 x.ch.length c4] 31; simpa using this
  have z0 : w.heap.size + 2 ≤ ((w.alloc (.cells #[.int .i64 x.z, .slice A x.of.length c, .slice A2 x.ch.length c2] 31)).alloc (.cells #[.int .i64 x.z, .slice A3 x.of.length c3, .slice A4 x.ch.length c4] 31)).heap.size := by simp
  go_wp2_with fail
  generalize ((w.alloc (.cells #[.int .i64 x.z, .slice A x.of.length c, .slice A2 x.ch.length c2] 31)).alloc (.cells #[.int .i64 x.z, .slice A3 x.of.length c3, .slice A4 x.ch.length c4] 31)) = w0 at *
  refine (H1.out _ b0).mono ?_
  rintro e w1 ⟨rfl, s1⟩
  have y1 := x1.below s1 (by omega)
  have y2 := x2.below s1 (by omega)
  have bb := b0.trans (s1.mono b0.size)
  have k1 := y1.cell 2
  have k2 := y2.cell 2
  have k3 := decide_eq_true (rfl : x.of = x.of)
  have k4 := decide_eq_true (rfl : x.ch = x.ch)
  simp only [List.getElem?_cons_succ, List.getElem?_cons_zero] at k1 k2
  clear x1 x2 y1 y2 s1
  go_wp2_with fail
  refine (H2.out _ bb).mono ?_
  rintro e w2 ⟨rfl, s2⟩
  go_wp2_with fail
  go_ret
  exact ⟨rfl, bb.trans (s2.mono bb.size)⟩
set_option maxRecDepth 100000 in
set_option maxHeartbeats 4000000 in
theorem L_sz_Zoned (x : TZ) (v : Value) (left : Int) (B : Nat) (w : World) (hx : Len_Zoned x) (hl : 0 ≤ left) (hl2 : left ≤ 1048576) (h : R_Zoned w B v x) :
    Calls Try.prog 7 #[v, .int .i64 left] w fun e w' => e = .returned (.int .i64 (szF (size_Zoned x) left)) ∧ Below w.heap.size w w' := by
  obtain ⟨A, c, A2, c2, rfl, h1, h2⟩ := h
  obtain ⟨n1, n2⟩ := hx
  have H1 := hide fun W => szInt64S_any A x.of.length c left W n1 hl hl2
  have y1 : (w.alloc (.cells #[.int .i64 x.z, .slice A x.of.length c, .slice A2 x.ch.length c2] 25)).cell? ⟨w.heap.size, 1, none⟩ = some (.slice A x.of.length c) := by simp [go_sem]
  have y2 : (w.alloc (.cells #[.int .i64 x.z, .slice A x.of.length c, .slice A2 x.ch.length c2] 25)).cell? ⟨w.heap.size, 2, none⟩ = some (.slice A2 x.ch.length c2) := by simp [go_sem]
  by_cases g1 : (x.of.length : Int) ≤ left
  case neg =>
    have r1 := szF_no (show left < (x.of.length : Int) by omega)
    have R := hide (szF_no (n := size_Zoned x) (left := left) (by unfold size_Zoned; omega))
    rw [r1] at H1
    clear g1 r1
    go_enter Try.func7, Try.ntmps7
    go_wp2_with fail
    refine (H1.out _).mono ?_
    rintro e w1 ⟨rfl, rfl⟩
    go_wp2_with fail
    go_ret
    exact ⟨by rw [R.out]; rfl, (by repeat (first | exact Below.refl _ _ | assumption | (refine Below.alloc ?_ (by simp <;> omega) _) | refine Below.drew ?_ | refine bdn ?_ _))⟩
  have r1 := szF_yes g1
  rw [r1] at H1
  have H2 := hide fun W => szChangeS_any A2 x.ch.length c2 (left - x.of.length) W n2 (by omega) (by omega)
  have hsz : szF (size_Zoned x) left = szF x.ch.length (left - x.of.length) := by unfold szF size_Zoned; split <;> split <;> omega
  have hlo : -1 ≤ szF x.ch.length (left - x.of.length) := by unfold szF; split <;> omega
  have hup : szF x.ch.length (left - x.of.length) ≤ 1048576 := by unfold szF; split <;> omega
  have R := hide hsz
  generalize szF x.ch.length (left - x.of.length) = q at *
  clear r1 hsz
  by_cases hq : q < 0
  · have hq' : q = -1 := by omega
    subst hq'
    go_enter Try.func7, Try.ntmps7
    go_wp2_with fail
    refine (H1.out _).mono ?_
    rintro e w1 ⟨rfl, rfl⟩
    go_wp2_with fail
    refine (H2.out _).mono ?_
    rintro e w1 ⟨rfl, rfl⟩
    go_wp2_with fail
    go_ret
    exact ⟨by rw [R.out]; rfl, (by repeat (first | exact Below.refl _ _ | assumption | (refine Below.alloc ?_ (by simp <;> omega) _) | refine Below.drew ?_ | refine bdn ?_ _))⟩
  · go_enter Try.func7, Try.ntmps7
    go_wp2_with fail
    refine (H1.out _).mono ?_
    rintro e w1 ⟨rfl, rfl⟩
    go_wp2_with fail
    refine (H2.out _).mono ?_
    rintro e w1 ⟨rfl, rfl⟩
    go_wp2_with fail
    go_ret
    exact ⟨by rw [R.out]; rfl, (by repeat (first | exact Below.refl _ _ | assumption | (refine Below.alloc ?_ (by simp <;> omega) _) | refine Below.drew ?_ | refine bdn ?_ _))⟩
set_option maxRecDepth 100000 in
set_option maxHeartbeats 4000000 in
theorem L_mark_Zoned (x : TZ) (v : Value) (k : Int) (lo hi : Nat) (w : World) (hk0 : 0 ≤ k) (hk1 : k ≤ 1099491627776) (hh : hi ≤ w.heap.size) (h : O_Zoned w lo hi v x) :
    Calls Try.prog 13 #[v, .int .i64 k] w fun e w' => e = .returned (.int .i64 (k + cnt_Zoned x)) ∧ O_Zoned w' lo hi v (mark_Zoned x k) ∧ Only lo hi w w' := by
  obtain ⟨a, b, m, rfl, l1, l2, p1, p2⟩ := h
  obtain ⟨A, c, rfl, pr1⟩ := p1.r
  obtain ⟨A2, c2, rfl, pr2⟩ := p2.r
  obtain ⟨n1a, n1b⟩ := p1.cnt
  obtain ⟨n2a, n2b⟩ := p2.cnt
  clear pr1 pr2
  have b0 : Below w.heap.size w (w.alloc (.cells #[.int .i64 x.z, .slice A x.of.length c, .slice A2 x.ch.length c2] 31)) := (by repeat (first | exact Below.refl _ _ | assumption | (refine Below.alloc ?_ (by simp <;> omega) _) | refine Below.drew ?_ | refine bdn ?_ _))
  have x1 := BoxAt.new w #[.int .i64 x.z, .slice A x.of.length c, .slice A2 x.ch.length c2] 31
  have z0 : w.heap.size + 1 ≤ (w.alloc (.cells #[.int .i64 x.z, .slice A x.of.length c, .slice A2 x.ch.length c2] 31)).heap.size := by simp
  have p1' := p1.below b0 (by omega)
  have p2' := p2.below b0 hh
  clear p1 p2
  go_enter Try.func13, Try.ntmps13
  go_wp2_with fail
  generalize (w.alloc (.cells #[.int .i64 x.z, .slice A x.of.length c, .slice A2 x.ch.length c2] 31)) = w0 at *
  refine (L_mark_Int64S _ _ _ _ _ _ hk0 (by omega) p1').mono ?_
  rintro e w1 ⟨rfl, o1, s1⟩
  have p2 := p2'.kept s1 (.inr (Nat.le_refl _))
  have y1 : BoxAt w1 w.heap.size _ _ := (s1.2.2.2.2 _ (by omega) (.inr (by omega))).trans x1
  have k1 := y1.cell 2
  have z1 := s1.size
  simp only [List.getElem?_cons_succ, List.getElem?_cons_zero] at k1
  clear x1 y1 p1' p2'
  go_wp2_with fail
  refine (L_mark_ChangeS _ _ _ _ _ _ (by omega) (by omega) p2).mono ?_
  rintro e w2 ⟨rfl, o2, s2⟩
  have o1' := o1.kept s2 (.inl (Nat.le_refl _))
  go_wp2_with fail
  go_ret
  refine ⟨by unfold cnt_Zoned; rw [Int.add_assoc]; rfl, ⟨_, _, m, by unfold mark_Zoned; rfl, l1, l2, o1', o2⟩, ?_⟩
  refine ⟨s2.1.trans (s1.1.trans b0.os), s2.2.1.trans (s1.2.1.trans b0.tape), s2.2.2.1.trans (s1.2.2.1.trans b0.output), Nat.le_trans b0.size (Nat.le_trans z1 s2.size), fun q hq ho => ?_⟩
  have hq0 : q < w0.heap.size := by omega
  rw [s2.2.2.2.2 q (by omega) (by omega), s1.2.2.2.2 q hq0 (by omega)]
  exact b0.block q hq
set_option maxRecDepth 100000 in
set_option maxHeartbeats 4000000 in
theorem L_held_Zoned (x : TZ) (v : Value) (k : Int) (lo hi : Nat) (w : World) (hk0 : 0 ≤ k) (hk1 : k ≤ 1099491627776) (hh : hi ≤ w.heap.size) (h : O_Zoned w lo hi v (mark_Zoned x k)) :
    Calls Try.prog 14 #[v, .int .i64 k] w fun e w' => e = .returned (.int .i64 (k + cnt_Zoned x)) ∧ Below w.heap.size w w' := by
  obtain ⟨a, b, m, rfl, l1, l2, p1, p2⟩ := h
  obtain ⟨A, c, rfl, pr1⟩ := p1.r
  obtain ⟨A2, c2, rfl, pr2⟩ := p2.r
  have n1a : 0 ≤ cnt_Int64S x.of ∧ cnt_Int64S x.of ≤ 4194304 := by have := p1.cnt; unfold mark_Zoned mark_Int64S cnt_Int64S at this; rw [marks_len] at this; exact this
  have n2a : 0 ≤ cnt_ChangeS x.ch ∧ cnt_ChangeS x.ch ≤ 4194304 := by have := p2.cnt; unfold mark_Zoned mark_ChangeS cnt_ChangeS at this; rw [marks_len] at this; exact this
  obtain ⟨n1, n1b⟩ := n1a
  obtain ⟨n2, n2b⟩ := n2a
  clear pr1 pr2
  unfold mark_Zoned at p1 p2
  dsimp only at p1 p2
  have e1 : (mark_Zoned x k).of.length = x.of.length := by simp [mark_Zoned, mark_Int64S, marks_len]
  have e2 : (mark_Zoned x k).ch.length = x.ch.length := by simp [mark_Zoned, mark_ChangeS, marks_len]
  have e3 : (mark_Zoned x k).z = x.z := rfl
  rw [e1, e2, e3]
  rw [show (mark_Int64S x.of k).length = x.of.length by simp [mark_Int64S, marks_len]] at p1; rw [show (mark_ChangeS x.ch (k + cnt_Int64S x.of)).length = x.ch.length by simp [mark_ChangeS, marks_len]] at p2
  clear e1 e2 e3
  have b0 : Below w.heap.size w (w.alloc (.cells #[.int .i64 x.z, .slice A x.of.length c, .slice A2 x.ch.length c2] 31)) := (by repeat (first | exact Below.refl _ _ | assumption | (refine Below.alloc ?_ (by simp <;> omega) _) | refine Below.drew ?_ | refine bdn ?_ _))
  have x1 := BoxAt.new w #[.int .i64 x.z, .slice A x.of.length c, .slice A2 x.ch.length c2] 31
  have z0 : w.heap.size + 1 ≤ (w.alloc (.cells #[.int .i64 x.z, .slice A x.of.length c, .slice A2 x.ch.length c2] 31)).heap.size := by simp
  have p1' := p1.below b0 (by omega)
  have p2' := p2.below b0 hh
  clear p1 p2
  go_enter Try.func14, Try.ntmps14
  go_wp2_with fail
  generalize (w.alloc (.cells #[.int .i64 x.z, .slice A x.of.length c, .slice A2 x.ch.length c2] 31)) = w0 at *
  refine (L_held_Int64S x.of _ _ _ _ _ hk0 (by omega) p1').mono ?_
  rintro e w1 ⟨rfl, s1⟩
  have p2 := p2'.below s1 (by omega)
  have y1 := x1.below s1 (by omega)
  have k1 := y1.cell 2
  have bb := b0.trans (s1.mono b0.size)
  simp only [List.getElem?_cons_succ, List.getElem?_cons_zero] at k1
  clear x1 y1 p1' p2'
  go_wp2_with fail
  refine (L_held_ChangeS x.ch _ _ _ _ _ (by omega) (by omega) p2).mono ?_
  rintro e w2 ⟨rfl, s2⟩
  go_wp2_with fail
  go_ret
  exact ⟨by unfold cnt_Zoned; rw [Int.add_assoc]; rfl, bb.trans (s2.mono bb.size)⟩
end Go.Proofs.Ytlkccijlbeibjaa
