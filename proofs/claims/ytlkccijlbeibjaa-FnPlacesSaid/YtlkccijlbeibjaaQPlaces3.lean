/-
  The words of the exact laws: 'R': a value reads as x; 'O': it is memory of the law's own, in blocks lo .. hi. The helpers' contracts in these words. Printed by gen_law.py.
  Lists whose elements hold a list of numbers and up to two numbers more: what a slice of them reads, and what is the call's own. Plain lemmas.
  The laws' words and helpers for lists whose elements hold a list of numbers, by contract.
-/
import Derived.Test.YtlkccijlbeibjaaQPlaces1
import Derived.Test.YtlkccijlbeibjaaQPlaces2
import Derived.Deep.RegionHeld3
namespace Go.Proofs.Ytlkccijlbeibjaa
open Go.RowKit

/-- Only blocks lo .. hi, and new ones, have turned. -/
def Only (lo hi : Nat) (w w' : World) : Prop :=
  w'.os = w.os ∧ w'.tape = w.tape ∧ w'.output = w.output ∧ w.heap.size ≤ w'.heap.size ∧ ∀ k, k < w.heap.size → (k < lo ∨ hi ≤ k) → w'.heap[k]? = w.heap[k]?
theorem Only.size {lo hi : Nat} {w w' : World} (h : Only lo hi w w') : w.heap.size ≤ w'.heap.size := h.2.2.2.1
theorem Only.below {lo hi : Nat} {w w' : World} (h : Only lo hi w w') {B : Nat} (hB : B ≤ lo) (hB' : B ≤ w.heap.size) : Below B w w' :=
  ⟨h.1, h.2.1, h.2.2.1, h.2.2.2.1, fun k hk => h.2.2.2.2 k (by omega) (.inl (by omega))⟩
theorem only_row {w w' : World} {r : Option Nat} {lo hi : Nat} (h : w.grownBy w' r) (hr : ∀ g, r = some g → lo ≤ g ∧ g < hi) : Only lo hi w w' :=
  ⟨h.os, h.tape, h.output, h.size, fun k hk ho => h.block k hk (fun e => by have := hr k e.symm; omega)⟩
theorem only_of_below {w w' : World} {lo hi : Nat} (h : Below w.heap.size w w') : Only lo hi w w' := ⟨h.os, h.tape, h.output, h.size, fun k hk _ => h.block k hk⟩
theorem only_trans {w w1 w2 : World} {lo hi : Nat} (h : Only lo hi w w1) (k : Only lo hi w1 w2) : Only lo hi w w2 :=
  ⟨k.1.trans h.1, k.2.1.trans h.2.1, k.2.2.1.trans h.2.2.1, Nat.le_trans h.size k.size, fun i hi' ho => (k.2.2.2.2 i (Nat.lt_of_lt_of_le hi' h.size) ho).trans (h.2.2.2.2 i hi' ho)⟩
/-- A row of the call's own, of elements with s cells. -/
def OwnV (e : TypeId) (s : Nat) (w : World) (lo hi : Nat) (v : Value) (n : Nat) (xs : List Value) : Prop :=
  (∃ A c, v = .slice A n c) ∧ n ≤ 1048576 ∧ ((n = 0 ∧ xs = []) ∨ (w.ownsRow lo e s v n xs ∧ ∀ g, v.ownBlock = some g → g < hi))
theorem OwnV.of_row {e : TypeId} {s : Nat} {w : World} {lo : Nat} {v : Value} {n : Nat} {xs : List Value} (h : w.ownsRow lo e s v n xs) (hn : n ≤ 1048576) : OwnV e s w lo w.heap.size v n xs := by
  obtain ⟨A, c, rfl, _⟩ := own_shape h
  exact ⟨⟨A, c, rfl⟩, hn, .inr ⟨h, fun g hg => (h.lt g hg).2⟩⟩
theorem OwnV.nil (e : TypeId) (s : Nat) (w : World) (lo hi : Nat) (A : Option Addr) (c : Nat) : OwnV e s w lo hi (.slice A 0 c) 0 [] := ⟨⟨A, c, rfl⟩, by omega, .inl ⟨rfl, rfl⟩⟩
theorem OwnV.kept {e : TypeId} {s : Nat} {w w' : World} {lo hi lo' hi' : Nat} {v : Value} {n : Nat} {xs : List Value} (h : OwnV e s w lo hi v n xs) (k : Only lo' hi' w w') (hd : hi ≤ lo' ∨ hi' ≤ lo) : OwnV e s w' lo hi v n xs := by
  refine ⟨h.1, h.2.1, ?_⟩
  rcases h.2.2 with h0 | ⟨ho, hlt⟩
  · exact .inl h0
  · refine .inr ⟨⟨ho.1, ?_⟩, hlt⟩
    rcases ho.2 with h0 | ⟨g, cap, cur, rfl, hb, hg, rest⟩
    · exact .inl h0
    · refine .inr ⟨g, cap, cur, rfl, hb, ?_, rest⟩
      have := hlt g rfl
      rw [k.2.2.2.2 g (lt_of_block hg) (by omega)]; exact hg
theorem OwnV.below {e : TypeId} {s : Nat} {w w' : World} {lo hi B : Nat} {v : Value} {n : Nat} {xs : List Value} (h : OwnV e s w lo hi v n xs) (k : Below B w w') (hd : hi ≤ B) : OwnV e s w' lo hi v n xs := by
  refine ⟨h.1, h.2.1, ?_⟩
  rcases h.2.2 with h0 | ⟨ho, hlt⟩
  · exact .inl h0
  · refine .inr ⟨⟨ho.1, ?_⟩, hlt⟩
    rcases ho.2 with h0 | ⟨g, cap, cur, rfl, hb, hg, rest⟩
    · exact .inl h0
    · refine .inr ⟨g, cap, cur, rfl, hb, ?_, rest⟩
      have := hlt g rfl
      rw [k.block g (by omega)]; exact hg
theorem OwnV.widen {e : TypeId} {s : Nat} {w : World} {lo hi lo' hi' : Nat} {v : Value} {n : Nat} {xs : List Value} (h : OwnV e s w lo hi v n xs) (h1 : lo' ≤ lo) (h2 : hi ≤ hi') : OwnV e s w lo' hi' v n xs := by
  refine ⟨h.1, h.2.1, ?_⟩
  rcases h.2.2 with h0 | ⟨ho, hlt⟩
  · exact .inl h0
  · exact .inr ⟨own_base ho h1, fun g hg => Nat.lt_of_lt_of_le (hlt g hg) h2⟩
theorem OwnV.rd {e : TypeId} {s : Nat} {w : World} {lo hi : Nat} {v : Value} {n : Nat} {xs : List Value} (h : OwnV e s w lo hi v n xs) : ∃ A c, v = .slice A n c ∧ Rd w w.heap.size A xs := by
  obtain ⟨⟨A, c, rfl⟩, _, h0 | ⟨ho, _⟩⟩ := h
  · obtain ⟨rfl, rfl⟩ := h0; exact ⟨A, c, rfl, Rd.nil _ _ _⟩
  · exact ⟨A, c, rfl, Rd.of_own ho⟩

/-! ### Int64S -/
def R_Int64S (w : World) (B : Nat) (v : Value) (x : List Int) : Prop := ∃ A c, v = .slice A x.length c ∧ RdI w B A x
def O_Int64S (w : World) (lo hi : Nat) (v : Value) (x : List Int) : Prop := OwnV 2 1 w lo hi v x.length (x.map (Value.int .i64))
theorem R_Int64S.below {w w' : World} {B : Nat} {v : Value} {x : List Int} (h : R_Int64S w B v x) (k : Below B w w') : R_Int64S w' B v x := by
  obtain ⟨A, c, rfl, h⟩ := h; exact ⟨A, c, rfl, h.below k⟩
theorem R_Int64S.more {w : World} {B B' : Nat} {v : Value} {x : List Int} (h : R_Int64S w B v x) (k : B ≤ B') : R_Int64S w B' v x := by
  obtain ⟨A, c, rfl, h⟩ := h; exact ⟨A, c, rfl, h.more k⟩
theorem O_Int64S.r {w : World} {lo hi : Nat} {v : Value} {x : List Int} (h : O_Int64S w lo hi v x) : R_Int64S w w.heap.size v x := h.rd
theorem O_Int64S.small {w : World} {lo hi : Nat} {v : Value} {x : List Int} (h : O_Int64S w lo hi v x) : x.length ≤ 1048576 := h.2.1
theorem O_Int64S.kept {w w' : World} {lo hi lo' hi' : Nat} {v : Value} {x : List Int} (h : O_Int64S w lo hi v x) (k : Only lo' hi' w w') (hd : hi ≤ lo' ∨ hi' ≤ lo) : O_Int64S w' lo hi v x := OwnV.kept h k hd
theorem O_Int64S.below {w w' : World} {lo hi B : Nat} {v : Value} {x : List Int} (h : O_Int64S w lo hi v x) (k : Below B w w') (hd : hi ≤ B) : O_Int64S w' lo hi v x := OwnV.below h k hd
theorem O_Int64S.widen {w : World} {lo hi lo' hi' : Nat} {v : Value} {x : List Int} (h : O_Int64S w lo hi v x) (h1 : lo' ≤ lo) (h2 : hi ≤ hi') : O_Int64S w lo' hi' v x := OwnV.widen h h1 h2
theorem O_Int64S.nil (w : World) (lo hi : Nat) (A : Option Addr) (c : Nat) : O_Int64S w lo hi (.slice A 0 c) [] := OwnV.nil _ _ _ _ _ _ _
def mark_Int64S (x : List Int) (k : Int) : List Int := marks (mkI k) x.length
def cnt_Int64S (x : List Int) : Int := x.length
theorem O_Int64S.cnt {w : World} {lo hi : Nat} {v : Value} {x : List Int} (h : O_Int64S w lo hi v x) : 0 ≤ cnt_Int64S x ∧ cnt_Int64S x ≤ 4194304 := by
  have := h.small
  unfold cnt_Int64S; omega
theorem L_to_Int64S (x : List Int) (v : Value) (w : World) (hs : x.length ≤ 1048576) (h : R_Int64S w w.heap.size v x) :
    Calls Try.prog 65 #[v] w fun e w' => ∃ v', e = .returned v' ∧ O_Int64S w' w.heap.size w'.heap.size v' x ∧ Below w.heap.size w w' := by
  obtain ⟨A, c, rfl, h⟩ := h
  exact (toInt64S_any x A c w hs h).mono fun e w' ⟨A', c', he, ho, hb⟩ => ⟨_, he, OwnV.of_row ho hs, hb⟩
theorem L_eq_Int64S (x : List Int) (v1 v2 : Value) (lo1 hi1 lo2 hi2 : Nat) (w : World) (h1 : O_Int64S w lo1 hi1 v1 x) (h2 : O_Int64S w lo2 hi2 v2 x) :
    Calls Try.prog 74 #[v1, v2] w fun e w' => e = .returned (.bool true) ∧ Below w.heap.size w w' := by
  have hs := h1.small
  obtain ⟨A1, c1, rfl, r1⟩ := h1.r
  obtain ⟨A2, c2, rfl, r2⟩ := h2.r
  exact (eqInt64S_any x x A1 A2 c1 c2 w (by omega) (by omega) r1 r2).mono fun e w' ⟨he, hb⟩ => ⟨by rw [he]; simp, hb⟩
theorem L_sz_Int64S (x : List Int) (v : Value) (left : Int) (B : Nat) (w : World) (hx : x.length ≤ 9223372036854775807) (hl : 0 ≤ left) (hl2 : left ≤ 1048576) (h : R_Int64S w B v x) :
    Calls Try.prog 60 #[v, .int .i64 left] w fun e w' => e = .returned (.int .i64 (szF x.length left)) ∧ w = w' := by
  obtain ⟨A, c, rfl, h⟩ := h
  exact szInt64S_any A x.length c left w hx hl hl2
theorem L_mark_Int64S (x : List Int) (v : Value) (k : Int) (lo hi : Nat) (w : World) (hk0 : 0 ≤ k) (hk1 : k ≤ 1099511627776) (h : O_Int64S w lo hi v x) :
    Calls Try.prog 76 #[v, .int .i64 k] w fun e w' => e = .returned (.int .i64 (k + cnt_Int64S x)) ∧ O_Int64S w' lo hi v (mark_Int64S x k) ∧ Only lo hi w w' := by
  have hs := h.small
  obtain ⟨⟨A, c, rfl⟩, _, ⟨hn, hx⟩ | ⟨ho, hlt⟩⟩ := h
  · have hx0 : x = [] := List.eq_nil_of_length_eq_zero hn
    subst hx0
    have hnil : w.ownsRow 0 2 1 (.slice none 0 0) 0 [] := World.ownsRow_nil _ _ _ _
    refine (markInt64S_nil A c k w hk0 hk1).mono fun e w' ⟨he, hw⟩ => ?_
    subst hw
    exact ⟨by rw [he]; simp [cnt_Int64S], OwnV.nil _ _ _ _ _ _ _, only_of_below (Below.refl _ _)⟩
  · refine (markInt64S_any lo x A c k w hs hk0 hk1 ho).mono fun e w' ⟨he, ho', hg⟩ => ⟨by rw [he]; simp [cnt_Int64S], ?_, only_row hg fun g hg' => ⟨(ho.lt g hg').1, hlt g hg'⟩⟩
    unfold O_Int64S mark_Int64S
    rw [marks_len]
    exact ⟨⟨A, c, rfl⟩, hs, .inr ⟨ho', hlt⟩⟩
theorem L_held_Int64S (x : List Int) (v : Value) (k : Int) (lo hi : Nat) (w : World) (hk0 : 0 ≤ k) (hk1 : k ≤ 1099511627776) (h : O_Int64S w lo hi v (mark_Int64S x k)) :
    Calls Try.prog 78 #[v, .int .i64 k] w fun e w' => e = .returned (.int .i64 (k + cnt_Int64S x)) ∧ Below w.heap.size w w' := by
  have hs := h.small
  obtain ⟨A, c, rfl, r⟩ := h.r
  unfold mark_Int64S at *
  rw [marks_len] at *
  exact (heldInt64S_any x.length A c k w hs hk0 hk1 r).mono fun e w' ⟨he, hb⟩ => ⟨by rw [he]; simp [cnt_Int64S], hb⟩



/-! ### TubeS -/
def R_TubeS (w : World) (B : Nat) (v : Value) (x : List T3) : Prop := ∃ A c, v = .slice A x.length c ∧ Rd3 w B A x
def O_TubeS (w : World) (lo hi : Nat) (v : Value) (x : List T3) : Prop := OwnV 111 3 w lo hi v x.length (x.flatMap T3.cells)
theorem R_TubeS.below {w w' : World} {B : Nat} {v : Value} {x : List T3} (h : R_TubeS w B v x) (k : Below B w w') : R_TubeS w' B v x := by
  obtain ⟨A, c, rfl, h⟩ := h; exact ⟨A, c, rfl, h.below k⟩
theorem R_TubeS.more {w : World} {B B' : Nat} {v : Value} {x : List T3} (h : R_TubeS w B v x) (k : B ≤ B') : R_TubeS w B' v x := by
  obtain ⟨A, c, rfl, h⟩ := h; exact ⟨A, c, rfl, h.more k⟩
theorem O_TubeS.r {w : World} {lo hi : Nat} {v : Value} {x : List T3} (h : O_TubeS w lo hi v x) : R_TubeS w w.heap.size v x := h.rd
theorem O_TubeS.small {w : World} {lo hi : Nat} {v : Value} {x : List T3} (h : O_TubeS w lo hi v x) : x.length ≤ 1048576 := h.2.1
theorem O_TubeS.kept {w w' : World} {lo hi lo' hi' : Nat} {v : Value} {x : List T3} (h : O_TubeS w lo hi v x) (k : Only lo' hi' w w') (hd : hi ≤ lo' ∨ hi' ≤ lo) : O_TubeS w' lo hi v x := OwnV.kept h k hd
theorem O_TubeS.below {w w' : World} {lo hi B : Nat} {v : Value} {x : List T3} (h : O_TubeS w lo hi v x) (k : Below B w w') (hd : hi ≤ B) : O_TubeS w' lo hi v x := OwnV.below h k hd
theorem O_TubeS.widen {w : World} {lo hi lo' hi' : Nat} {v : Value} {x : List T3} (h : O_TubeS w lo hi v x) (h1 : lo' ≤ lo) (h2 : hi ≤ hi') : O_TubeS w lo' hi' v x := OwnV.widen h h1 h2
theorem O_TubeS.nil (w : World) (lo hi : Nat) (A : Option Addr) (c : Nat) : O_TubeS w lo hi (.slice A 0 c) [] := OwnV.nil _ _ _ _ _ _ _
def mark_TubeS (x : List T3) (k : Int) : List T3 := marks (mk3 k) x.length
def cnt_TubeS (x : List T3) : Int := 3 * x.length
theorem O_TubeS.cnt {w : World} {lo hi : Nat} {v : Value} {x : List T3} (h : O_TubeS w lo hi v x) : 0 ≤ cnt_TubeS x ∧ cnt_TubeS x ≤ 4194304 := by
  have := h.small
  unfold cnt_TubeS; omega

/-! ### ChangeS -/
def R_ChangeS (w : World) (B : Nat) (v : Value) (x : List T3) : Prop := ∃ A c, v = .slice A x.length c ∧ Rd3 w B A x
def O_ChangeS (w : World) (lo hi : Nat) (v : Value) (x : List T3) : Prop := OwnV 35 3 w lo hi v x.length (x.flatMap T3.cells)
theorem R_ChangeS.below {w w' : World} {B : Nat} {v : Value} {x : List T3} (h : R_ChangeS w B v x) (k : Below B w w') : R_ChangeS w' B v x := by
  obtain ⟨A, c, rfl, h⟩ := h; exact ⟨A, c, rfl, h.below k⟩
theorem R_ChangeS.more {w : World} {B B' : Nat} {v : Value} {x : List T3} (h : R_ChangeS w B v x) (k : B ≤ B') : R_ChangeS w B' v x := by
  obtain ⟨A, c, rfl, h⟩ := h; exact ⟨A, c, rfl, h.more k⟩
theorem O_ChangeS.r {w : World} {lo hi : Nat} {v : Value} {x : List T3} (h : O_ChangeS w lo hi v x) : R_ChangeS w w.heap.size v x := h.rd
theorem O_ChangeS.small {w : World} {lo hi : Nat} {v : Value} {x : List T3} (h : O_ChangeS w lo hi v x) : x.length ≤ 1048576 := h.2.1
theorem O_ChangeS.kept {w w' : World} {lo hi lo' hi' : Nat} {v : Value} {x : List T3} (h : O_ChangeS w lo hi v x) (k : Only lo' hi' w w') (hd : hi ≤ lo' ∨ hi' ≤ lo) : O_ChangeS w' lo hi v x := OwnV.kept h k hd
theorem O_ChangeS.below {w w' : World} {lo hi B : Nat} {v : Value} {x : List T3} (h : O_ChangeS w lo hi v x) (k : Below B w w') (hd : hi ≤ B) : O_ChangeS w' lo hi v x := OwnV.below h k hd
theorem O_ChangeS.widen {w : World} {lo hi lo' hi' : Nat} {v : Value} {x : List T3} (h : O_ChangeS w lo hi v x) (h1 : lo' ≤ lo) (h2 : hi ≤ hi') : O_ChangeS w lo' hi' v x := OwnV.widen h h1 h2
theorem O_ChangeS.nil (w : World) (lo hi : Nat) (A : Option Addr) (c : Nat) : O_ChangeS w lo hi (.slice A 0 c) [] := OwnV.nil _ _ _ _ _ _ _
def mark_ChangeS (x : List T3) (k : Int) : List T3 := marks (mk3 k) x.length
def cnt_ChangeS (x : List T3) : Int := 3 * x.length
theorem O_ChangeS.cnt {w : World} {lo hi : Nat} {v : Value} {x : List T3} (h : O_ChangeS w lo hi v x) : 0 ≤ cnt_ChangeS x ∧ cnt_ChangeS x ≤ 4194304 := by
  have := h.small
  unfold cnt_ChangeS; omega
theorem L_to_ChangeS (x : List T3) (v : Value) (w : World) (hs : x.length ≤ 1048576) (h : R_ChangeS w w.heap.size v x) :
    Calls Try.prog 66 #[v] w fun e w' => ∃ v', e = .returned v' ∧ O_ChangeS w' w.heap.size w'.heap.size v' x ∧ Below w.heap.size w w' := by
  obtain ⟨A, c, rfl, h⟩ := h
  exact (toChangeS_any x A c w hs h).mono fun e w' ⟨A', c', he, ho, hb⟩ => ⟨_, he, OwnV.of_row ho hs, hb⟩
theorem L_eq_ChangeS (x : List T3) (v1 v2 : Value) (lo1 hi1 lo2 hi2 : Nat) (w : World) (h1 : O_ChangeS w lo1 hi1 v1 x) (h2 : O_ChangeS w lo2 hi2 v2 x) :
    Calls Try.prog 75 #[v1, v2] w fun e w' => e = .returned (.bool true) ∧ Below w.heap.size w w' := by
  have hs := h1.small
  obtain ⟨A1, c1, rfl, r1⟩ := h1.r
  obtain ⟨A2, c2, rfl, r2⟩ := h2.r
  exact (eqChangeS_any x x A1 A2 c1 c2 w (by omega) (by omega) r1 r2).mono fun e w' ⟨he, hb⟩ => ⟨by rw [he]; simp, hb⟩
theorem L_sz_ChangeS (x : List T3) (v : Value) (left : Int) (B : Nat) (w : World) (hx : x.length ≤ 9223372036854775807) (hl : 0 ≤ left) (hl2 : left ≤ 1048576) (h : R_ChangeS w B v x) :
    Calls Try.prog 61 #[v, .int .i64 left] w fun e w' => e = .returned (.int .i64 (szF x.length left)) ∧ w = w' := by
  obtain ⟨A, c, rfl, h⟩ := h
  exact szChangeS_any A x.length c left w hx hl hl2
theorem L_mark_ChangeS (x : List T3) (v : Value) (k : Int) (lo hi : Nat) (w : World) (hk0 : 0 ≤ k) (hk1 : k ≤ 1099511627776) (h : O_ChangeS w lo hi v x) :
    Calls Try.prog 77 #[v, .int .i64 k] w fun e w' => e = .returned (.int .i64 (k + cnt_ChangeS x)) ∧ O_ChangeS w' lo hi v (mark_ChangeS x k) ∧ Only lo hi w w' := by
  have hs := h.small
  obtain ⟨⟨A, c, rfl⟩, _, ⟨hn, hx⟩ | ⟨ho, hlt⟩⟩ := h
  · have hx0 : x = [] := List.eq_nil_of_length_eq_zero hn
    subst hx0
    have hnil : w.ownsRow 0 35 3 (.slice none 0 0) 0 [] := World.ownsRow_nil _ _ _ _
    refine (markChangeS_nil A c k w hk0 hk1).mono fun e w' ⟨he, hw⟩ => ?_
    subst hw
    exact ⟨by rw [he]; simp [cnt_ChangeS], OwnV.nil _ _ _ _ _ _ _, only_of_below (Below.refl _ _)⟩
  · refine (markChangeS_any lo x A c k w hs hk0 hk1 ho).mono fun e w' ⟨he, ho', hg⟩ => ⟨by rw [he]; simp [cnt_ChangeS], ?_, only_row hg fun g hg' => ⟨(ho.lt g hg').1, hlt g hg'⟩⟩
    unfold O_ChangeS mark_ChangeS
    rw [marks_len]
    exact ⟨⟨A, c, rfl⟩, hs, .inr ⟨ho', hlt⟩⟩
theorem L_held_ChangeS (x : List T3) (v : Value) (k : Int) (lo hi : Nat) (w : World) (hk0 : 0 ≤ k) (hk1 : k ≤ 1099511627776) (h : O_ChangeS w lo hi v (mark_ChangeS x k)) :
    Calls Try.prog 79 #[v, .int .i64 k] w fun e w' => e = .returned (.int .i64 (k + cnt_ChangeS x)) ∧ Below w.heap.size w w' := by
  have hs := h.small
  obtain ⟨A, c, rfl, r⟩ := h.r
  unfold mark_ChangeS at *
  rw [marks_len] at *
  exact (heldChangeS_any x.length A c k w hs hk0 hk1 r).mono fun e w' ⟨he, hb⟩ => ⟨by rw [he]; simp [cnt_ChangeS], hb⟩


/-! ### RideS -/
def R_RideS (w : World) (B : Nat) (v : Value) (x : List T4) : Prop := ∃ A c, v = .slice A x.length c ∧ Rd4 w B A x
def O_RideS (w : World) (lo hi : Nat) (v : Value) (x : List T4) : Prop := OwnV 83 4 w lo hi v x.length (x.flatMap T4.cells)
theorem R_RideS.below {w w' : World} {B : Nat} {v : Value} {x : List T4} (h : R_RideS w B v x) (k : Below B w w') : R_RideS w' B v x := by
  obtain ⟨A, c, rfl, h⟩ := h; exact ⟨A, c, rfl, h.below k⟩
theorem R_RideS.more {w : World} {B B' : Nat} {v : Value} {x : List T4} (h : R_RideS w B v x) (k : B ≤ B') : R_RideS w B' v x := by
  obtain ⟨A, c, rfl, h⟩ := h; exact ⟨A, c, rfl, h.more k⟩
theorem O_RideS.r {w : World} {lo hi : Nat} {v : Value} {x : List T4} (h : O_RideS w lo hi v x) : R_RideS w w.heap.size v x := h.rd
theorem O_RideS.small {w : World} {lo hi : Nat} {v : Value} {x : List T4} (h : O_RideS w lo hi v x) : x.length ≤ 1048576 := h.2.1
theorem O_RideS.kept {w w' : World} {lo hi lo' hi' : Nat} {v : Value} {x : List T4} (h : O_RideS w lo hi v x) (k : Only lo' hi' w w') (hd : hi ≤ lo' ∨ hi' ≤ lo) : O_RideS w' lo hi v x := OwnV.kept h k hd
theorem O_RideS.below {w w' : World} {lo hi B : Nat} {v : Value} {x : List T4} (h : O_RideS w lo hi v x) (k : Below B w w') (hd : hi ≤ B) : O_RideS w' lo hi v x := OwnV.below h k hd
theorem O_RideS.widen {w : World} {lo hi lo' hi' : Nat} {v : Value} {x : List T4} (h : O_RideS w lo hi v x) (h1 : lo' ≤ lo) (h2 : hi ≤ hi') : O_RideS w lo' hi' v x := OwnV.widen h h1 h2
theorem O_RideS.nil (w : World) (lo hi : Nat) (A : Option Addr) (c : Nat) : O_RideS w lo hi (.slice A 0 c) [] := OwnV.nil _ _ _ _ _ _ _
def mark_RideS (x : List T4) (k : Int) : List T4 := marks (mk4 k) x.length
def cnt_RideS (x : List T4) : Int := 4 * x.length
theorem O_RideS.cnt {w : World} {lo hi : Nat} {v : Value} {x : List T4} (h : O_RideS w lo hi v x) : 0 ≤ cnt_RideS x ∧ cnt_RideS x ≤ 4194304 := by
  have := h.small
  unfold cnt_RideS; omega
end Go.Proofs.Ytlkccijlbeibjaa
namespace Go.Proofs.Ytlkccijlbeibjaa
open Go.RowKit

structure TN where
  way : List Int
  p : Int
  q : Int
def TN.Fits (x : TN) : Prop := (∀ z ∈ x.way, -9223372036854775808 ≤ z ∧ z ≤ 9223372036854775807) ∧ (-9223372036854775808 ≤ x.p ∧ x.p ≤ 9223372036854775807) ∧ (-9223372036854775808 ≤ x.q ∧ x.q ≤ 9223372036854775807)
/-- The cells of an element: its slice's value, and m numbers. -/
def Nc (m : Nat) (x : Value × TN) : List Value := x.1 :: [Value.int .i64 x.2.p, .int .i64 x.2.q].take m
theorem Nc_len {m : Nat} (hm : m ≤ 2) (x : Value × TN) : (Nc m x).length = m + 1 := by simp [Nc]; omega
def WayAt (w : World) (B : Nat) (p : Value × TN) : Prop := ∃ A c, p.1 = .slice A p.2.way.length c ∧ RdI w B A p.2.way
def RN (m : Nat) (w : World) (B : Nat) (A : Option Addr) (x : List TN) : Prop := ∃ ps : List (Value × TN), ps.map (·.2) = x ∧ Rd w B A (ps.flatMap (Nc m)) ∧ ∀ p ∈ ps, WayAt w B p
section
variable {m : Nat} {w w' : World} {B B' : Nat} {A : Option Addr} {x : List TN}
theorem RN.nil (m : Nat) (w : World) (B : Nat) (A : Option Addr) : RN m w B A [] := ⟨[], rfl, Rd.nil _ _ _, fun p hp => by cases hp⟩
theorem RN.below (h : RN m w B A x) (k : Below B w w') : RN m w' B A x := by
  obtain ⟨ps, h1, h2, h3⟩ := h
  refine ⟨ps, h1, h2.below k, fun p hp => ?_⟩
  obtain ⟨A', c, e, r⟩ := h3 p hp
  exact ⟨A', c, e, r.below k⟩
theorem RN.more (h : RN m w B A x) (k : B ≤ B') : RN m w B' A x := by
  obtain ⟨ps, h1, h2, h3⟩ := h
  refine ⟨ps, h1, h2.more k, fun p hp => ?_⟩
  obtain ⟨A', c, e, r⟩ := h3 p hp
  exact ⟨A', c, e, r.more k⟩
theorem RN.at_ (hm : m ≤ 2) (h : RN m w B A x) {k : Nat} (hk : k < x.length) : ∃ b o e Aw cw, A = some ⟨b, o, none⟩ ∧ b < B ∧ x[k]? = some e ∧ RdI w B Aw e.way ∧ w.cell? ⟨b, o + k * (m + 1), none⟩ = some (.slice Aw e.way.length cw) ∧
    (1 ≤ m → w.cell? ⟨b, o + k * (m + 1) + 1, none⟩ = some (.int .i64 e.p)) ∧ (2 ≤ m → w.cell? ⟨b, o + k * (m + 1) + 2, none⟩ = some (.int .i64 e.q)) := by
  obtain ⟨ps, h1, h2, h3⟩ := h
  have hl : ps.length = x.length := by rw [← h1]; simp
  obtain ⟨b, o, p, hA, hb, hp, hc⟩ := Rd.elem (Nc m) (m + 1) (Nc_len hm) h2 (by omega) (k := k) (by omega)
  obtain ⟨Aw, cw, he, hr⟩ := h3 p (List.mem_of_getElem? hp)
  refine ⟨b, o, p.2, Aw, cw, hA, hb, by rw [← h1, List.getElem?_map, hp]; rfl, hr, ?_, fun h => ?_, fun h => ?_⟩
  · have := hc 0 (by omega); rw [Nat.add_zero] at this; rw [this, ← he]; rfl
  · have := hc 1 (by omega)
    rw [this]
    match m, h, hm with
    | 1, _, _ => rfl
    | 2, _, _ => rfl
  · have := hc 2 (by omega)
    rw [this]
    obtain rfl : m = 2 := by omega
    rfl
end
def SmallN (x : List TN) : Prop := x.length + (x.map fun e => e.way.length).sum ≤ 1048576
theorem sum_get {x : List TN} : ∀ {k : Nat} {e : TN}, x[k]? = some e → e.way.length ≤ (x.map fun e => e.way.length).sum := by
  induction x with
  | nil => intro k e h; simp at h
  | cons a x ih =>
    intro k e h
    rw [List.map_cons, List.sum_cons]
    cases k with
    | zero => simp at h; subst h; omega
    | succ k => have := ih (k := k) (by simpa using h); omega
theorem SmallN.way {x : List TN} (h : SmallN x) {k : Nat} {e : TN} (he : x[k]? = some e) : e.way.length ≤ 1048576 := by
  have := sum_get he; unfold SmallN at h; omega
theorem Only.wider {lo hi lo' hi' : Nat} {w w' : World} (h : Only lo hi w w') (h1 : lo' ≤ lo) (h2 : hi ≤ hi') : Only lo' hi' w w' :=
  ⟨h.1, h.2.1, h.2.2.1, h.2.2.2.1, fun k hk ho => h.2.2.2.2 k hk (by omega)⟩
theorem OwnV.tight {e : TypeId} {s : Nat} {w : World} {lo hi g : Nat} {v : Value} {n : Nat} {xs : List Value} (h : OwnV e s w lo hi v n xs) (hg : v.ownBlock = some g) : OwnV e s w g (g + 1) v n xs := by
  refine ⟨h.1, h.2.1, ?_⟩
  rcases h.2.2 with h0 | ⟨ho, hlt⟩
  · exact .inl h0
  · refine .inr ⟨⟨ho.1, ?_⟩, fun g' hg' => by rw [hg] at hg'; cases hg'; omega⟩
    rcases ho.2 with h0 | ⟨g', cap, cur, rfl, hb, hgg, rest⟩
    · exact .inl h0
    · simp [Value.ownBlock] at hg
      subst hg
      exact .inr ⟨g', cap, cur, rfl, Nat.le_refl _, hgg, rest⟩
/-- The elements' lists are rows of the call's own, one behind the other, none in the block. -/
def FamO (w : World) (blk : Option Nat) : Nat → Nat → List (Value × TN) → Prop
  | _, _, [] => True
  | lo, hi, p :: ps => ∃ a b, lo ≤ a ∧ a ≤ b ∧ b ≤ hi ∧ (∀ g, blk = some g → b ≤ g ∨ g < a) ∧ O_Int64S w a b p.1 p.2.way ∧ FamO w blk b hi ps
theorem FamO.kept {w w' : World} {blk : Option Nat} {lo' hi' hi : Nat} (k : Only lo' hi' w w') : ∀ {ps : List (Value × TN)} {lo : Nat}, FamO w blk lo hi ps → (hi ≤ lo' ∨ hi' ≤ lo) → FamO w' blk lo hi ps := by
  intro ps
  induction ps with
  | nil => intro lo _ _; trivial
  | cons p ps ih =>
    intro lo h hd
    obtain ⟨a, b, h1, h2, h3, h4, h5, h6⟩ := h
    exact ⟨a, b, h1, h2, h3, h4, h5.kept k (by omega), ih h6 (by omega)⟩
theorem FamO.keptB {w w' : World} {g hi : Nat} (k : Only g (g + 1) w w') : ∀ {ps : List (Value × TN)} {lo : Nat}, FamO w (some g) lo hi ps → FamO w' (some g) lo hi ps := by
  intro ps
  induction ps with
  | nil => intro lo _; trivial
  | cons p ps ih =>
    intro lo h
    obtain ⟨a, b, h1, h2, h3, h4, h5, h6⟩ := h
    exact ⟨a, b, h1, h2, h3, h4, h5.kept k (by have := h4 g rfl; omega), ih h6⟩
theorem FamO.below {w w' : World} {blk : Option Nat} {B hi : Nat} (k : Below B w w') (hB : hi ≤ B) : ∀ {ps : List (Value × TN)} {lo : Nat}, FamO w blk lo hi ps → FamO w' blk lo hi ps := by
  intro ps
  induction ps with
  | nil => intro lo _; trivial
  | cons p ps ih =>
    intro lo h
    obtain ⟨a, b, h1, h2, h3, h4, h5, h6⟩ := h
    exact ⟨a, b, h1, h2, h3, h4, h5.below k (by omega), ih h6⟩
theorem FamO.widen {w : World} {blk : Option Nat} {hi hi' : Nat} (k2 : hi ≤ hi') : ∀ {ps : List (Value × TN)} {lo lo' : Nat}, FamO w blk lo hi ps → lo' ≤ lo → FamO w blk lo' hi' ps := by
  intro ps
  induction ps with
  | nil => intro lo lo' _ _; trivial
  | cons p ps ih =>
    intro lo lo' h k1
    obtain ⟨a, b, h1, h2, h3, h4, h5, h6⟩ := h
    exact ⟨a, b, by omega, h2, by omega, h4, h5, ih h6 (Nat.le_refl _)⟩
theorem FamO.blk {w : World} {blk blk' : Option Nat} {hi : Nat} : ∀ {ps : List (Value × TN)} {lo : Nat}, FamO w blk lo hi ps → (∀ g, blk' = some g → hi ≤ g ∨ g < lo) → FamO w blk' lo hi ps := by
  intro ps
  induction ps with
  | nil => intro lo _ _; trivial
  | cons p ps ih =>
    intro lo h k
    obtain ⟨a, b, h1, h2, h3, h4, h5, h6⟩ := h
    exact ⟨a, b, h1, h2, h3, fun g hg => by have := k g hg; omega, h5, ih h6 fun g hg => by have := k g hg; omega⟩
theorem FamO.snoc {w : World} {blk : Option Nat} {mid a b hi : Nat} {p : Value × TN} (h1 : mid ≤ a) (h2 : a ≤ b) (h3 : b ≤ hi) (h4 : ∀ g, blk = some g → b ≤ g ∨ g < a) (h5 : O_Int64S w a b p.1 p.2.way) : ∀ {ps : List (Value × TN)} {lo : Nat}, lo ≤ mid → FamO w blk lo mid ps → FamO w blk lo hi (ps ++ [p]) := by
  intro ps
  induction ps with
  | nil => intro lo hl _; exact ⟨a, b, by omega, h2, h3, h4, h5, trivial⟩
  | cons p' ps ih =>
    intro lo hl h
    obtain ⟨a', b', k1, k2, k3, k4, k5, k6⟩ := h
    exact ⟨a', b', k1, k2, by omega, k4, k5, ih k3 k6⟩
theorem FamO.way {w : World} {blk : Option Nat} {hi : Nat} : ∀ {ps : List (Value × TN)} {lo : Nat}, FamO w blk lo hi ps → ∀ p ∈ ps, WayAt w w.heap.size p := by
  intro ps
  induction ps with
  | nil => intro lo _ p hp; cases hp
  | cons p ps ih =>
    intro lo h
    obtain ⟨a, b, h1, h2, h3, h4, h5, h6⟩ := h
    intro p' hp
    rcases List.mem_cons.1 hp with rfl | hp
    · exact h5.r
    · exact ih h6 p' hp
theorem FamO.at_ {w : World} {blk : Option Nat} {hi : Nat} : ∀ {ps : List (Value × TN)} {lo k : Nat} {p : Value × TN}, FamO w blk lo hi ps → ps[k]? = some p → ∃ a b, lo ≤ a ∧ a ≤ b ∧ b ≤ hi ∧ (∀ g, blk = some g → b ≤ g ∨ g < a) ∧ O_Int64S w a b p.1 p.2.way := by
  intro ps
  induction ps with
  | nil => intro lo k p _ h; simp at h
  | cons p' ps ih =>
    intro lo k p h hp
    obtain ⟨a, b, h1, h2, h3, h4, h5, h6⟩ := h
    cases k with
    | zero => simp at hp; subst hp; exact ⟨a, b, h1, h2, h3, h4, h5⟩
    | succ k =>
      obtain ⟨a', b', k1, k2, k3, k4, k5⟩ := ih h6 (k := k) (p := p) (by simpa using hp)
      exact ⟨a', b', by omega, k2, k3, k4, k5⟩
/-- A list of elements, all of it the call's own. -/
def ON (T : TypeId) (m : Nat) (w : World) (lo hi : Nat) (v : Value) (x : List TN) : Prop :=
  ∃ ps : List (Value × TN), ps.map (·.2) = x ∧ OwnV T (m + 1) w lo hi v x.length (ps.flatMap (Nc m)) ∧ FamO w v.ownBlock lo hi ps ∧ SmallN x
section
variable {T : TypeId} {m : Nat} {w w' : World} {lo hi lo' hi' B : Nat} {v : Value} {x : List TN}
theorem ON.small (h : ON T m w lo hi v x) : SmallN x := by obtain ⟨_, _, _, _, h⟩ := h; exact h
theorem ON.kept (h : ON T m w lo hi v x) (k : Only lo' hi' w w') (hd : hi ≤ lo' ∨ hi' ≤ lo) : ON T m w' lo hi v x := by
  obtain ⟨ps, h1, h2, h3, h4⟩ := h
  exact ⟨ps, h1, h2.kept k hd, h3.kept k hd, h4⟩
theorem ON.below (h : ON T m w lo hi v x) (k : Below B w w') (hd : hi ≤ B) : ON T m w' lo hi v x := by
  obtain ⟨ps, h1, h2, h3, h4⟩ := h
  exact ⟨ps, h1, h2.below k hd, h3.below k hd, h4⟩
theorem ON.widen (h : ON T m w lo hi v x) (h1 : lo' ≤ lo) (h2 : hi ≤ hi') : ON T m w lo' hi' v x := by
  obtain ⟨ps, k1, k2, k3, k4⟩ := h
  exact ⟨ps, k1, k2.widen h1 h2, k3.widen h2 h1, k4⟩
theorem ON.nil (T : TypeId) (m : Nat) (w : World) (lo hi : Nat) (A : Option Addr) (c : Nat) : ON T m w lo hi (.slice A 0 c) [] := ⟨[], rfl, OwnV.nil _ _ _ _ _ _ _, trivial, by unfold SmallN; simp⟩
theorem ON.r (h : ON T m w lo hi v x) : ∃ A c, v = .slice A x.length c ∧ RN m w w.heap.size A x := by
  obtain ⟨ps, h1, h2, h3, _⟩ := h
  obtain ⟨A, c, rfl, r⟩ := h2.rd
  exact ⟨A, c, rfl, ps, h1, r, h3.way⟩
end
/-- What the marks make of the elements, and how many marks there are. -/
def mkN (m : Nat) : List TN → Int → List TN
  | [], _ => []
  | e :: es, k => ⟨mark_Int64S e.way k, if 1 ≤ m then k + e.way.length else e.p, if 2 ≤ m then k + e.way.length + 1 else e.q⟩ :: mkN m es (k + e.way.length + m)
def cntN (m : Nat) : List TN → Int
  | [] => 0
  | e :: es => e.way.length + m + cntN m es
theorem mkN_len (m : Nat) : ∀ (x : List TN) (k : Int), (mkN m x k).length = x.length := by
  intro x
  induction x with
  | nil => intro k; rfl
  | cons e es ih => intro k; rw [mkN, List.length_cons, List.length_cons, ih]
theorem mkN_sum (m : Nat) : ∀ (x : List TN) (k : Int), ((mkN m x k).map fun e => e.way.length) = x.map fun e => e.way.length := by
  intro x
  induction x with
  | nil => intro k; rfl
  | cons e es ih => intro k; rw [mkN, List.map_cons, List.map_cons, ih]; simp [mark_Int64S, marks_len]
theorem mkN_small {m : Nat} {x : List TN} {k : Int} (h : SmallN x) : SmallN (mkN m x k) := by unfold SmallN at *; rw [mkN_len, mkN_sum]; exact h
theorem mkN_append (m : Nat) : ∀ (x y : List TN) (k : Int), mkN m (x ++ y) k = mkN m x k ++ mkN m y (k + cntN m x) := by
  intro x
  induction x with
  | nil => intro y k; simp [mkN, cntN]
  | cons e es ih => intro y k; rw [List.cons_append, mkN, mkN, cntN, ih, List.cons_append]; congr 3; omega
theorem cntN_append (m : Nat) : ∀ (x y : List TN), cntN m (x ++ y) = cntN m x + cntN m y := by
  intro x
  induction x with
  | nil => intro y; simp [cntN]
  | cons e es ih => intro y; rw [List.cons_append, cntN, cntN, ih]; omega
theorem cntN_bd (m : Nat) (hm : m ≤ 2) : ∀ (x : List TN), 0 ≤ cntN m x ∧ cntN m x ≤ (x.map fun e => e.way.length).sum + 2 * (x.length : Int) := by
  intro x
  induction x with
  | nil => simp [cntN]
  | cons e es ih => rw [cntN, List.map_cons, List.sum_cons, List.length_cons]; omega
theorem mkN_get (m : Nat) : ∀ {x : List TN} {j : Nat} {e : TN} (k : Int), x[j]? = some e → (mkN m x k)[j]? = some ⟨mark_Int64S e.way (k + cntN m (x.take j)), if 1 ≤ m then k + cntN m (x.take j) + e.way.length else e.p, if 2 ≤ m then k + cntN m (x.take j) + e.way.length + 1 else e.q⟩ := by
  intro x
  induction x with
  | nil => intro j e k h; simp at h
  | cons a x ih =>
    intro j e k h
    cases j with
    | zero => simp at h; subst h; simp [mkN, cntN]
    | succ j =>
      rw [mkN, List.getElem?_cons_succ, ih _ (by simpa using h), List.take_succ_cons, cntN]
      rw [show k + a.way.length + m + cntN m (x.take j) = k + (a.way.length + m + cntN m (x.take j)) by omega]
theorem cntN_take {m : Nat} {x : List TN} {j : Nat} {e : TN} (h : x[j]? = some e) : cntN m (x.take (j + 1)) = cntN m (x.take j) + (e.way.length + m) := by
  obtain ⟨hl, he⟩ := List.getElem?_eq_some_iff.1 h
  rw [List.take_succ_eq_append_getElem hl, he, cntN_append, cntN, cntN]; omega
end Go.Proofs.Ytlkccijlbeibjaa
namespace Go.Proofs.Ytlkccijlbeibjaa
open Go.RowKit

def BoxN (w : World) (b : Nat) (cs : Array Value) (e : TypeId) : Prop := w.heap[b]? = some (.cells cs e (0, 0))
theorem BoxN.new (w : World) (cs : Array Value) (e : TypeId) : BoxN (w.alloc (.cells cs e)) w.heap.size cs e := heap_alloc_new w _
theorem BoxN.lt {w : World} {b : Nat} {cs : Array Value} {e : TypeId} (h : BoxN w b cs e) : b < w.heap.size := lt_of_block h
theorem BoxN.alloc {w : World} {b : Nat} {cs : Array Value} {e : TypeId} (h : BoxN w b cs e) (o : Obj) : BoxN (w.alloc o) b cs e := by
  have := h.lt
  unfold BoxN at *
  rw [heap_alloc_old _ _ this]; exact h
theorem BoxN.below {w w' : World} {b B : Nat} {cs : Array Value} {e : TypeId} (h : BoxN w b cs e) (k : Below B w w') (hb : b < B) : BoxN w' b cs e := (k.block b hb).trans h
theorem BoxN.cell {w : World} {b : Nat} {cs : Array Value} {e : TypeId} (h : BoxN w b cs e) (j : Nat) : w.cell? ⟨b, j, none⟩ = cs.toList[j]? := by
  rw [cell_of_row w b j cs e (0, 0) h]; simp
theorem BoxN.fro {w : World} {b : Nat} {cs : Array Value} {e : TypeId} (h : BoxN w b cs e) (j : Nat) : w.frozen? ⟨b, j, none⟩ = false := frozen_of_row w b j cs e h
theorem BoxN.set {w : World} {b : Nat} {cs : Array Value} {e : TypeId} (h : BoxN w b cs e) (j : Nat) (v : Value) : BoxN (w.setCell ⟨b, j, none⟩ v) b (cs.setIfInBounds j v) e := by
  unfold BoxN at *
  simp [World.setCell, Array.getElem?_modify, h]
theorem BoxN.other {w : World} {b b' : Nat} {cs : Array Value} {e : TypeId} (h : BoxN w b cs e) (hne : b' ≠ b) (j : Nat) (v : Value) : BoxN (w.setCell ⟨b', j, none⟩ v) b cs e := by
  unfold BoxN at *
  rw [heap_setCell_other _ ⟨b', j, none⟩ _ v (Ne.symm hne)]; exact h
theorem onlyN_set {w : World} {b j lo hi : Nat} {v : Value} (h1 : lo ≤ b) (h2 : b < hi) : Only lo hi w (w.setCell ⟨b, j, none⟩ v) :=
  ⟨rfl, rfl, rfl, by simp, fun k _ ho => heap_setCell_other w ⟨b, j, none⟩ _ v (by simp; omega)⟩
theorem eqI_refl (x : List Int) (A A2 : Option Addr) (c c2 : Nat) (w : World) (hs : x.length ≤ 9223372036854775807) (h1 : RdI w w.heap.size A x) (h2 : RdI w w.heap.size A2 x) :
    Calls Try.prog 74 #[.slice A x.length c, .slice A2 x.length c2] w fun e w' => e = .returned (.bool true) ∧ Below w.heap.size w w' := by
  have := eqInt64S_any x x A A2 c c2 w hs hs h1 h2
  rwa [decide_eq_true (rfl : x = x)] at this
def sizeN (x : List TN) : Nat := x.length + (x.map fun e => e.way.length).sum
def LenN (x : List TN) : Prop := x.length ≤ 9223372036854775807 ∧ ∀ e ∈ x, e.way.length ≤ 9223372036854775807
theorem smallN {x : List TN} (h : (sizeN x : Int) ≤ 1048576) : SmallN x := by unfold sizeN at h; unfold SmallN; omega
def zp : Value × TN := (.slice none 0 0, ⟨[], 0, 0⟩)
theorem nest_len {m n k : Nat} {ps : List (Value × TN)} (h : ps.length = k) (hk : k ≤ n) : (ps ++ List.replicate (n - k) zp).length = n := by simp; omega
theorem nest_get {n k : Nat} {ps : List (Value × TN)} (h : ps.length = k) (hk : k < n) : (ps ++ List.replicate (n - k) zp)[k]? = some zp := by
  rw [List.getElem?_append_right (by omega), List.getElem?_replicate, if_pos (by omega)]
theorem nest_set {n k : Nat} {ps : List (Value × TN)} (h : ps.length = k) (hk : k < n) (p : Value × TN) : (ps ++ List.replicate (n - k) zp).set k p = (ps ++ [p]) ++ List.replicate (n - (k + 1)) zp := by
  rw [List.set_append_right _ _ (by omega), h, Nat.sub_self, show n - k = (n - (k + 1)) + 1 by omega, List.replicate_succ, List.set_cons_zero, List.append_assoc]; rfl
theorem set_set_same {α : Type} (xs : List α) (k : Nat) (a b : α) : (xs.set k a).set k b = xs.set k b := by simp
theorem store1 {L : List (Value × TN)} {k : Nat} {y : Value × TN} (h : L[k]? = some y) (sv : Value) (e : TN) : ((L.flatMap (Nc 1)).set (k * 2) sv).set (k * 2 + 1) (.int .i64 e.p) = (L.set k (sv, e)).flatMap (Nc 1) := by
  have h1 := flatMap_set (Nc 1) 2 (fun _ => rfl) L k 0 y (sv, y.2) sv h (by omega) rfl
  rw [Nat.add_zero] at h1
  have h2 := flatMap_set (Nc 1) 2 (fun _ => rfl) (L.set k (sv, y.2)) k 1 (sv, y.2) (sv, e) (.int .i64 e.p) (List.getElem?_set_self (lt_of_get h)) (by omega) rfl
  rw [h1, h2, set_set_same]
theorem store2 {L : List (Value × TN)} {k : Nat} {y : Value × TN} (h : L[k]? = some y) (sv : Value) (e : TN) : (((L.flatMap (Nc 2)).set (k * 3) sv).set (k * 3 + 1) (.int .i64 e.p)).set (k * 3 + 2) (.int .i64 e.q) = (L.set k (sv, e)).flatMap (Nc 2) := by
  have h1 := flatMap_set (Nc 2) 3 (fun _ => rfl) L k 0 y (sv, y.2) sv h (by omega) rfl
  rw [Nat.add_zero] at h1
  have h2 := flatMap_set (Nc 2) 3 (fun _ => rfl) (L.set k (sv, y.2)) k 1 (sv, y.2) (sv, ⟨y.2.way, e.p, y.2.q⟩) (.int .i64 e.p) (List.getElem?_set_self (lt_of_get h)) (by omega) rfl
  have h3 := flatMap_set (Nc 2) 3 (fun _ => rfl) ((L.set k (sv, y.2)).set k (sv, ⟨y.2.way, e.p, y.2.q⟩)) k 2 (sv, ⟨y.2.way, e.p, y.2.q⟩) (sv, e) (.int .i64 e.q) (List.getElem?_set_self (by rw [List.length_set]; exact lt_of_get h)) (by omega) rfl
  rw [h1, h2, h3, set_set_same, set_set_same]
theorem store0 {L : List (Value × TN)} {k : Nat} {y : Value × TN} (h : L[k]? = some y) (sv : Value) (e : TN) : (L.flatMap (Nc 0)).set (k * 1) sv = (L.set k (sv, e)).flatMap (Nc 0) := by
  have h1 := flatMap_set (Nc 0) 1 (fun _ => rfl) L k 0 y (sv, e) sv h (by omega) rfl
  rw [Nat.add_zero] at h1
  exact h1
theorem szF_add {n k : Nat} {l : Int} (h : (n : Int) ≤ l) : szF (n + k) l = szF k (l - n) := by unfold szF; split <;> split <;> omega

/-! ### Int64SS -/
def R_Int64SS (w : World) (B : Nat) (v : Value) (x : List TN) : Prop := ∃ A c, v = .slice A x.length c ∧ RN 0 w B A x
def O_Int64SS (w : World) (lo hi : Nat) (v : Value) (x : List TN) : Prop := ON 22 0 w lo hi v x
theorem R_Int64SS.below {w w' : World} {B : Nat} {v : Value} {x : List TN} (h : R_Int64SS w B v x) (k : Below B w w') : R_Int64SS w' B v x := by
  obtain ⟨A, c, e, r⟩ := h; exact ⟨A, c, e, r.below k⟩
theorem R_Int64SS.more {w : World} {B B' : Nat} {v : Value} {x : List TN} (h : R_Int64SS w B v x) (k : B ≤ B') : R_Int64SS w B' v x := by
  obtain ⟨A, c, e, r⟩ := h; exact ⟨A, c, e, r.more k⟩
theorem O_Int64SS.r {w : World} {lo hi : Nat} {v : Value} {x : List TN} (h : O_Int64SS w lo hi v x) : R_Int64SS w w.heap.size v x := ON.r h
theorem O_Int64SS.small {w : World} {lo hi : Nat} {v : Value} {x : List TN} (h : O_Int64SS w lo hi v x) : SmallN x := ON.small h
theorem O_Int64SS.kept {w w' : World} {lo hi lo' hi' : Nat} {v : Value} {x : List TN} (h : O_Int64SS w lo hi v x) (k : Only lo' hi' w w') (hd : hi ≤ lo' ∨ hi' ≤ lo) : O_Int64SS w' lo hi v x := ON.kept h k hd
theorem O_Int64SS.below {w w' : World} {lo hi B : Nat} {v : Value} {x : List TN} (h : O_Int64SS w lo hi v x) (k : Below B w w') (hd : hi ≤ B) : O_Int64SS w' lo hi v x := ON.below h k hd
theorem O_Int64SS.widen {w : World} {lo hi lo' hi' : Nat} {v : Value} {x : List TN} (h : O_Int64SS w lo hi v x) (h1 : lo' ≤ lo) (h2 : hi ≤ hi') : O_Int64SS w lo' hi' v x := ON.widen h h1 h2
theorem O_Int64SS.nil (w : World) (lo hi : Nat) (A : Option Addr) (c : Nat) : O_Int64SS w lo hi (.slice A 0 c) [] := ON.nil _ _ _ _ _ _ _
def mark_Int64SS (x : List TN) (k : Int) : List TN := mkN 0 x k
def cnt_Int64SS (x : List TN) : Int := cntN 0 x
theorem O_Int64SS.cnt {w : World} {lo hi : Nat} {v : Value} {x : List TN} (h : O_Int64SS w lo hi v x) : 0 ≤ cnt_Int64SS x ∧ cnt_Int64SS x ≤ 4194304 := by
  have h1 := h.small
  have h2 := cntN_bd 0 (by omega) x
  unfold SmallN at h1
  unfold cnt_Int64SS
  omega
theorem Int64SS_info : (Try.prog.info? 22).map (fun i => (i.zero, i.size, i.bytes)) = some (some (.slice none 0 0), 1, 24) := by kernel_rfl
end Go.Proofs.Ytlkccijlbeibjaa
