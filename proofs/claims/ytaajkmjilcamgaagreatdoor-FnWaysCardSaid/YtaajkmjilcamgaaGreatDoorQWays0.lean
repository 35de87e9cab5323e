/-
  Words for memory that all walks of this seat share: what a slice reads, what is kept. Plain lemmas; no program is named.
-/
import Derived.Below
import Derived.OwnWalk
import Derived.Laws.OwnMore
import Derived.Laws.AppendOwn
import Derived.Deep.Draws
import Derived.Laws.Rows
import Derived.OneCell
import Derived.Tactics2
import Derived.Deep.QuietTactic
import Derived.Laws.MakeOwn
import Derived.Maps.AppendAt
namespace Go.Proofs.YtaajkmjilcamgaaGreatDoor
open Go.RowKit

theorem hide {p : Prop} (h : p) : Hid p := h

/-- From A on the cells hold xs; the block lies below B. -/
def Rd (w : World) (B : Nat) (A : Option Addr) (xs : List Value) : Prop :=
  xs ≠ [] → ∃ b o, A = some ⟨b, o, none⟩ ∧ b < B ∧ ∀ j u, xs[j]? = some u → w.cell? ⟨b, o + j, none⟩ = some u

section
variable {w w' : World} {B B' : Nat} {A : Option Addr} {xs : List Value}
theorem Rd.nil (w : World) (B : Nat) (A : Option Addr) : Rd w B A [] := fun h => absurd rfl h
theorem Rd.at_ (h : Rd w B A xs) {j : Nat} (hj : j < xs.length) : ∃ b o u, A = some ⟨b, o, none⟩ ∧ b < B ∧ xs[j]? = some u ∧ w.cell? ⟨b, o + j, none⟩ = some u := by
  obtain ⟨b, o, hA, hb, hc⟩ := h (by intro e; subst e; simp at hj)
  exact ⟨b, o, xs[j], hA, hb, List.getElem?_eq_getElem hj, hc j _ (List.getElem?_eq_getElem hj)⟩
theorem Rd.keep (h : Rd w B A xs) (hk : ∀ p : Addr, p.block < B → w'.cell? p = w.cell? p) : Rd w' B A xs := fun hn => by
  obtain ⟨b, o, hA, hb, hc⟩ := h hn
  exact ⟨b, o, hA, hb, fun j u hu => (hk ⟨b, o + j, none⟩ hb).trans (hc j u hu)⟩
theorem Rd.more (h : Rd w B A xs) (hB : B ≤ B') : Rd w B' A xs := fun hn => by
  obtain ⟨b, o, hA, hb, hc⟩ := h hn
  exact ⟨b, o, hA, by omega, hc⟩
theorem Rd.below (h : Rd w B A xs) (hb : Below B w w') : Rd w' B A xs := h.keep fun _ hp => hb.cell hp
theorem Rd.grown (h : Rd w B A xs) {row : Option Nat} (hg : w.grownBy w' row) (hB : B ≤ w.heap.size) (hr : ∀ g, row = some g → B ≤ g) : Rd w' B A xs :=
  h.keep fun p hp => World.cell?_of_block (hg.block p.block (by omega) (fun e => by have := hr _ e.symm; omega))
theorem Rd.of_own {base : Nat} {e : TypeId} {size n c : Nat} (h : w.ownsRow base e size (.slice A n c) n xs) : Rd w w.heap.size A xs := fun hn => by
  rcases h.2 with ⟨h', h0⟩ | ⟨g', cap', cur, h', hb, hg, _⟩
  · exact absurd (List.eq_nil_of_length_eq_zero (by rw [h.1, h0]; simp)) hn
  · simp only [Value.slice.injEq] at h'
    obtain ⟨rfl, _, rfl⟩ := h'
    refine ⟨g', 0, rfl, lt_of_block hg, fun j u hu => ?_⟩
    have := h.cells (g := g') rfl j u hu
    rw [Addr.add_lit] at this
    exact this
theorem own_shape {base : Nat} {e : TypeId} {size n : Nat} {v : Value} (h : w.ownsRow base e size v n xs) : ∃ A c, v = .slice A n c ∧ n ≤ c ∧ c ≤ maxLen := by
  rcases h.2 with ⟨rfl, rfl⟩ | ⟨g', cap', cur, rfl, hb, hg, hc, hm, _⟩
  · exact ⟨none, 0, rfl, Nat.le_refl _, by unfold maxLen; omega⟩
  · exact ⟨_, _, rfl, hc, hm⟩
end

/-- The same for a list of int64. -/
def RdI (w : World) (B : Nat) (A : Option Addr) (zs : List Int) : Prop := Rd w B A (zs.map (Value.int .i64))
section
variable {w w' : World} {B B' : Nat} {A : Option Addr} {zs : List Int}
theorem RdI.at_ (h : RdI w B A zs) {k : Nat} (hk : k < zs.length) : ∃ b o z, A = some ⟨b, o, none⟩ ∧ b < B ∧ zs[k]? = some z ∧ w.cell? ⟨b, o + k, none⟩ = some (.int .i64 z) := by
  obtain ⟨b, o, u, hA, hb, hu, hc⟩ := Rd.at_ (j := k) h (by simpa using hk)
  rw [List.getElem?_map, List.getElem?_eq_getElem hk] at hu
  simp at hu; subst hu
  exact ⟨b, o, zs[k], hA, hb, List.getElem?_eq_getElem hk, hc⟩
theorem RdI.below (h : RdI w B A zs) (hb : Below B w w') : RdI w' B A zs := Rd.below h hb
theorem RdI.more (h : RdI w B A zs) (hB : B ≤ B') : RdI w B' A zs := Rd.more h hB
theorem RdI.of_own {base : Nat} {e : TypeId} {n c : Nat} (h : w.ownsRow base e 1 (.slice A n c) n (zs.map (Value.int .i64))) : RdI w w.heap.size A zs := Rd.of_own h
end

theorem below_trans' {a b c : World} (h : Below a.heap.size a b) (k : Below b.heap.size b c) : Below a.heap.size a c := h.trans (k.mono h.size)
theorem drop_cons {α : Type} {xs : List α} {k : Nat} {x : α} (h : xs[k]? = some x) : xs.drop k = x :: xs.drop (k + 1) := by
  obtain ⟨hk, rfl⟩ := List.getElem?_eq_some_iff.1 h
  exact List.drop_eq_getElem_cons hk
theorem lt_of_get {α : Type} {xs : List α} {k : Nat} {x : α} (h : xs[k]? = some x) : k < xs.length := (List.getElem?_eq_some_iff.1 h).1
theorem ret_i {k : IntKind} {a b : Int} (h : a = b) : Ending.returned (.int k a) = .returned (.int k b) := by rw [h]
theorem ret_b {a b : Bool} (h : a = b) : Ending.returned (.bool a) = .returned (.bool b) := by rw [h]
theorem bdn {B : Nat} {a w : World} (h : Below B a w) (n : Nat) : Below B a (w.drewN n) := ⟨h.os, h.tape, h.output, h.size, h.block⟩
theorem callFunc_gen {P : Program} {F : FuncId} {fn : Func} (hf : P.funcs[F]? = some fn) (hb : fn.body.isNone = false) (hn : (fn.name == "runtime.NumGoroutine") = false) (args : Array Value) (w : World) :
    (callFunc F args).run P w = .ok (.enter F args) w := by
  have h1 : ¬ fn.name = "runtime.NumGoroutine" := by simpa using hn
  have h2 : ¬ fn.body = none := by intro e; rw [e] at hb; simp at hb
  simp [callFunc, go_sem, hf, h1, h2]
/-- Records of two, three and four numbers. -/
structure T2 where (a b : Int)
instance : DecidableEq T2 := fun x y => decidable_of_iff (x.a = y.a ∧ x.b = y.b) (by cases x; cases y; simp)
structure T3 where (a b c : Int)
instance : DecidableEq T3 := fun x y => decidable_of_iff (x.a = y.a ∧ x.b = y.b ∧ x.c = y.c) (by cases x; cases y; simp)
structure T4 where (a b c d : Int)
instance : DecidableEq T4 := fun x y => decidable_of_iff (x.a = y.a ∧ x.b = y.b ∧ x.c = y.c ∧ x.d = y.d) (by cases x; cases y; simp)
def T2.cells (x : T2) : List Value := [.int .i64 x.a, .int .i64 x.b]
def T3.cells (x : T3) : List Value := [.int .i64 x.a, .int .i64 x.b, .int .i64 x.c]
def T4.cells (x : T4) : List Value := [.int .i64 x.a, .int .i64 x.b, .int .i64 x.c, .int .i64 x.d]
theorem flatMap_get {α β : Type} (f : α → List β) (s : Nat) (hs : ∀ x, (f x).length = s) : ∀ (xs : List α) (k j : Nat) (x : α), xs[k]? = some x → j < s → (xs.flatMap f)[k * s + j]? = (f x)[j]? := by
  intro xs
  induction xs with
  | nil => intro k j x h; simp at h
  | cons y ys ih =>
    intro k j x h hj
    rw [List.flatMap_cons]
    cases k with
    | zero =>
      simp at h; subst h
      rw [List.getElem?_append_left (by rw [hs]; omega)]; simp
    | succ k =>
      rw [List.getElem?_append_right (by rw [hs, Nat.succ_mul]; omega), hs]
      rw [show (k + 1) * s + j - s = k * s + j by rw [Nat.succ_mul]; omega]
      exact ih k j x (by simpa using h) hj
theorem flatMap_len {α β : Type} (f : α → List β) (s : Nat) (hs : ∀ x, (f x).length = s) (xs : List α) : (xs.flatMap f).length = xs.length * s := by
  induction xs with
  | nil => simp
  | cons y ys ih => rw [List.flatMap_cons, List.length_append, hs, ih, List.length_cons, Nat.succ_mul]; omega
/-- Elements of s cells each. -/
theorem Rd.elem {α : Type} {w : World} {B : Nat} {A : Option Addr} {xs : List α} (f : α → List Value) (s : Nat) (hs : ∀ x, (f x).length = s) (h : Rd w B A (xs.flatMap f)) (h0 : 0 < s) {k : Nat} (hk : k < xs.length) :
    ∃ b o x, A = some ⟨b, o, none⟩ ∧ b < B ∧ xs[k]? = some x ∧ ∀ j, j < s → w.cell? ⟨b, o + k * s + j, none⟩ = (f x)[j]? := by
  have hl := flatMap_len f s hs xs
  have hx : xs.flatMap f ≠ [] := by
    intro e; rw [e] at hl
    have : 0 < xs.length * s := Nat.mul_pos (by omega) h0
    simp only [List.length_nil] at hl; omega
  obtain ⟨b, o, hA, hb, hc⟩ := h hx
  refine ⟨b, o, xs[k], hA, hb, List.getElem?_eq_getElem hk, fun j hj => ?_⟩
  have hg := flatMap_get f s hs xs k j _ (List.getElem?_eq_getElem hk) hj
  have hj' : j < (f xs[k]).length := by rw [hs]; exact hj
  rw [List.getElem?_eq_getElem hj'] at hg ⊢
  rw [Nat.add_assoc]
  exact hc _ _ hg
def Rd2 (w : World) (B : Nat) (A : Option Addr) (xs : List T2) : Prop := Rd w B A (xs.flatMap T2.cells)
theorem Rd2.at_ {w : World} {B : Nat} {A : Option Addr} {xs : List T2} (h : Rd2 w B A xs) {k : Nat} (hk : k < xs.length) :
    ∃ b o x, A = some ⟨b, o, none⟩ ∧ b < B ∧ xs[k]? = some x ∧ w.cell? ⟨b, o + k * 2, none⟩ = some (.int .i64 x.a) ∧ w.cell? ⟨b, o + k * 2 + 1, none⟩ = some (.int .i64 x.b) := by
  obtain ⟨b, o, x, hA, hb, hx, hc⟩ := Rd.elem T2.cells 2 (fun _ => rfl) h (by omega) hk
  exact ⟨b, o, x, hA, hb, hx, hc 0 (by omega), hc 1 (by omega)⟩
theorem Rd2.below {w w' : World} {B : Nat} {A : Option Addr} {xs : List T2} (h : Rd2 w B A xs) (hb : Below B w w') : Rd2 w' B A xs := Rd.below h hb
theorem Rd2.more {w : World} {B B' : Nat} {A : Option Addr} {xs : List T2} (h : Rd2 w B A xs) (hB : B ≤ B') : Rd2 w B' A xs := Rd.more h hB
theorem Rd2.of_own {w : World} {base : Nat} {e : TypeId} {A : Option Addr} {n c : Nat} {xs : List T2} (h : w.ownsRow base e 2 (.slice A n c) n (xs.flatMap T2.cells)) : Rd2 w w.heap.size A xs := Rd.of_own h
def Rd3 (w : World) (B : Nat) (A : Option Addr) (xs : List T3) : Prop := Rd w B A (xs.flatMap T3.cells)
theorem Rd3.at_ {w : World} {B : Nat} {A : Option Addr} {xs : List T3} (h : Rd3 w B A xs) {k : Nat} (hk : k < xs.length) :
    ∃ b o x, A = some ⟨b, o, none⟩ ∧ b < B ∧ xs[k]? = some x ∧ w.cell? ⟨b, o + k * 3, none⟩ = some (.int .i64 x.a) ∧ w.cell? ⟨b, o + k * 3 + 1, none⟩ = some (.int .i64 x.b) ∧ w.cell? ⟨b, o + k * 3 + 2, none⟩ = some (.int .i64 x.c) := by
  obtain ⟨b, o, x, hA, hb, hx, hc⟩ := Rd.elem T3.cells 3 (fun _ => rfl) h (by omega) hk
  exact ⟨b, o, x, hA, hb, hx, hc 0 (by omega), hc 1 (by omega), hc 2 (by omega)⟩
theorem Rd3.below {w w' : World} {B : Nat} {A : Option Addr} {xs : List T3} (h : Rd3 w B A xs) (hb : Below B w w') : Rd3 w' B A xs := Rd.below h hb
theorem Rd3.more {w : World} {B B' : Nat} {A : Option Addr} {xs : List T3} (h : Rd3 w B A xs) (hB : B ≤ B') : Rd3 w B' A xs := Rd.more h hB
theorem Rd3.of_own {w : World} {base : Nat} {e : TypeId} {A : Option Addr} {n c : Nat} {xs : List T3} (h : w.ownsRow base e 3 (.slice A n c) n (xs.flatMap T3.cells)) : Rd3 w w.heap.size A xs := Rd.of_own h
def Rd4 (w : World) (B : Nat) (A : Option Addr) (xs : List T4) : Prop := Rd w B A (xs.flatMap T4.cells)
theorem Rd4.at_ {w : World} {B : Nat} {A : Option Addr} {xs : List T4} (h : Rd4 w B A xs) {k : Nat} (hk : k < xs.length) :
    ∃ b o x, A = some ⟨b, o, none⟩ ∧ b < B ∧ xs[k]? = some x ∧ w.cell? ⟨b, o + k * 4, none⟩ = some (.int .i64 x.a) ∧ w.cell? ⟨b, o + k * 4 + 1, none⟩ = some (.int .i64 x.b) ∧ w.cell? ⟨b, o + k * 4 + 2, none⟩ = some (.int .i64 x.c) ∧ w.cell? ⟨b, o + k * 4 + 3, none⟩ = some (.int .i64 x.d) := by
  obtain ⟨b, o, x, hA, hb, hx, hc⟩ := Rd.elem T4.cells 4 (fun _ => rfl) h (by omega) hk
  exact ⟨b, o, x, hA, hb, hx, hc 0 (by omega), hc 1 (by omega), hc 2 (by omega), hc 3 (by omega)⟩
theorem Rd4.below {w w' : World} {B : Nat} {A : Option Addr} {xs : List T4} (h : Rd4 w B A xs) (hb : Below B w w') : Rd4 w' B A xs := Rd.below h hb
theorem Rd4.more {w : World} {B B' : Nat} {A : Option Addr} {xs : List T4} (h : Rd4 w B A xs) (hB : B ≤ B') : Rd4 w B' A xs := Rd.more h hB
theorem Rd4.of_own {w : World} {base : Nat} {e : TypeId} {A : Option Addr} {n c : Nat} {xs : List T4} (h : w.ownsRow base e 4 (.slice A n c) n (xs.flatMap T4.cells)) : Rd4 w w.heap.size A xs := Rd.of_own h
/-- One cell of an element is set. -/
theorem flatMap_set {α β : Type} (f : α → List β) (s : Nat) (hs : ∀ x, (f x).length = s) : ∀ (xs : List α) (k j : Nat) (x y : α) (u : β), xs[k]? = some x → j < s → f y = (f x).set j u → (xs.flatMap f).set (k * s + j) u = (xs.set k y).flatMap f := by
  intro xs
  induction xs with
  | nil => intro k j x y u h; simp at h
  | cons z zs ih =>
    intro k j x y u h hj hy
    cases k with
    | zero =>
      simp at h; subst h
      rw [List.flatMap_cons, List.set_cons_zero, List.flatMap_cons, hy, List.set_append_left _ _ (by rw [hs]; omega)]
      simp
    | succ k =>
      rw [List.flatMap_cons, List.set_cons_succ, List.flatMap_cons, List.set_append_right _ _ (by rw [hs, Nat.succ_mul]; omega), hs]
      rw [show (k + 1) * s + j - s = k * s + j by rw [Nat.succ_mul]; omega, ih k j x y u (by simpa using h) hj hy]
/-- The copy so far: the first k elements are copied, the others are zero. -/
def cp {α : Type} (z : α) (xs : List α) (k : Nat) : List α := xs.take k ++ List.replicate (xs.length - k) z
theorem cp_zero {α : Type} (z : α) (xs : List α) : cp z xs 0 = List.replicate xs.length z := by simp [cp]
theorem cp_full {α : Type} (z : α) (xs : List α) : cp z xs xs.length = xs := by simp [cp]
theorem cp_len {α : Type} (z : α) (xs : List α) (k : Nat) (hk : k ≤ xs.length) : (cp z xs k).length = xs.length := by simp [cp]; omega
theorem cp_get {α : Type} (z : α) (xs : List α) (k : Nat) (hk : k < xs.length) : (cp z xs k)[k]? = some z := by
  unfold cp
  rw [List.getElem?_append_right (by simp; omega)]
  simp only [List.length_take, List.getElem?_replicate]
  rw [if_pos (by omega)]
theorem cp_set {α : Type} (z : α) (xs : List α) (k : Nat) (x : α) (h : xs[k]? = some x) : (cp z xs k).set k x = cp z xs (k + 1) := by
  obtain ⟨hk, hx⟩ := List.getElem?_eq_some_iff.1 h
  unfold cp
  rw [List.set_append_right _ _ (by simp; omega), List.take_succ_eq_append_getElem hk, hx]
  rw [show xs.length - k = (xs.length - (k + 1)) + 1 by omega, List.replicate_succ]
  simp [List.length_take, Nat.min_eq_left (Nat.le_of_lt hk)]
theorem flatMap_replicate_get {α β : Type} (f : α → List β) (s : Nat) (hs : ∀ x, (f x).length = s) (z : α) (hs0 : 0 < s) : ∀ n i, i < n * s → ((List.replicate n z).flatMap f)[i]? = (f z)[i % s]? := by
  intro n i h
  have hk : i / s < n := by rw [Nat.div_lt_iff_lt_mul hs0]; exact h
  have := flatMap_get f s hs (List.replicate n z) (i / s) (i % s) z (by rw [List.getElem?_replicate, if_pos hk]) (Nat.mod_lt _ hs0)
  rw [← this]
  congr 1
  rw [Nat.mul_comm]; exact (Nat.div_add_mod i s).symm
theorem made_flatMap {α : Type} (f : α → List Value) (s : Nat) (hs : ∀ x, (f x).length = s) (z : α) (hs0 : 0 < s) (n : Nat) : (madeCells (f z).toArray (n * s)).toList = (List.replicate n z).flatMap f := by
  apply List.ext_getElem?
  intro i
  have hl := flatMap_len f s hs (List.replicate n z)
  rw [List.length_replicate] at hl
  rcases Nat.lt_or_ge i (n * s) with h | h
  · rw [flatMap_replicate_get f s hs z hs0 n i h]
    have hm : i % s < (f z).length := by rw [hs]; exact Nat.mod_lt _ hs0
    simp [madeCells, h, hs, List.getElem?_eq_getElem hm]
  · rw [List.getElem?_eq_none (by simp only [madeCells, Array.length_toList, Array.size_map, Array.size_range]; exact h), List.getElem?_eq_none (by rw [hl]; exact h)]
theorem made_ints (n : Nat) : (madeCells (Value.int .i64 0).cells (n * 1)).toList = (List.replicate n (0 : Int)).map (Value.int .i64) := by
  rw [Nat.mul_one]
  show (madeCells #[Value.int .i64 0] n).toList = _
  rw [toList_madeCells_one]; simp
/-- A block of the call's own, given by its slice value. -/
theorem own_block {w : World} {base : Nat} {e : TypeId} {size n c : Nat} {A : Option Addr} {xs : List Value} (h : w.ownsRow base e size (.slice A n c) n xs) :
    (A = none ∧ n = 0 ∧ c = 0) ∨ ∃ g, A = some ⟨g, 0, none⟩ ∧ base ≤ g ∧ g < w.heap.size := by
  rcases h.2 with ⟨h', h0⟩ | ⟨g, cap, cur, h', hb, hg, _⟩
  · left; simp only [Value.slice.injEq] at h'; exact ⟨h'.1, h0, h'.2.2⟩
  · right; simp only [Value.slice.injEq] at h'; exact ⟨g, h'.1, hb, lt_of_block hg⟩
/-- An own row is kept while only the memory below its base, or above, is turned. -/
theorem own_below {w w' : World} {base B : Nat} {e : TypeId} {size n : Nat} {v : Value} {xs : List Value} (h : w.ownsRow base e size v n xs) (hb : Below B w w') (hB : w.heap.size ≤ B) : w'.ownsRow base e size v n xs :=
  h.kept (row := none) ⟨hb.os, hb.tape, hb.output, hb.size, fun k hk _ => hb.block k (Nat.lt_of_lt_of_le hk hB)⟩ (by cases hv : v.ownBlock <;> simp)
theorem own_base {w : World} {base base' : Nat} {e : TypeId} {size n : Nat} {v : Value} {xs : List Value} (h : w.ownsRow base e size v n xs) (hB : base' ≤ base) : w.ownsRow base' e size v n xs := by
  refine ⟨h.1, ?_⟩
  rcases h.2 with h0 | ⟨g, cap, cur, hv, hb, rest⟩
  · exact .inl h0
  · exact .inr ⟨g, cap, cur, hv, by omega, rest⟩
/-- How much room is left behind a list of n elements. -/
def szF (n : Nat) (left : Int) : Int := if (n : Int) ≤ left then left - n else -1
theorem szF_yes {n : Nat} {left : Int} (h : (n : Int) ≤ left) : szF n left = left - n := if_pos h
theorem szF_no {n : Nat} {left : Int} (h : left < (n : Int)) : szF n left = -1 := if_neg (by omega)

theorem T2.store (xs : List T2) (k : Nat) (y : T2) (hk : k < xs.length) : ((xs.flatMap T2.cells).set (k * 2) (.int .i64 y.a)).set (k * 2 + 1) (.int .i64 y.b) = (xs.set k y).flatMap T2.cells := by
  have h0 := List.getElem?_eq_getElem hk
  have e0 := flatMap_set T2.cells 2 (fun _ => rfl) xs k 0 xs[k] ⟨y.a, xs[k].b⟩ (.int .i64 y.a) h0 (by omega) rfl
  have h1 : (xs.set k ⟨y.a, xs[k].b⟩)[k]? = some ⟨y.a, xs[k].b⟩ := by simp [hk]
  have e1 := flatMap_set T2.cells 2 (fun _ => rfl) (xs.set k ⟨y.a, xs[k].b⟩) k 1 ⟨y.a, xs[k].b⟩ ⟨y.a, y.b⟩ (.int .i64 y.b) h1 (by omega) rfl
  simp only [Nat.add_zero] at e0
  rw [e0, e1]
  simp only [List.set_set]
theorem T3.store (xs : List T3) (k : Nat) (y : T3) (hk : k < xs.length) : (((xs.flatMap T3.cells).set (k * 3) (.int .i64 y.a)).set (k * 3 + 1) (.int .i64 y.b)).set (k * 3 + 2) (.int .i64 y.c) = (xs.set k y).flatMap T3.cells := by
  have h0 := List.getElem?_eq_getElem hk
  have e0 := flatMap_set T3.cells 3 (fun _ => rfl) xs k 0 xs[k] ⟨y.a, xs[k].b, xs[k].c⟩ (.int .i64 y.a) h0 (by omega) rfl
  have h1 : (xs.set k ⟨y.a, xs[k].b, xs[k].c⟩)[k]? = some ⟨y.a, xs[k].b, xs[k].c⟩ := by simp [hk]
  have e1 := flatMap_set T3.cells 3 (fun _ => rfl) (xs.set k ⟨y.a, xs[k].b, xs[k].c⟩) k 1 ⟨y.a, xs[k].b, xs[k].c⟩ ⟨y.a, y.b, xs[k].c⟩ (.int .i64 y.b) h1 (by omega) rfl
  have h2 : ((xs.set k ⟨y.a, xs[k].b, xs[k].c⟩).set k ⟨y.a, y.b, xs[k].c⟩)[k]? = some ⟨y.a, y.b, xs[k].c⟩ := by simp [hk]
  have e2 := flatMap_set T3.cells 3 (fun _ => rfl) ((xs.set k ⟨y.a, xs[k].b, xs[k].c⟩).set k ⟨y.a, y.b, xs[k].c⟩) k 2 ⟨y.a, y.b, xs[k].c⟩ ⟨y.a, y.b, y.c⟩ (.int .i64 y.c) h2 (by omega) rfl
  simp only [Nat.add_zero] at e0
  rw [e0, e1, e2]
  simp only [List.set_set]
theorem T4.store (xs : List T4) (k : Nat) (y : T4) (hk : k < xs.length) : ((((xs.flatMap T4.cells).set (k * 4) (.int .i64 y.a)).set (k * 4 + 1) (.int .i64 y.b)).set (k * 4 + 2) (.int .i64 y.c)).set (k * 4 + 3) (.int .i64 y.d) = (xs.set k y).flatMap T4.cells := by
  have h0 := List.getElem?_eq_getElem hk
  have e0 := flatMap_set T4.cells 4 (fun _ => rfl) xs k 0 xs[k] ⟨y.a, xs[k].b, xs[k].c, xs[k].d⟩ (.int .i64 y.a) h0 (by omega) rfl
  have h1 : (xs.set k ⟨y.a, xs[k].b, xs[k].c, xs[k].d⟩)[k]? = some ⟨y.a, xs[k].b, xs[k].c, xs[k].d⟩ := by simp [hk]
  have e1 := flatMap_set T4.cells 4 (fun _ => rfl) (xs.set k ⟨y.a, xs[k].b, xs[k].c, xs[k].d⟩) k 1 ⟨y.a, xs[k].b, xs[k].c, xs[k].d⟩ ⟨y.a, y.b, xs[k].c, xs[k].d⟩ (.int .i64 y.b) h1 (by omega) rfl
  have h2 : ((xs.set k ⟨y.a, xs[k].b, xs[k].c, xs[k].d⟩).set k ⟨y.a, y.b, xs[k].c, xs[k].d⟩)[k]? = some ⟨y.a, y.b, xs[k].c, xs[k].d⟩ := by simp [hk]
  have e2 := flatMap_set T4.cells 4 (fun _ => rfl) ((xs.set k ⟨y.a, xs[k].b, xs[k].c, xs[k].d⟩).set k ⟨y.a, y.b, xs[k].c, xs[k].d⟩) k 2 ⟨y.a, y.b, xs[k].c, xs[k].d⟩ ⟨y.a, y.b, y.c, xs[k].d⟩ (.int .i64 y.c) h2 (by omega) rfl
  have h3 : (((xs.set k ⟨y.a, xs[k].b, xs[k].c, xs[k].d⟩).set k ⟨y.a, y.b, xs[k].c, xs[k].d⟩).set k ⟨y.a, y.b, y.c, xs[k].d⟩)[k]? = some ⟨y.a, y.b, y.c, xs[k].d⟩ := by simp [hk]
  have e3 := flatMap_set T4.cells 4 (fun _ => rfl) (((xs.set k ⟨y.a, xs[k].b, xs[k].c, xs[k].d⟩).set k ⟨y.a, y.b, xs[k].c, xs[k].d⟩).set k ⟨y.a, y.b, y.c, xs[k].d⟩) k 3 ⟨y.a, y.b, y.c, xs[k].d⟩ ⟨y.a, y.b, y.c, y.d⟩ (.int .i64 y.d) h3 (by omega) rfl
  simp only [Nat.add_zero] at e0
  rw [e0, e1, e2, e3]
  simp only [List.set_set]
/-- The first j elements are f 0, f 1, .., the others as in xs. -/
def mix {α : Type} (f : Nat → α) (xs : List α) (j : Nat) : List α := (List.range j).map f ++ xs.drop j
theorem mix_zero {α : Type} (f : Nat → α) (xs : List α) : mix f xs 0 = xs := by simp [mix]
theorem mix_full {α : Type} (f : Nat → α) (xs : List α) : mix f xs xs.length = (List.range xs.length).map f := by simp [mix]
theorem mix_len {α : Type} (f : Nat → α) (xs : List α) (j : Nat) (hj : j ≤ xs.length) : (mix f xs j).length = xs.length := by simp [mix]; omega
theorem mix_get {α : Type} (f : Nat → α) (xs : List α) (j : Nat) (hj : j < xs.length) : (mix f xs j)[j]? = some xs[j] := by
  unfold mix
  rw [List.getElem?_append_right (by simp)]
  simp
theorem mix_set {α : Type} (f : Nat → α) (xs : List α) (j : Nat) (hj : j < xs.length) : (mix f xs j).set j (f j) = mix f xs (j + 1) := by
  unfold mix
  rw [List.set_append_right _ _ (by simp), List.range_succ, List.drop_eq_getElem_cons hj]
  simp [-List.getElem_cons_drop]
theorem gtrans {a b c : World} {r : Option Nat} (h : a.grownBy b r) (k : b.grownBy c r) : a.grownBy c r :=
  ⟨k.os.trans h.os, k.tape.trans h.tape, k.output.trans h.output, Nat.le_trans h.size k.size, fun i hi hn => (k.block i (Nat.lt_of_lt_of_le hi h.size) hn).trans (h.block i hi hn)⟩
theorem gbelow {a b c : World} {r : Option Nat} (h : a.grownBy b r) (k : Below b.heap.size b c) : a.grownBy c r :=
  ⟨k.os.trans h.os, k.tape.trans h.tape, k.output.trans h.output, Nat.le_trans h.size k.size, fun i hi hn => (k.block i (Nat.lt_of_lt_of_le hi h.size)).trans (h.block i hi hn)⟩
theorem gdn {a b : World} {r : Option Nat} (h : a.grownBy b r) (n : Nat) : a.grownBy (b.drewN n) r := ⟨h.os, h.tape, h.output, h.size, h.block⟩
/-- The marks: 2, 3, 4 numbers an element, counted up from k. -/
def mkI (k : Int) (i : Nat) : Int := k + i
def mk2 (k : Int) (i : Nat) : T2 := ⟨k + 2 * i, k + 2 * i + 1⟩
def mk3 (k : Int) (i : Nat) : T3 := ⟨k + 3 * i, k + 3 * i + 1, k + 3 * i + 1 + 1⟩
def mk4 (k : Int) (i : Nat) : T4 := ⟨k + 4 * i, k + 4 * i + 1, k + 4 * i + 1 + 1, k + 4 * i + 1 + 1 + 1⟩
def marks {α : Type} (f : Nat → α) (n : Nat) : List α := (List.range n).map f
theorem marks_len {α : Type} (f : Nat → α) (n : Nat) : (marks f n).length = n := by simp [marks]
theorem marks_get {α : Type} (f : Nat → α) (n i : Nat) (h : i < n) : (marks f n)[i]? = some (f i) := by simp [marks, h]

/-- Is n in a range? -/
def inB (lo hi n : Int) : Bool := decide (lo ≤ n ∧ n ≤ hi)
theorem inB_iff {lo hi n : Int} : inB lo hi n = true ↔ lo ≤ n ∧ n ≤ hi := by simp [inB]
theorem inB_t {lo hi n : Int} (h : lo ≤ n ∧ n ≤ hi) : inB lo hi n = true := decide_eq_true h
theorem inB_f {lo hi n : Int} (h : n < lo ∨ hi < n) : inB lo hi n = false := decide_eq_false (by omega)
/-- A contract that leaves the world, at a call inside a region that draws. -/
theorem ql {P : Program} {f : FuncId} {args : Array Value} {w : World} {n : Nat} {v : Value}
    (h : Calls P f args (w.drewN n) fun e w' => e = .returned v ∧ w.drewN n = w') : Calls P f args (w.drewN n) fun e w'' => e = .returned v ∧ ∃ m, w'' = w.drewN m :=
  h.mono fun _ _ ⟨he, hm⟩ => ⟨he, n, hm.symm⟩
theorem qla {P : Program} {f : FuncId} {args : Array Value} {w : World} {a n : Nat} {v : Value}
    (h : Calls P f args (w.drewN (a + n)) fun e w' => e = .returned v ∧ w.drewN (a + n) = w') : Calls P f args (w.drewN (a + n)) fun e w'' => e = .returned v ∧ ∃ m, w'' = w.drewN (a + m) :=
  h.mono fun _ _ ⟨he, hm⟩ => ⟨he, n, hm.symm⟩

theorem any_not_all {α : Type} (p : α → Bool) (xs : List α) : (xs.any fun z => !p z) = !xs.all p := by
  induction xs with
  | nil => rfl
  | cons x xs ih => simp [List.any_cons, List.all_cons, ih]
theorem all_drop {α : Type} (p : α → Bool) (xs : List α) (k : Nat) (x : α) (h : xs[k]? = some x) : (xs.drop k).all p = (p x && (xs.drop (k + 1)).all p) := by
  rw [drop_cons h, List.all_cons]
theorem T2.one (x : T2) : ∀ u ∈ x.cells, u.oneCell' = true := by intro u hu; simp [T2.cells] at hu; rcases hu with rfl | rfl <;> rfl
theorem T2.ones (xs : List T2) : ∀ u ∈ xs.flatMap T2.cells, u.oneCell' = true := by intro u hu; obtain ⟨x, _, hx⟩ := List.mem_flatMap.1 hu; exact x.one u hx
def T2.Fits (x : T2) : Prop := (-9223372036854775808 ≤ x.a ∧ x.a ≤ 9223372036854775807) ∧ (-9223372036854775808 ≤ x.b ∧ x.b ≤ 9223372036854775807)
theorem T3.one (x : T3) : ∀ u ∈ x.cells, u.oneCell' = true := by intro u hu; simp [T3.cells] at hu; rcases hu with rfl | rfl | rfl <;> rfl
theorem T3.ones (xs : List T3) : ∀ u ∈ xs.flatMap T3.cells, u.oneCell' = true := by intro u hu; obtain ⟨x, _, hx⟩ := List.mem_flatMap.1 hu; exact x.one u hx
def T3.Fits (x : T3) : Prop := (-9223372036854775808 ≤ x.a ∧ x.a ≤ 9223372036854775807) ∧ (-9223372036854775808 ≤ x.b ∧ x.b ≤ 9223372036854775807) ∧ (-9223372036854775808 ≤ x.c ∧ x.c ≤ 9223372036854775807)
theorem T4.one (x : T4) : ∀ u ∈ x.cells, u.oneCell' = true := by intro u hu; simp [T4.cells] at hu; rcases hu with rfl | rfl | rfl | rfl <;> rfl
theorem T4.ones (xs : List T4) : ∀ u ∈ xs.flatMap T4.cells, u.oneCell' = true := by intro u hu; obtain ⟨x, _, hx⟩ := List.mem_flatMap.1 hu; exact x.one u hx
def T4.Fits (x : T4) : Prop := (-9223372036854775808 ≤ x.a ∧ x.a ≤ 9223372036854775807) ∧ (-9223372036854775808 ≤ x.b ∧ x.b ≤ 9223372036854775807) ∧ (-9223372036854775808 ≤ x.c ∧ x.c ≤ 9223372036854775807) ∧ (-9223372036854775808 ≤ x.d ∧ x.d ≤ 9223372036854775807)
/-! ### append onto a row of the call's own, from whatever source -/
section
variable {P : Program}
theorem run_app (w : World) (base : Nat) (t ty e : TypeId) (i : TypeInfo) (z : Value) (size bytes : Nat) (ht : P.underlying t = some (.slice e)) (hi : P.info? e = some i) (hz : i.zero = some z)
    (hsize : i.size = size) (hby : i.bytes = bytes) (hzs : z.cells.size = size) (hsz : 0 < size) (v : Value) (n : Nat) (xs : List Value) (hown : w.ownsRow base e size v n xs)
    (B : Nat) (A : Option Addr) (m c : Nat) (news : List Value) (hl : news.length = m * size) (hr : Rd w B A news) (h1 : ∀ u ∈ news, u.oneCell' = true)
    (h63 : n + m ≤ maxLen) (hbytes : (n + m) * bytes ≤ 140737488355328) (hbase : base ≤ w.heap.size) :
    ∃ v' w', (Builtin.append_ #[t, t] ty #[v, .slice A m c]).run P w = .ok v' w' ∧ w'.ownsRow base e size v' (n + m) (xs ++ news) ∧ w.grownBy w' v.ownBlock ∧
      (v'.ownBlock = v.ownBlock ∨ v'.ownBlock = some w.heap.size) := by
  cases A with
  | none =>
    have hn : news = [] := Classical.byContradiction fun hne => by obtain ⟨b, o, h, _⟩ := hr hne; cases h
    subst hn
    have hm : m = 0 := by
      rcases Nat.eq_zero_or_pos m with h0 | h0
      · exact h0
      · have := Nat.mul_pos h0 hsz; simp only [List.length_nil] at hl; omega
    subst hm
    refine ⟨v, w, ?_, by simpa using hown, World.grownBy.refl w _, .inl rfl⟩
    rcases hown.2 with ⟨rfl, rfl⟩ | ⟨g, cap, cur, rfl, _, _, hnc, _⟩
    · simp [Builtin.append_, run_underlying ht, sizeOf, typeInfo, hi, Builtin.lenOf, Builtin.firstCells]
    · simp [Builtin.append_, run_underlying ht, sizeOf, typeInfo, hi, Builtin.lenOf, Builtin.firstCells, hnc, storeCells]
  | some ad =>
    have hcells : ∀ j u, news[j]? = some u → w.cell? (ad.add j) = some u := by
      intro j u hu
      obtain ⟨b, o, hA, _, hc⟩ := hr (by intro e; subst e; simp at hu)
      obtain rfl : ad = ⟨b, o, none⟩ := by injection hA
      rw [Addr.add_lit]; exact hc j u hu
    obtain ⟨v', w', hrun, h2, h3, _, h5⟩ := run_append_own_at (P := P) w base t ty e i z size bytes ht hi hz hsize hby hzs hsz v n xs hown ad m c news hl hcells h1 h63 hbytes hbase
    exact ⟨v', w', hrun, h2, h3, h5⟩
theorem wp_app {ops : Array Oper} {rest : List Oper} {o : Oper} {a : Act} {Q : Exit → Act → World → Prop} (w : World) (hgd : o.guard = none) (s x : Operand) (t : TypeId)
    (ho : o.op = .call { callee := .builtin .append, args := #[s, x], argTypes := #[t, t] })
    (base : Nat) (e : TypeId) (i : TypeInfo) (z : Value) (size bytes : Nat) (ht : P.underlying t = some (.slice e)) (hi : P.info? e = some i) (hz : i.zero = some z)
    (hsize : i.size = size) (hby : i.bytes = bytes) (hzs : z.cells.size = size) (hsz : 0 < size)
    (v : Value) (n : Nat) (xs : List Value) (hs : a.eval s = v) (hown : w.ownsRow base e size v n xs)
    (B : Nat) (A : Option Addr) (m c : Nat) (news : List Value) (hx : a.eval x = .slice A m c) (hl : news.length = m * size) (hr : Rd w B A news) (h1 : ∀ u ∈ news, u.oneCell' = true)
    (hn : n + m ≤ 1099511627776) (hb : bytes ≤ 64) (hbase : base ≤ w.heap.size)
    (h : ∀ v' w', w'.ownsRow base e size v' (n + m) (xs ++ news) → w.grownBy w' v.ownBlock → (v'.ownBlock = v.ownBlock ∨ v'.ownBlock = some w.heap.size) → wpList P ops Q rest (a.put o.dst v') w') :
    wpList P ops Q (o :: rest) a w :=
  wpList_plain hgd fun K hK => by
    obtain ⟨v', w', hrun, h2, h3, h4⟩ := run_app (P := P) w base t o.type e i z size bytes ht hi hz hsize hby hzs hsz v n xs hown B A m c news hl hr h1 (by unfold maxLen; omega)
      (Nat.le_trans (Nat.mul_le_mul hn hb) (by omega)) hbase
    unfold Oper.wp execOp
    simp only [ho, resolve, invoke, builtin, Sem.run_bind, Sem.run_pure, Result.andThen_ok, List.map_toArray, List.map_cons, List.map_nil, hs, hx, hrun]
    exact hK _ _ (h v' w' h2 h3 h4)
end
/-- The one element that append(out, x) lays in a block of its own. -/
theorem rd_new (w : World) (cs : List Value) (e : TypeId) (g : Nat) (hg : g = w.heap.size) : Rd (w.alloc (.cells cs.toArray e)) (g + 1) (some ⟨g, 0, none⟩) cs := fun hn => by
  subst hg
  refine ⟨w.heap.size, 0, rfl, by omega, fun j u hu => ?_⟩
  have := heap_alloc_new w (.cells cs.toArray e)
  rw [cell_of_row (w.alloc (.cells cs.toArray e)) w.heap.size (0 + j) cs.toArray e (0, 0) this]
  simpa using hu
theorem int_one (z : Int) : ∀ u ∈ [Value.int .i64 z], u.oneCell' = true := by intro u hu; simp at hu; subst hu; rfl
theorem ints_one (zs : List Int) : ∀ u ∈ zs.map (Value.int .i64), u.oneCell' = true := ints_oneCell _ _
theorem own_new0 (w : World) (base : Nat) (e : TypeId) (size : Nat) (hb : base ≤ w.heap.size) : (w.alloc (.cells #[] e)).ownsRow base e size (.slice (some ⟨w.heap.size, 0, none⟩) 0 0) 0 [] := by
  have := World.ownsRow_lit (e := e) (size := size) w #[] 0 hb (Nat.zero_le _) (by simp)
  simpa using this
/-- Behind an append: the memory below the row's base is as it was. -/
theorem app_below {B base : Nat} {w0 w w' : World} {e : TypeId} {size n : Nat} {v : Value} {xs : List Value} (h : Below B w0 w) (hown : w.ownsRow base e size v n xs) (hg : w.grownBy w' v.ownBlock) (hB : B ≤ base) (hB' : B ≤ w.heap.size) : Below B w0 w' :=
  h.grown hg hB' fun k hk => by have := hown.lt k hk; omega

/-- The indices, from k on, of the elements with p. -/
def idxFrom {α : Type} (p : α → Bool) : List α → Nat → List Int
  | [], _ => []
  | x :: xs, k => if p x then (k : Int) :: idxFrom p xs (k + 1) else idxFrom p xs (k + 1)
theorem idxFrom_len {α : Type} (p : α → Bool) (xs : List α) : ∀ k, (idxFrom p xs k).length ≤ xs.length := by
  induction xs with
  | nil => intro k; simp [idxFrom]
  | cons x xs ih =>
    intro k; unfold idxFrom
    have := ih (k + 1)
    split <;> simp <;> omega
/-- The first index with p, or -1. -/
def firstI {α : Type} (p : α → Bool) : List α → Nat → Int
  | [], _ => -1
  | x :: xs, k => if p x then (k : Int) else firstI p xs (k + 1)
theorem firstI_ge {α : Type} (p : α → Bool) (xs : List α) (k : Nat) : (decide (0 ≤ firstI p xs k)) = xs.any p := by
  induction xs generalizing k with
  | nil => simp [firstI]
  | cons x xs ih =>
    unfold firstI
    by_cases h : p x = true
    · simp [h]
    · simp only [h, Bool.false_eq_true, ↓reduceIte, List.any_cons, Bool.false_or]; exact ih _
end Go.Proofs.YtaajkmjilcamgaaGreatDoor
