/-
  Lists whose elements hold a list of numbers and up to two numbers more: what a slice of them reads, and what is the call's own. Plain lemmas.
  The laws' words and helpers for lists whose elements hold a list of numbers, by contract.
  The arguments of a law, opened into the words of the walks: slices of numbers and of records. Printed by gen_open.py. No program is named.
  The parameter 'code []byte' of a law: what it reads.
-/
import Derived.Test.YtaajkmjilcamgaaGreatDoorQWays1
import Derived.Deep.RegionHeld3
import Derived.Test.YtaajkmjilcamgaaGreatDoorQWays0
import Derived.ProofKit
import Derived.OpenShut
import Derived.Deep.Slices
import Derived.Deep.Fields
import Derived.ChangeOld
namespace Go.Proofs.YtaajkmjilcamgaaGreatDoor
open Go.RowKit

structure TN where
  way : List Int
  p : Int
  q : Int
def TN.Fits (x : TN) : Prop := (∀ z ∈ x.way, -9223372036854775808 ≤ z ∧ z ≤ 9223372036854775807) ∧ (-9223372036854775808 ≤ x.p ∧ x.p ≤ 9223372036854775807) ∧ (-9223372036854775808 ≤ x.q ∧ x.q ≤ 9223372036854775807)
/-- The cells of an element: its slice's value, and m numbers. -/
def Nc (m : Nat) (x : Value × TN) : List Value := x.1 :: [Value.int .i64 x.2.p, .int .i64 x.2.q].take m
theorem Nc_len {m : Nat} (hm : m ≤ 2) (x : Value × TN) : (Nc m x).length = m + 1 := by simp [Nc]; omega
def WayAt (w : World) (B : Nat) (p : Value × TN) : Prop := ∃ A c, p.1 = .slice A p.2.way.length c ∧ RdI w B A p.2.way
def RN (m : Nat) (w : World) (B : Nat) (A : Option Addr) (x : List TN) : Prop := ∃ ps : List (Value × TN), ps.map (·.2) = x ∧ Rd w B A (ps.flatMap (Nc m)) ∧ ∀ p ∈ ps, WayAt w B p
section
variable {m : Nat} {w w' : World} {B B' : Nat} {A : Option Addr} {x : List TN}
theorem RN.nil (m : Nat) (w : World) (B : Nat) (A : Option Addr) : RN m w B A [] := ⟨[], rfl, Rd.nil _ _ _, fun p hp => by cases hp⟩
theorem RN.below (h : RN m w B A x) (k : Below B w w') : RN m w' B A x := by
  obtain ⟨ps, h1, h2, h3⟩ := h
  refine ⟨ps, h1, h2.below k, fun p hp => ?_⟩
  obtain ⟨A', c, e, r⟩ := h3 p hp
  exact ⟨A', c, e, r.below k⟩
theorem RN.more (h : RN m w B A x) (k : B ≤ B') : RN m w B' A x := by
  obtain ⟨ps, h1, h2, h3⟩ := h
  refine ⟨ps, h1, h2.more k, fun p hp => ?_⟩
  obtain ⟨A', c, e, r⟩ := h3 p hp
  exact ⟨A', c, e, r.more k⟩
theorem RN.at_ (hm : m ≤ 2) (h : RN m w B A x) {k : Nat} (hk : k < x.length) : ∃ b o e Aw cw, A = some ⟨b, o, none⟩ ∧ b < B ∧ x[k]? = some e ∧ RdI w B Aw e.way ∧ w.cell? ⟨b, o + k * (m + 1), none⟩ = some (.slice Aw e.way.length cw) ∧
    (1 ≤ m → w.cell? ⟨b, o + k * (m + 1) + 1, none⟩ = some (.int .i64 e.p)) ∧ (2 ≤ m → w.cell? ⟨b, o + k * (m + 1) + 2, none⟩ = some (.int .i64 e.q)) := by
  obtain ⟨ps, h1, h2, h3⟩ := h
  have hl : ps.length = x.length := by rw [← h1]; simp
  obtain ⟨b, o, p, hA, hb, hp, hc⟩ := Rd.elem (Nc m) (m + 1) (Nc_len hm) h2 (by omega) (k := k) (by omega)
  obtain ⟨Aw, cw, he, hr⟩ := h3 p (List.mem_of_getElem? hp)
  refine ⟨b, o, p.2, Aw, cw, hA, hb, by rw [← h1, List.getElem?_map, hp]; rfl, hr, ?_, fun h => ?_, fun h => ?_⟩
  · have := hc 0 (by omega); rw [Nat.add_zero] at this; rw [this, ← he]; rfl
  · have := hc 1 (by omega)
    rw [this]
    match m, h, hm with
    | 1, _, _ => rfl
    | 2, _, _ => rfl
  · have := hc 2 (by omega)
    rw [this]
    obtain rfl : m = 2 := by omega
    rfl
end
def SmallN (x : List TN) : Prop := x.length + (x.map fun e => e.way.length).sum ≤ 1048576
theorem sum_get {x : List TN} : ∀ {k : Nat} {e : TN}, x[k]? = some e → e.way.length ≤ (x.map fun e => e.way.length).sum := by
  induction x with
  | nil => intro k e h; simp at h
  | cons a x ih =>
    intro k e h
    rw [List.map_cons, List.sum_cons]
    cases k with
    | zero => simp at h; subst h; omega
    | succ k => have := ih (k := k) (by simpa using h); omega
theorem SmallN.way {x : List TN} (h : SmallN x) {k : Nat} {e : TN} (he : x[k]? = some e) : e.way.length ≤ 1048576 := by
  have := sum_get he; unfold SmallN at h; omega
theorem Only.wider {lo hi lo' hi' : Nat} {w w' : World} (h : Only lo hi w w') (h1 : lo' ≤ lo) (h2 : hi ≤ hi') : Only lo' hi' w w' :=
  ⟨h.1, h.2.1, h.2.2.1, h.2.2.2.1, fun k hk ho => h.2.2.2.2 k hk (by omega)⟩
theorem OwnV.tight {e : TypeId} {s : Nat} {w : World} {lo hi g : Nat} {v : Value} {n : Nat} {xs : List Value} (h : OwnV e s w lo hi v n xs) (hg : v.ownBlock = some g) : OwnV e s w g (g + 1) v n xs := by
  refine ⟨h.1, h.2.1, ?_⟩
  rcases h.2.2 with h0 | ⟨ho, hlt⟩
  · exact .inl h0
  · refine .inr ⟨⟨ho.1, ?_⟩, fun g' hg' => by rw [hg] at hg'; cases hg'; omega⟩
    rcases ho.2 with h0 | ⟨g', cap, cur, rfl, hb, hgg, rest⟩
    · exact .inl h0
    · simp [Value.ownBlock] at hg
      subst hg
      exact .inr ⟨g', cap, cur, rfl, Nat.le_refl _, hgg, rest⟩
/-- The elements' lists are rows of the call's own, one behind the other, none in the block. -/
def FamO (w : World) (blk : Option Nat) : Nat → Nat → List (Value × TN) → Prop
  | _, _, [] => True
  | lo, hi, p :: ps => ∃ a b, lo ≤ a ∧ a ≤ b ∧ b ≤ hi ∧ (∀ g, blk = some g → b ≤ g ∨ g < a) ∧ O_Int64S w a b p.1 p.2.way ∧ FamO w blk b hi ps
theorem FamO.kept {w w' : World} {blk : Option Nat} {lo' hi' hi : Nat} (k : Only lo' hi' w w') : ∀ {ps : List (Value × TN)} {lo : Nat}, FamO w blk lo hi ps → (hi ≤ lo' ∨ hi' ≤ lo) → FamO w' blk lo hi ps := by
  intro ps
  induction ps with
  | nil => intro lo _ _; trivial
  | cons p ps ih =>
    intro lo h hd
    obtain ⟨a, b, h1, h2, h3, h4, h5, h6⟩ := h
    exact ⟨a, b, h1, h2, h3, h4, h5.kept k (by omega), ih h6 (by omega)⟩
theorem FamO.keptB {w w' : World} {g hi : Nat} (k : Only g (g + 1) w w') : ∀ {ps : List (Value × TN)} {lo : Nat}, FamO w (some g) lo hi ps → FamO w' (some g) lo hi ps := by
  intro ps
  induction ps with
  | nil => intro lo _; trivial
  | cons p ps ih =>
    intro lo h
    obtain ⟨a, b, h1, h2, h3, h4, h5, h6⟩ := h
    exact ⟨a, b, h1, h2, h3, h4, h5.kept k (by have := h4 g rfl; omega), ih h6⟩
theorem FamO.below {w w' : World} {blk : Option Nat} {B hi : Nat} (k : Below B w w') (hB : hi ≤ B) : ∀ {ps : List (Value × TN)} {lo : Nat}, FamO w blk lo hi ps → FamO w' blk lo hi ps := by
  intro ps
  induction ps with
  | nil => intro lo _; trivial
  | cons p ps ih =>
    intro lo h
    obtain ⟨a, b, h1, h2, h3, h4, h5, h6⟩ := h
    exact ⟨a, b, h1, h2, h3, h4, h5.below k (by omega), ih h6⟩
theorem FamO.widen {w : World} {blk : Option Nat} {hi hi' : Nat} (k2 : hi ≤ hi') : ∀ {ps : List (Value × TN)} {lo lo' : Nat}, FamO w blk lo hi ps → lo' ≤ lo → FamO w blk lo' hi' ps := by
  intro ps
  induction ps with
  | nil => intro lo lo' _ _; trivial
  | cons p ps ih =>
    intro lo lo' h k1
    obtain ⟨a, b, h1, h2, h3, h4, h5, h6⟩ := h
    exact ⟨a, b, by omega, h2, by omega, h4, h5, ih h6 (Nat.le_refl _)⟩
theorem FamO.blk {w : World} {blk blk' : Option Nat} {hi : Nat} : ∀ {ps : List (Value × TN)} {lo : Nat}, FamO w blk lo hi ps → (∀ g, blk' = some g → hi ≤ g ∨ g < lo) → FamO w blk' lo hi ps := by
  intro ps
  induction ps with
  | nil => intro lo _ _; trivial
  | cons p ps ih =>
    intro lo h k
    obtain ⟨a, b, h1, h2, h3, h4, h5, h6⟩ := h
    exact ⟨a, b, h1, h2, h3, fun g hg => by have := k g hg; omega, h5, ih h6 fun g hg => by have := k g hg; omega⟩
theorem FamO.snoc {w : World} {blk : Option Nat} {mid a b hi : Nat} {p : Value × TN} (h1 : mid ≤ a) (h2 : a ≤ b) (h3 : b ≤ hi) (h4 : ∀ g, blk = some g → b ≤ g ∨ g < a) (h5 : O_Int64S w a b p.1 p.2.way) : ∀ {ps : List (Value × TN)} {lo : Nat}, lo ≤ mid → FamO w blk lo mid ps → FamO w blk lo hi (ps ++ [p]) := by
  intro ps
  induction ps with
  | nil => intro lo hl _; exact ⟨a, b, by omega, h2, h3, h4, h5, trivial⟩
  | cons p' ps ih =>
    intro lo hl h
    obtain ⟨a', b', k1, k2, k3, k4, k5, k6⟩ := h
    exact ⟨a', b', k1, k2, by omega, k4, k5, ih k3 k6⟩
theorem FamO.way {w : World} {blk : Option Nat} {hi : Nat} : ∀ {ps : List (Value × TN)} {lo : Nat}, FamO w blk lo hi ps → ∀ p ∈ ps, WayAt w w.heap.size p := by
  intro ps
  induction ps with
  | nil => intro lo _ p hp; cases hp
  | cons p ps ih =>
    intro lo h
    obtain ⟨a, b, h1, h2, h3, h4, h5, h6⟩ := h
    intro p' hp
    rcases List.mem_cons.1 hp with rfl | hp
    · exact h5.r
    · exact ih h6 p' hp
theorem FamO.at_ {w : World} {blk : Option Nat} {hi : Nat} : ∀ {ps : List (Value × TN)} {lo k : Nat} {p : Value × TN}, FamO w blk lo hi ps → ps[k]? = some p → ∃ a b, lo ≤ a ∧ a ≤ b ∧ b ≤ hi ∧ (∀ g, blk = some g → b ≤ g ∨ g < a) ∧ O_Int64S w a b p.1 p.2.way := by
  intro ps
  induction ps with
  | nil => intro lo k p _ h; simp at h
  | cons p' ps ih =>
    intro lo k p h hp
    obtain ⟨a, b, h1, h2, h3, h4, h5, h6⟩ := h
    cases k with
    | zero => simp at hp; subst hp; exact ⟨a, b, h1, h2, h3, h4, h5⟩
    | succ k =>
      obtain ⟨a', b', k1, k2, k3, k4, k5⟩ := ih h6 (k := k) (p := p) (by simpa using hp)
      exact ⟨a', b', by omega, k2, k3, k4, k5⟩
/-- A list of elements, all of it the call's own. -/
def ON (T : TypeId) (m : Nat) (w : World) (lo hi : Nat) (v : Value) (x : List TN) : Prop :=
  ∃ ps : List (Value × TN), ps.map (·.2) = x ∧ OwnV T (m + 1) w lo hi v x.length (ps.flatMap (Nc m)) ∧ FamO w v.ownBlock lo hi ps ∧ SmallN x
section
variable {T : TypeId} {m : Nat} {w w' : World} {lo hi lo' hi' B : Nat} {v : Value} {x : List TN}
theorem ON.small (h : ON T m w lo hi v x) : SmallN x := by obtain ⟨_, _, _, _, h⟩ := h; exact h
theorem ON.kept (h : ON T m w lo hi v x) (k : Only lo' hi' w w') (hd : hi ≤ lo' ∨ hi' ≤ lo) : ON T m w' lo hi v x := by
  obtain ⟨ps, h1, h2, h3, h4⟩ := h
  exact ⟨ps, h1, h2.kept k hd, h3.kept k hd, h4⟩
theorem ON.below (h : ON T m w lo hi v x) (k : Below B w w') (hd : hi ≤ B) : ON T m w' lo hi v x := by
  obtain ⟨ps, h1, h2, h3, h4⟩ := h
  exact ⟨ps, h1, h2.below k hd, h3.below k hd, h4⟩
theorem ON.widen (h : ON T m w lo hi v x) (h1 : lo' ≤ lo) (h2 : hi ≤ hi') : ON T m w lo' hi' v x := by
  obtain ⟨ps, k1, k2, k3, k4⟩ := h
  exact ⟨ps, k1, k2.widen h1 h2, k3.widen h2 h1, k4⟩
theorem ON.nil (T : TypeId) (m : Nat) (w : World) (lo hi : Nat) (A : Option Addr) (c : Nat) : ON T m w lo hi (.slice A 0 c) [] := ⟨[], rfl, OwnV.nil _ _ _ _ _ _ _, trivial, by unfold SmallN; simp⟩
theorem ON.r (h : ON T m w lo hi v x) : ∃ A c, v = .slice A x.length c ∧ RN m w w.heap.size A x := by
  obtain ⟨ps, h1, h2, h3, _⟩ := h
  obtain ⟨A, c, rfl, r⟩ := h2.rd
  exact ⟨A, c, rfl, ps, h1, r, h3.way⟩
end
/-- What the marks make of the elements, and how many marks there are. -/
def mkN (m : Nat) : List TN → Int → List TN
  | [], _ => []
  | e :: es, k => ⟨mark_Int64S e.way k, if 1 ≤ m then k + e.way.length else e.p, if 2 ≤ m then k + e.way.length + 1 else e.q⟩ :: mkN m es (k + e.way.length + m)
def cntN (m : Nat) : List TN → Int
  | [] => 0
  | e :: es => e.way.length + m + cntN m es
theorem mkN_len (m : Nat) : ∀ (x : List TN) (k : Int), (mkN m x k).length = x.length := by
  intro x
  induction x with
  | nil => intro k; rfl
  | cons e es ih => intro k; rw [mkN, List.length_cons, List.length_cons, ih]
theorem mkN_sum (m : Nat) : ∀ (x : List TN) (k : Int), ((mkN m x k).map fun e => e.way.length) = x.map fun e => e.way.length := by
  intro x
  induction x with
  | nil => intro k; rfl
  | cons e es ih => intro k; rw [mkN, List.map_cons, List.map_cons, ih]; simp [mark_Int64S, marks_len]
theorem mkN_small {m : Nat} {x : List TN} {k : Int} (h : SmallN x) : SmallN (mkN m x k) := by unfold SmallN at *; rw [mkN_len, mkN_sum]; exact h
theorem mkN_append (m : Nat) : ∀ (x y : List TN) (k : Int), mkN m (x ++ y) k = mkN m x k ++ mkN m y (k + cntN m x) := by
  intro x
  induction x with
  | nil => intro y k; simp [mkN, cntN]
  | cons e es ih => intro y k; rw [List.cons_append, mkN, mkN, cntN, ih, List.cons_append]; congr 3; omega
theorem cntN_append (m : Nat) : ∀ (x y : List TN), cntN m (x ++ y) = cntN m x + cntN m y := by
  intro x
  induction x with
  | nil => intro y; simp [cntN]
  | cons e es ih => intro y; rw [List.cons_append, cntN, cntN, ih]; omega
theorem cntN_bd (m : Nat) (hm : m ≤ 2) : ∀ (x : List TN), 0 ≤ cntN m x ∧ cntN m x ≤ (x.map fun e => e.way.length).sum + 2 * (x.length : Int) := by
  intro x
  induction x with
  | nil => simp [cntN]
  | cons e es ih => rw [cntN, List.map_cons, List.sum_cons, List.length_cons]; omega
theorem mkN_get (m : Nat) : ∀ {x : List TN} {j : Nat} {e : TN} (k : Int), x[j]? = some e → (mkN m x k)[j]? = some ⟨mark_Int64S e.way (k + cntN m (x.take j)), if 1 ≤ m then k + cntN m (x.take j) + e.way.length else e.p, if 2 ≤ m then k + cntN m (x.take j) + e.way.length + 1 else e.q⟩ := by
  intro x
  induction x with
  | nil => intro j e k h; simp at h
  | cons a x ih =>
    intro j e k h
    cases j with
    | zero => simp at h; subst h; simp [mkN, cntN]
    | succ j =>
      rw [mkN, List.getElem?_cons_succ, ih _ (by simpa using h), List.take_succ_cons, cntN]
      rw [show k + a.way.length + m + cntN m (x.take j) = k + (a.way.length + m + cntN m (x.take j)) by omega]
theorem cntN_take {m : Nat} {x : List TN} {j : Nat} {e : TN} (h : x[j]? = some e) : cntN m (x.take (j + 1)) = cntN m (x.take j) + (e.way.length + m) := by
  obtain ⟨hl, he⟩ := List.getElem?_eq_some_iff.1 h
  rw [List.take_succ_eq_append_getElem hl, he, cntN_append, cntN, cntN]; omega
end Go.Proofs.YtaajkmjilcamgaaGreatDoor
namespace Go.Proofs.YtaajkmjilcamgaaGreatDoor
open Go.RowKit

def BoxN (w : World) (b : Nat) (cs : Array Value) (e : TypeId) : Prop := w.heap[b]? = some (.cells cs e (0, 0))
theorem BoxN.new (w : World) (cs : Array Value) (e : TypeId) : BoxN (w.alloc (.cells cs e)) w.heap.size cs e := heap_alloc_new w _
theorem BoxN.lt {w : World} {b : Nat} {cs : Array Value} {e : TypeId} (h : BoxN w b cs e) : b < w.heap.size := lt_of_block h
theorem BoxN.alloc {w : World} {b : Nat} {cs : Array Value} {e : TypeId} (h : BoxN w b cs e) (o : Obj) : BoxN (w.alloc o) b cs e := by
  have := h.lt
  unfold BoxN at *
  rw [heap_alloc_old _ _ this]; exact h
theorem BoxN.below {w w' : World} {b B : Nat} {cs : Array Value} {e : TypeId} (h : BoxN w b cs e) (k : Below B w w') (hb : b < B) : BoxN w' b cs e := (k.block b hb).trans h
theorem BoxN.cell {w : World} {b : Nat} {cs : Array Value} {e : TypeId} (h : BoxN w b cs e) (j : Nat) : w.cell? ⟨b, j, none⟩ = cs.toList[j]? := by
  rw [cell_of_row w b j cs e (0, 0) h]; simp
theorem BoxN.fro {w : World} {b : Nat} {cs : Array Value} {e : TypeId} (h : BoxN w b cs e) (j : Nat) : w.frozen? ⟨b, j, none⟩ = false := frozen_of_row w b j cs e h
theorem BoxN.set {w : World} {b : Nat} {cs : Array Value} {e : TypeId} (h : BoxN w b cs e) (j : Nat) (v : Value) : BoxN (w.setCell ⟨b, j, none⟩ v) b (cs.setIfInBounds j v) e := by
  unfold BoxN at *
  simp [World.setCell, Array.getElem?_modify, h]
theorem BoxN.other {w : World} {b b' : Nat} {cs : Array Value} {e : TypeId} (h : BoxN w b cs e) (hne : b' ≠ b) (j : Nat) (v : Value) : BoxN (w.setCell ⟨b', j, none⟩ v) b cs e := by
  unfold BoxN at *
  rw [heap_setCell_other _ ⟨b', j, none⟩ _ v (Ne.symm hne)]; exact h
theorem onlyN_set {w : World} {b j lo hi : Nat} {v : Value} (h1 : lo ≤ b) (h2 : b < hi) : Only lo hi w (w.setCell ⟨b, j, none⟩ v) :=
  ⟨rfl, rfl, rfl, by simp, fun k _ ho => heap_setCell_other w ⟨b, j, none⟩ _ v (by simp; omega)⟩
def sizeN (x : List TN) : Nat := x.length + (x.map fun e => e.way.length).sum
def LenN (x : List TN) : Prop := x.length ≤ 9223372036854775807 ∧ ∀ e ∈ x, e.way.length ≤ 9223372036854775807
theorem smallN {x : List TN} (h : (sizeN x : Int) ≤ 1048576) : SmallN x := by unfold sizeN at h; unfold SmallN; omega
def zp : Value × TN := (.slice none 0 0, ⟨[], 0, 0⟩)
theorem nest_len {m n k : Nat} {ps : List (Value × TN)} (h : ps.length = k) (hk : k ≤ n) : (ps ++ List.replicate (n - k) zp).length = n := by simp; omega
theorem nest_get {n k : Nat} {ps : List (Value × TN)} (h : ps.length = k) (hk : k < n) : (ps ++ List.replicate (n - k) zp)[k]? = some zp := by
  rw [List.getElem?_append_right (by omega), List.getElem?_replicate, if_pos (by omega)]
theorem nest_set {n k : Nat} {ps : List (Value × TN)} (h : ps.length = k) (hk : k < n) (p : Value × TN) : (ps ++ List.replicate (n - k) zp).set k p = (ps ++ [p]) ++ List.replicate (n - (k + 1)) zp := by
  rw [List.set_append_right _ _ (by omega), h, Nat.sub_self, show n - k = (n - (k + 1)) + 1 by omega, List.replicate_succ, List.set_cons_zero, List.append_assoc]; rfl
theorem set_set_same {α : Type} (xs : List α) (k : Nat) (a b : α) : (xs.set k a).set k b = xs.set k b := by simp
theorem store1 {L : List (Value × TN)} {k : Nat} {y : Value × TN} (h : L[k]? = some y) (sv : Value) (e : TN) : ((L.flatMap (Nc 1)).set (k * 2) sv).set (k * 2 + 1) (.int .i64 e.p) = (L.set k (sv, e)).flatMap (Nc 1) := by
  have h1 := flatMap_set (Nc 1) 2 (fun _ => rfl) L k 0 y (sv, y.2) sv h (by omega) rfl
  rw [Nat.add_zero] at h1
  have h2 := flatMap_set (Nc 1) 2 (fun _ => rfl) (L.set k (sv, y.2)) k 1 (sv, y.2) (sv, e) (.int .i64 e.p) (List.getElem?_set_self (lt_of_get h)) (by omega) rfl
  rw [h1, h2, set_set_same]
theorem store2 {L : List (Value × TN)} {k : Nat} {y : Value × TN} (h : L[k]? = some y) (sv : Value) (e : TN) : (((L.flatMap (Nc 2)).set (k * 3) sv).set (k * 3 + 1) (.int .i64 e.p)).set (k * 3 + 2) (.int .i64 e.q) = (L.set k (sv, e)).flatMap (Nc 2) := by
  have h1 := flatMap_set (Nc 2) 3 (fun _ => rfl) L k 0 y (sv, y.2) sv h (by omega) rfl
  rw [Nat.add_zero] at h1
  have h2 := flatMap_set (Nc 2) 3 (fun _ => rfl) (L.set k (sv, y.2)) k 1 (sv, y.2) (sv, ⟨y.2.way, e.p, y.2.q⟩) (.int .i64 e.p) (List.getElem?_set_self (lt_of_get h)) (by omega) rfl
  have h3 := flatMap_set (Nc 2) 3 (fun _ => rfl) ((L.set k (sv, y.2)).set k (sv, ⟨y.2.way, e.p, y.2.q⟩)) k 2 (sv, ⟨y.2.way, e.p, y.2.q⟩) (sv, e) (.int .i64 e.q) (List.getElem?_set_self (by rw [List.length_set]; exact lt_of_get h)) (by omega) rfl
  rw [h1, h2, h3, set_set_same, set_set_same]
theorem store0 {L : List (Value × TN)} {k : Nat} {y : Value × TN} (h : L[k]? = some y) (sv : Value) (e : TN) : (L.flatMap (Nc 0)).set (k * 1) sv = (L.set k (sv, e)).flatMap (Nc 0) := by
  have h1 := flatMap_set (Nc 0) 1 (fun _ => rfl) L k 0 y (sv, e) sv h (by omega) rfl
  rw [Nat.add_zero] at h1
  exact h1
theorem szF_add {n k : Nat} {l : Int} (h : (n : Int) ≤ l) : szF (n + k) l = szF k (l - n) := by unfold szF; split <;> split <;> omega

end Go.Proofs.YtaajkmjilcamgaaGreatDoor
namespace Go.Proofs.YtaajkmjilcamgaaGreatDoor
open Go.ChangeShapes Go.WideShapes Go.ChangeAt Go.RowKit Go.Deep

theorem wf64 {z : Int} (h : (Lit.int .i64 z).wf = true) : -9223372036854775808 ≤ z ∧ z ≤ 9223372036854775807 := by
  simp [Lit.wf, IntKind.min, IntKind.max, IntKind.signed, IntKind.bits] at h
  exact ⟨by omega, by omega⟩

section
variable {w : World}
theorem addr_of_cell {a : Addr} {u : Value} (h : w.cell? a = some u) : a = ⟨a.block, a.off, none⟩ := by
  obtain ⟨b, o, s⟩ := a
  have := World.cell?_spot h
  simp at this; subst this; rfl
theorem rd_of_cells {a : Addr} {xs : List Value} (h : ∀ j, j < xs.length → w.cell? (a.add j) = xs[j]?) : Rd w w.heap.size (some a) xs := fun hn => by
  have hl : 0 < xs.length := List.length_pos_iff.2 hn
  have h0 := h 0 hl
  rw [List.getElem?_eq_getElem hl] at h0
  have ha : a.add 0 = a := by simp [Addr.add]
  rw [ha] at h0
  have e := addr_of_cell h0
  have hlt := World.block_lt_of_cell? w _ h0
  refine ⟨a.block, a.off, by rw [← e], hlt, fun j u hu => ?_⟩
  have hj := (List.getElem?_eq_some_iff.1 hu).1
  have := h j hj
  rw [e, Addr.add_lit] at this
  rw [this, hu]
theorem rd_family {α : Type} (f : α → List Value) (s : Nat) (hs : ∀ x, (f x).length = s) (hs0 : 0 < s) (X : Nat → α) (len : Nat) {a : Addr} (h : ∀ i, i < len → ∀ j, j < s → w.cell? (a.add (i * s + j)) = (f (X i))[j]?) :
    Rd w w.heap.size (some a) (((List.range len).map X).flatMap f) := by
  refine rd_of_cells fun q hq => ?_
  rw [flatMap_len f s hs] at hq
  simp only [List.length_map, List.length_range] at hq
  have hk : q / s < len := by rw [Nat.div_lt_iff_lt_mul hs0]; exact hq
  have hm := Nat.mod_lt q hs0
  have e : q / s * s + q % s = q := by rw [Nat.mul_comm]; exact Nat.div_add_mod q s
  have h1 := h (q / s) hk (q % s) hm
  have h2 := flatMap_get f s hs ((List.range len).map X) (q / s) (q % s) (X (q / s)) (by simp [hk]) hm
  rw [e] at h1 h2
  rw [h1, h2]
end

section
variable {H : Type} {enc : TypeId × Value → H} {P : Program} {w : World} {spare : Nat → Bool} {held : Bool} {b0 : Nat}
theorem trod_I {t e : TypeId} {fuel : Nat} {v : Value} {x : DataW H × List MemPlace} (ht : P.underlying t = some (.slice e)) (he : P.underlying e = some (.int .i64)) (hc : P.cellsOf e = 1)
    (h : DataW.trod enc P w b0 spare held fuel t [v] = some x) :
    ∃ A c, ∃ zs : List Int, v = .slice A zs.length c ∧ RdI w w.heap.size A zs ∧ zs.length ≤ 9223372036854775807 ∧ ∀ z ∈ zs, -9223372036854775808 ≤ z ∧ z ≤ 9223372036854775807 := by
  rcases open_ints ht he hc h with ⟨hcs, _⟩ | ⟨a, l, c, zs, hcs, _, hl, hm, hz, _, hcell, hwz⟩
  · simp at hcs; subst hcs
    exact ⟨none, 0, [], rfl, Rd.nil _ _ _, by simp, by simp⟩
  · simp at hcs; subst hcs
    have hll : l ≤ zs.length := by rw [hz]; split <;> omega
    unfold maxLen at hm
    refine ⟨some a, c, zs.take l, by simp [Nat.min_eq_left hll], ?_, by simp [Nat.min_eq_left hll]; omega, fun z hz' => wf64 (hwz z (List.mem_of_mem_take hz'))⟩
    refine rd_of_cells fun j hj => ?_
    simp only [List.length_map, List.length_take] at hj
    rw [hcell j (by omega)]
    simp [List.getD, show j < l by omega, show j < zs.length by omega]
theorem open_I {r : Reach} {b1 : Nat} {t e : TypeId} {v : Value} {d : DataW H} {p : List MemPlace} (ht : P.underlying t = some (.slice e)) (he : P.underlying e = some (.int .i64)) (hc : P.cellsOf e = 1)
    (hval : Value.okWide P w r b1 t v) (h : DataW.Trod enc P w b0 spare held t v d p) :
    ∃ A c, ∃ zs : List Int, v = .slice A zs.length c ∧ RdI w w.heap.size A zs ∧ zs.length ≤ 9223372036854775807 ∧ ∀ z ∈ zs, -9223372036854775808 ≤ z ∧ z ≤ 9223372036854775807 := by
  obtain ⟨a, l, c, rfl⟩ := okWide_slice ht hval
  obtain ⟨fuel, hf⟩ := h
  exact trod_I ht he hc (by simpa [Value.cells] using hf)
theorem open_Z {r : Reach} {b1 : Nat} {t : TypeId} {v : Value} {d : DataW H} {p : List MemPlace} (ht : P.underlying t = some (.int .i64))
    (hval : Value.okWide P w r b1 t v) (h : DataW.Trod enc P w b0 spare held t v d p) : ∃ z, v = .int .i64 z ∧ -9223372036854775808 ≤ z ∧ z ≤ 9223372036854775807 := by
  obtain ⟨z, rfl, _, _, hw⟩ := open_int ht hval h
  exact ⟨z, rfl, wf64 hw⟩
instance : Inhabited T2 := ⟨⟨0, 0⟩⟩
theorem rec_2 {e : TypeId} {fuel : Nat} {cs : List Value} {x : DataW H × List MemPlace} {f0 f1 : Field} (he : P.underlying e = some (.struct #[f0, f1])) (hone : oneCellFields P #[f0, f1] = true) (hC : P.cellsOf e = 2)
    (h0 : P.underlying f0.type = some (.int .i64)) (h1 : P.underlying f1.type = some (.int .i64)) (h : DataW.trod enc P w b0 spare held fuel e cs = some x) : ∃ y : T2, cs = y.cells ∧ y.Fits := by
  obtain ⟨xs, m, _, _, hlen, hxl, hg⟩ := DataW.trod_struct he h
  rw [hC] at hlen
  match cs, hlen with
  | [v0, v1], _ =>
    match xs, hxl with
    | [y0, y1], _ =>
      obtain ⟨o0, k0⟩ := hone_of hone 0 f0 rfl
      have t0 := hg 0 f0 rfl
      rw [o0, k0] at t0
      obtain ⟨n0, e0, _, w0⟩ := DataW.trod_int h0 (x := y0) (by simpa using t0)
      simp at e0
      obtain ⟨o1, k1⟩ := hone_of hone 1 f1 rfl
      have t1 := hg 1 f1 rfl
      rw [o1, k1] at t1
      obtain ⟨n1, e1, _, w1⟩ := DataW.trod_int h1 (x := y1) (by simpa using t1)
      simp at e1
      subst e0 e1
      exact ⟨⟨n0, n1⟩, rfl, wf64 w0, wf64 w1⟩
theorem trod_S2 {t e : TypeId} {fuel : Nat} {v : Value} {x : DataW H × List MemPlace} {f0 f1 : Field} (ht : P.underlying t = some (.slice e)) (he : P.underlying e = some (.struct #[f0, f1])) (hone : oneCellFields P #[f0, f1] = true) (hC : P.cellsOf e = 2)
    (h0 : P.underlying f0.type = some (.int .i64)) (h1 : P.underlying f1.type = some (.int .i64)) (h : DataW.trod enc P w b0 spare held fuel t [v] = some x) :
    ∃ A c, ∃ xs : List T2, v = .slice A xs.length c ∧ Rd2 w w.heap.size A xs ∧ xs.length ≤ 9223372036854775807 ∧ ∀ y ∈ xs, y.Fits := by
  rcases open_slice ht h with ⟨hcs, _⟩ | ⟨a, l, c, m, n, D, Pl, hcs, _, hl, hm, hmm, _, hi⟩
  · simp at hcs; subst hcs
    exact ⟨none, 0, [], rfl, Rd.nil _ _ _, by simp, by simp⟩
  · simp at hcs; subst hcs
    have hll : l ≤ m := by rw [hmm]; split <;> omega
    unfold maxLen at hm
    obtain ⟨X, hX⟩ := choose_lt (α := T2) (n := l) (p := fun i y => (∀ j, j < 2 → w.cell? (a.add (i * 2 + j)) = y.cells[j]?) ∧ y.Fits) (fun i hil => by
      obtain ⟨cs', q1, q2⟩ := hi i (by omega)
      rw [hC] at q1
      obtain ⟨y, rfl, hy⟩ := rec_2 he hone hC h0 h1 q2
      obtain ⟨_, _, hat⟩ := World.cells?_some q1
      exact ⟨y, fun j hj => by rw [← Go.Deep.add_add]; exact hat j hj, hy⟩)
    refine ⟨some a, c, (List.range l).map X, by simp, rd_family T2.cells 2 (fun _ => rfl) (by omega) X l fun i hil j hj => (hX i hil).1 j hj, by simp; omega, fun y hy => ?_⟩
    obtain ⟨i, hi', rfl⟩ := List.mem_map.1 hy
    exact (hX i (List.mem_range.1 hi')).2
theorem open_S2 {r : Reach} {b1 : Nat} {t e : TypeId} {v : Value} {d : DataW H} {p : List MemPlace} {f0 f1 : Field} (ht : P.underlying t = some (.slice e)) (he : P.underlying e = some (.struct #[f0, f1])) (hone : oneCellFields P #[f0, f1] = true) (hC : P.cellsOf e = 2)
    (h0 : P.underlying f0.type = some (.int .i64)) (h1 : P.underlying f1.type = some (.int .i64)) (hval : Value.okWide P w r b1 t v) (h : DataW.Trod enc P w b0 spare held t v d p) :
    ∃ A c, ∃ xs : List T2, v = .slice A xs.length c ∧ Rd2 w w.heap.size A xs ∧ xs.length ≤ 9223372036854775807 ∧ ∀ y ∈ xs, y.Fits := by
  obtain ⟨a, l, c, rfl⟩ := okWide_slice ht hval
  obtain ⟨fuel, hf⟩ := h
  exact trod_S2 ht he hone hC h0 h1 (by simpa [Value.cells] using hf)
theorem open_V2 {r : Reach} {b1 : Nat} {e : TypeId} {v : Value} {d : DataW H} {p : List MemPlace} {f0 f1 : Field} (he : P.underlying e = some (.struct #[f0, f1])) (hone : oneCellFields P #[f0, f1] = true) (hC : P.cellsOf e = 2)
    (h0 : P.underlying f0.type = some (.int .i64)) (h1 : P.underlying f1.type = some (.int .i64)) (hval : Value.okWide P w r b1 e v) (h : DataW.Trod enc P w b0 spare held e v d p) : ∃ y : T2, v = .agg #[.int .i64 y.a, .int .i64 y.b] ∧ y.Fits := by
  obtain ⟨cs, rfl, hsz⟩ := okWide_struct he hval
  obtain ⟨fuel, hf⟩ := h
  obtain ⟨y, hy, hfit⟩ := rec_2 he hone hC h0 h1 hf
  refine ⟨y, ?_, hfit⟩
  simp only [Value.cells] at hy
  obtain ⟨l⟩ := cs
  simp only at hy
  subst hy; rfl
instance : Inhabited T3 := ⟨⟨0, 0, 0⟩⟩
theorem rec_3 {e : TypeId} {fuel : Nat} {cs : List Value} {x : DataW H × List MemPlace} {f0 f1 f2 : Field} (he : P.underlying e = some (.struct #[f0, f1, f2])) (hone : oneCellFields P #[f0, f1, f2] = true) (hC : P.cellsOf e = 3)
    (h0 : P.underlying f0.type = some (.int .i64)) (h1 : P.underlying f1.type = some (.int .i64)) (h2 : P.underlying f2.type = some (.int .i64)) (h : DataW.trod enc P w b0 spare held fuel e cs = some x) : ∃ y : T3, cs = y.cells ∧ y.Fits := by
  obtain ⟨xs, m, _, _, hlen, hxl, hg⟩ := DataW.trod_struct he h
  rw [hC] at hlen
  match cs, hlen with
  | [v0, v1, v2], _ =>
    match xs, hxl with
    | [y0, y1, y2], _ =>
      obtain ⟨o0, k0⟩ := hone_of hone 0 f0 rfl
      have t0 := hg 0 f0 rfl
      rw [o0, k0] at t0
      obtain ⟨n0, e0, _, w0⟩ := DataW.trod_int h0 (x := y0) (by simpa using t0)
      simp at e0
      obtain ⟨o1, k1⟩ := hone_of hone 1 f1 rfl
      have t1 := hg 1 f1 rfl
      rw [o1, k1] at t1
      obtain ⟨n1, e1, _, w1⟩ := DataW.trod_int h1 (x := y1) (by simpa using t1)
      simp at e1
      obtain ⟨o2, k2⟩ := hone_of hone 2 f2 rfl
      have t2 := hg 2 f2 rfl
      rw [o2, k2] at t2
      obtain ⟨n2, e2, _, w2⟩ := DataW.trod_int h2 (x := y2) (by simpa using t2)
      simp at e2
      subst e0 e1 e2
      exact ⟨⟨n0, n1, n2⟩, rfl, wf64 w0, wf64 w1, wf64 w2⟩
theorem trod_S3 {t e : TypeId} {fuel : Nat} {v : Value} {x : DataW H × List MemPlace} {f0 f1 f2 : Field} (ht : P.underlying t = some (.slice e)) (he : P.underlying e = some (.struct #[f0, f1, f2])) (hone : oneCellFields P #[f0, f1, f2] = true) (hC : P.cellsOf e = 3)
    (h0 : P.underlying f0.type = some (.int .i64)) (h1 : P.underlying f1.type = some (.int .i64)) (h2 : P.underlying f2.type = some (.int .i64)) (h : DataW.trod enc P w b0 spare held fuel t [v] = some x) :
    ∃ A c, ∃ xs : List T3, v = .slice A xs.length c ∧ Rd3 w w.heap.size A xs ∧ xs.length ≤ 9223372036854775807 ∧ ∀ y ∈ xs, y.Fits := by
  rcases open_slice ht h with ⟨hcs, _⟩ | ⟨a, l, c, m, n, D, Pl, hcs, _, hl, hm, hmm, _, hi⟩
  · simp at hcs; subst hcs
    exact ⟨none, 0, [], rfl, Rd.nil _ _ _, by simp, by simp⟩
  · simp at hcs; subst hcs
    have hll : l ≤ m := by rw [hmm]; split <;> omega
    unfold maxLen at hm
    obtain ⟨X, hX⟩ := choose_lt (α := T3) (n := l) (p := fun i y => (∀ j, j < 3 → w.cell? (a.add (i * 3 + j)) = y.cells[j]?) ∧ y.Fits) (fun i hil => by
      obtain ⟨cs', q1, q2⟩ := hi i (by omega)
      rw [hC] at q1
      obtain ⟨y, rfl, hy⟩ := rec_3 he hone hC h0 h1 h2 q2
      obtain ⟨_, _, hat⟩ := World.cells?_some q1
      exact ⟨y, fun j hj => by rw [← Go.Deep.add_add]; exact hat j hj, hy⟩)
    refine ⟨some a, c, (List.range l).map X, by simp, rd_family T3.cells 3 (fun _ => rfl) (by omega) X l fun i hil j hj => (hX i hil).1 j hj, by simp; omega, fun y hy => ?_⟩
    obtain ⟨i, hi', rfl⟩ := List.mem_map.1 hy
    exact (hX i (List.mem_range.1 hi')).2
theorem open_S3 {r : Reach} {b1 : Nat} {t e : TypeId} {v : Value} {d : DataW H} {p : List MemPlace} {f0 f1 f2 : Field} (ht : P.underlying t = some (.slice e)) (he : P.underlying e = some (.struct #[f0, f1, f2])) (hone : oneCellFields P #[f0, f1, f2] = true) (hC : P.cellsOf e = 3)
    (h0 : P.underlying f0.type = some (.int .i64)) (h1 : P.underlying f1.type = some (.int .i64)) (h2 : P.underlying f2.type = some (.int .i64)) (hval : Value.okWide P w r b1 t v) (h : DataW.Trod enc P w b0 spare held t v d p) :
    ∃ A c, ∃ xs : List T3, v = .slice A xs.length c ∧ Rd3 w w.heap.size A xs ∧ xs.length ≤ 9223372036854775807 ∧ ∀ y ∈ xs, y.Fits := by
  obtain ⟨a, l, c, rfl⟩ := okWide_slice ht hval
  obtain ⟨fuel, hf⟩ := h
  exact trod_S3 ht he hone hC h0 h1 h2 (by simpa [Value.cells] using hf)
theorem open_V3 {r : Reach} {b1 : Nat} {e : TypeId} {v : Value} {d : DataW H} {p : List MemPlace} {f0 f1 f2 : Field} (he : P.underlying e = some (.struct #[f0, f1, f2])) (hone : oneCellFields P #[f0, f1, f2] = true) (hC : P.cellsOf e = 3)
    (h0 : P.underlying f0.type = some (.int .i64)) (h1 : P.underlying f1.type = some (.int .i64)) (h2 : P.underlying f2.type = some (.int .i64)) (hval : Value.okWide P w r b1 e v) (h : DataW.Trod enc P w b0 spare held e v d p) : ∃ y : T3, v = .agg #[.int .i64 y.a, .int .i64 y.b, .int .i64 y.c] ∧ y.Fits := by
  obtain ⟨cs, rfl, hsz⟩ := okWide_struct he hval
  obtain ⟨fuel, hf⟩ := h
  obtain ⟨y, hy, hfit⟩ := rec_3 he hone hC h0 h1 h2 hf
  refine ⟨y, ?_, hfit⟩
  simp only [Value.cells] at hy
  obtain ⟨l⟩ := cs
  simp only at hy
  subst hy; rfl
instance : Inhabited T4 := ⟨⟨0, 0, 0, 0⟩⟩
theorem rec_4 {e : TypeId} {fuel : Nat} {cs : List Value} {x : DataW H × List MemPlace} {f0 f1 f2 f3 : Field} (he : P.underlying e = some (.struct #[f0, f1, f2, f3])) (hone : oneCellFields P #[f0, f1, f2, f3] = true) (hC : P.cellsOf e = 4)
    (h0 : P.underlying f0.type = some (.int .i64)) (h1 : P.underlying f1.type = some (.int .i64)) (h2 : P.underlying f2.type = some (.int .i64)) (h3 : P.underlying f3.type = some (.int .i64)) (h : DataW.trod enc P w b0 spare held fuel e cs = some x) : ∃ y : T4, cs = y.cells ∧ y.Fits := by
  obtain ⟨xs, m, _, _, hlen, hxl, hg⟩ := DataW.trod_struct he h
  rw [hC] at hlen
  match cs, hlen with
  | [v0, v1, v2, v3], _ =>
    match xs, hxl with
    | [y0, y1, y2, y3], _ =>
      obtain ⟨o0, k0⟩ := hone_of hone 0 f0 rfl
      have t0 := hg 0 f0 rfl
      rw [o0, k0] at t0
      obtain ⟨n0, e0, _, w0⟩ := DataW.trod_int h0 (x := y0) (by simpa using t0)
      simp at e0
      obtain ⟨o1, k1⟩ := hone_of hone 1 f1 rfl
      have t1 := hg 1 f1 rfl
      rw [o1, k1] at t1
      obtain ⟨n1, e1, _, w1⟩ := DataW.trod_int h1 (x := y1) (by simpa using t1)
      simp at e1
      obtain ⟨o2, k2⟩ := hone_of hone 2 f2 rfl
      have t2 := hg 2 f2 rfl
      rw [o2, k2] at t2
      obtain ⟨n2, e2, _, w2⟩ := DataW.trod_int h2 (x := y2) (by simpa using t2)
      simp at e2
      obtain ⟨o3, k3⟩ := hone_of hone 3 f3 rfl
      have t3 := hg 3 f3 rfl
      rw [o3, k3] at t3
      obtain ⟨n3, e3, _, w3⟩ := DataW.trod_int h3 (x := y3) (by simpa using t3)
      simp at e3
      subst e0 e1 e2 e3
      exact ⟨⟨n0, n1, n2, n3⟩, rfl, wf64 w0, wf64 w1, wf64 w2, wf64 w3⟩
theorem trod_S4 {t e : TypeId} {fuel : Nat} {v : Value} {x : DataW H × List MemPlace} {f0 f1 f2 f3 : Field} (ht : P.underlying t = some (.slice e)) (he : P.underlying e = some (.struct #[f0, f1, f2, f3])) (hone : oneCellFields P #[f0, f1, f2, f3] = true) (hC : P.cellsOf e = 4)
    (h0 : P.underlying f0.type = some (.int .i64)) (h1 : P.underlying f1.type = some (.int .i64)) (h2 : P.underlying f2.type = some (.int .i64)) (h3 : P.underlying f3.type = some (.int .i64)) (h : DataW.trod enc P w b0 spare held fuel t [v] = some x) :
    ∃ A c, ∃ xs : List T4, v = .slice A xs.length c ∧ Rd4 w w.heap.size A xs ∧ xs.length ≤ 9223372036854775807 ∧ ∀ y ∈ xs, y.Fits := by
  rcases open_slice ht h with ⟨hcs, _⟩ | ⟨a, l, c, m, n, D, Pl, hcs, _, hl, hm, hmm, _, hi⟩
  · simp at hcs; subst hcs
    exact ⟨none, 0, [], rfl, Rd.nil _ _ _, by simp, by simp⟩
  · simp at hcs; subst hcs
    have hll : l ≤ m := by rw [hmm]; split <;> omega
    unfold maxLen at hm
    obtain ⟨X, hX⟩ := choose_lt (α := T4) (n := l) (p := fun i y => (∀ j, j < 4 → w.cell? (a.add (i * 4 + j)) = y.cells[j]?) ∧ y.Fits) (fun i hil => by
      obtain ⟨cs', q1, q2⟩ := hi i (by omega)
      rw [hC] at q1
      obtain ⟨y, rfl, hy⟩ := rec_4 he hone hC h0 h1 h2 h3 q2
      obtain ⟨_, _, hat⟩ := World.cells?_some q1
      exact ⟨y, fun j hj => by rw [← Go.Deep.add_add]; exact hat j hj, hy⟩)
    refine ⟨some a, c, (List.range l).map X, by simp, rd_family T4.cells 4 (fun _ => rfl) (by omega) X l fun i hil j hj => (hX i hil).1 j hj, by simp; omega, fun y hy => ?_⟩
    obtain ⟨i, hi', rfl⟩ := List.mem_map.1 hy
    exact (hX i (List.mem_range.1 hi')).2
theorem open_S4 {r : Reach} {b1 : Nat} {t e : TypeId} {v : Value} {d : DataW H} {p : List MemPlace} {f0 f1 f2 f3 : Field} (ht : P.underlying t = some (.slice e)) (he : P.underlying e = some (.struct #[f0, f1, f2, f3])) (hone : oneCellFields P #[f0, f1, f2, f3] = true) (hC : P.cellsOf e = 4)
    (h0 : P.underlying f0.type = some (.int .i64)) (h1 : P.underlying f1.type = some (.int .i64)) (h2 : P.underlying f2.type = some (.int .i64)) (h3 : P.underlying f3.type = some (.int .i64)) (hval : Value.okWide P w r b1 t v) (h : DataW.Trod enc P w b0 spare held t v d p) :
    ∃ A c, ∃ xs : List T4, v = .slice A xs.length c ∧ Rd4 w w.heap.size A xs ∧ xs.length ≤ 9223372036854775807 ∧ ∀ y ∈ xs, y.Fits := by
  obtain ⟨a, l, c, rfl⟩ := okWide_slice ht hval
  obtain ⟨fuel, hf⟩ := h
  exact trod_S4 ht he hone hC h0 h1 h2 h3 (by simpa [Value.cells] using hf)
theorem open_V4 {r : Reach} {b1 : Nat} {e : TypeId} {v : Value} {d : DataW H} {p : List MemPlace} {f0 f1 f2 f3 : Field} (he : P.underlying e = some (.struct #[f0, f1, f2, f3])) (hone : oneCellFields P #[f0, f1, f2, f3] = true) (hC : P.cellsOf e = 4)
    (h0 : P.underlying f0.type = some (.int .i64)) (h1 : P.underlying f1.type = some (.int .i64)) (h2 : P.underlying f2.type = some (.int .i64)) (h3 : P.underlying f3.type = some (.int .i64)) (hval : Value.okWide P w r b1 e v) (h : DataW.Trod enc P w b0 spare held e v d p) : ∃ y : T4, v = .agg #[.int .i64 y.a, .int .i64 y.b, .int .i64 y.c, .int .i64 y.d] ∧ y.Fits := by
  obtain ⟨cs, rfl, hsz⟩ := okWide_struct he hval
  obtain ⟨fuel, hf⟩ := h
  obtain ⟨y, hy, hfit⟩ := rec_4 he hone hC h0 h1 h2 h3 hf
  refine ⟨y, ?_, hfit⟩
  simp only [Value.cells] at hy
  obtain ⟨l⟩ := cs
  simp only at hy
  subst hy; rfl
end
end Go.Proofs.YtaajkmjilcamgaaGreatDoor
namespace Go.Proofs.YtaajkmjilcamgaaGreatDoor
open Go.ChangeShapes Go.WideShapes Go.ChangeAt Go.RowKit Go.Deep

/-- From A on the cells hold bytes. -/
def RdB (w : World) (B : Nat) (A : Option Addr) (zs : List Int) : Prop := Rd w B A (zs.map (Value.int .u8))
section
variable {w w' : World} {B B' : Nat} {A : Option Addr} {zs : List Int}
theorem RdB.at_ (h : RdB w B A zs) {k : Nat} (hk : k < zs.length) : ∃ b o z, A = some ⟨b, o, none⟩ ∧ b < B ∧ zs[k]? = some z ∧ w.cell? ⟨b, o + k, none⟩ = some (.int .u8 z) := by
  obtain ⟨b, o, u, hA, hb, hu, hc⟩ := Rd.at_ (j := k) h (by simpa using hk)
  rw [List.getElem?_map, List.getElem?_eq_getElem hk] at hu
  simp at hu; subst hu
  exact ⟨b, o, zs[k], hA, hb, List.getElem?_eq_getElem hk, hc⟩
theorem RdB.below (h : RdB w B A zs) (hb : Below B w w') : RdB w' B A zs := Rd.below h hb
theorem RdB.more (h : RdB w B A zs) (hB : B ≤ B') : RdB w B' A zs := Rd.more h hB
end
theorem wf8 {z : Int} (h : (Lit.int .u8 z).wf = true) : 0 ≤ z ∧ z ≤ 255 := by
  simp [Lit.wf, IntKind.min, IntKind.max, IntKind.signed, IntKind.bits] at h
  exact ⟨by omega, by omega⟩
section
variable {H : Type} {enc : TypeId × Value → H} {P : Program} {w : World} {spare : Nat → Bool} {held : Bool} {b0 : Nat}
theorem trod_B {t e : TypeId} {fuel : Nat} {v : Value} {x : DataW H × List MemPlace} (ht : P.underlying t = some (.slice e)) (he : P.underlying e = some (.int .u8)) (hc : P.cellsOf e = 1)
    (h : DataW.trod enc P w b0 spare held fuel t [v] = some x) :
    ∃ A c, ∃ zs : List Int, v = .slice A zs.length c ∧ RdB w w.heap.size A zs ∧ zs.length ≤ 9223372036854775807 ∧ ∀ z ∈ zs, 0 ≤ z ∧ z ≤ 255 := by
  rcases open_ints ht he hc h with ⟨hcs, _⟩ | ⟨a, l, c, zs, hcs, _, hl, hm, hz, _, hcell, hwz⟩
  · simp at hcs; subst hcs
    exact ⟨none, 0, [], rfl, Rd.nil _ _ _, by simp, by simp⟩
  · simp at hcs; subst hcs
    have hll : l ≤ zs.length := by rw [hz]; split <;> omega
    unfold maxLen at hm
    refine ⟨some a, c, zs.take l, by simp [Nat.min_eq_left hll], ?_, by simp [Nat.min_eq_left hll]; omega, fun z hz' => wf8 (hwz z (List.mem_of_mem_take hz'))⟩
    refine rd_of_cells fun j hj => ?_
    simp only [List.length_map, List.length_take] at hj
    rw [hcell j (by omega)]
    simp [List.getD, show j < l by omega, show j < zs.length by omega]
theorem open_B {r : Reach} {b1 : Nat} {t e : TypeId} {v : Value} {d : DataW H} {p : List MemPlace} (ht : P.underlying t = some (.slice e)) (he : P.underlying e = some (.int .u8)) (hc : P.cellsOf e = 1)
    (hval : Value.okWide P w r b1 t v) (h : DataW.Trod enc P w b0 spare held t v d p) :
    ∃ A c, ∃ zs : List Int, v = .slice A zs.length c ∧ RdB w w.heap.size A zs ∧ zs.length ≤ 9223372036854775807 ∧ ∀ z ∈ zs, 0 ≤ z ∧ z ≤ 255 := by
  obtain ⟨a, l, c, rfl⟩ := okWide_slice ht hval
  obtain ⟨fuel, hf⟩ := h
  exact trod_B ht he hc (by simpa [Value.cells] using hf)
end
end Go.Proofs.YtaajkmjilcamgaaGreatDoor
