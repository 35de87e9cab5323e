/-
  Lists whose elements hold a list of numbers and up to two numbers more: what a slice of them reads, and what is the call's own. Plain lemmas.
  The laws' words and helpers for lists whose elements hold a list of numbers, by contract.
  Runs and their spans: the plain law of the earliest start.
  Times, ways, runs and wishes: which are valid; in the program and in the reference.
  Orders of wishes: the codes; in the program and in the reference.
  Lists of texts; addresses are valid, in both packages.
-/
import Derived.Test.YtaajkmjilcamgaaDoorQCodes50
import Derived.Deep.RegionHeld3
import Derived.Test.YtaajkmjilcamgaaDoorQCodes52
import Derived.StillTailTactics
namespace Go.Proofs.YtaajkmjilcamgaaDoor
open Go.RowKit

structure TN where
  way : List Int
  p : Int
  q : Int
def TN.Fits (x : TN) : Prop := (∀ z ∈ x.way, -9223372036854775808 ≤ z ∧ z ≤ 9223372036854775807) ∧ (-9223372036854775808 ≤ x.p ∧ x.p ≤ 9223372036854775807) ∧ (-9223372036854775808 ≤ x.q ∧ x.q ≤ 9223372036854775807)
/-- The cells of an element: its slice's value, and m numbers. -/
def Nc (m : Nat) (x : Value × TN) : List Value := x.1 :: [Value.int .i64 x.2.p, .int .i64 x.2.q].take m
theorem Nc_len {m : Nat} (hm : m ≤ 2) (x : Value × TN) : (Nc m x).length = m + 1 := by simp [Nc]; omega
def WayAt (w : World) (B : Nat) (p : Value × TN) : Prop := ∃ A c, p.1 = .slice A p.2.way.length c ∧ RdI w B A p.2.way
def RN (m : Nat) (w : World) (B : Nat) (A : Option Addr) (x : List TN) : Prop := ∃ ps : List (Value × TN), ps.map (·.2) = x ∧ Rd w B A (ps.flatMap (Nc m)) ∧ ∀ p ∈ ps, WayAt w B p
section
variable {m : Nat} {w w' : World} {B B' : Nat} {A : Option Addr} {x : List TN}
theorem RN.nil (m : Nat) (w : World) (B : Nat) (A : Option Addr) : RN m w B A [] := ⟨[], rfl, Rd.nil _ _ _, fun p hp => by cases hp⟩
theorem RN.below (h : RN m w B A x) (k : Below B w w') : RN m w' B A x := by
  obtain ⟨ps, h1, h2, h3⟩ := h
  refine ⟨ps, h1, h2.below k, fun p hp => ?_⟩
  obtain ⟨A', c, e, r⟩ := h3 p hp
  exact ⟨A', c, e, r.below k⟩
theorem RN.more (h : RN m w B A x) (k : B ≤ B') : RN m w B' A x := by
  obtain ⟨ps, h1, h2, h3⟩ := h
  refine ⟨ps, h1, h2.more k, fun p hp => ?_⟩
  obtain ⟨A', c, e, r⟩ := h3 p hp
  exact ⟨A', c, e, r.more k⟩
theorem RN.at_ (hm : m ≤ 2) (h : RN m w B A x) {k : Nat} (hk : k < x.length) : ∃ b o e Aw cw, A = some ⟨b, o, none⟩ ∧ b < B ∧ x[k]? = some e ∧ RdI w B Aw e.way ∧ w.cell? ⟨b, o + k * (m + 1), none⟩ = some (.slice Aw e.way.length cw) ∧
    (1 ≤ m → w.cell? ⟨b, o + k * (m + 1) + 1, none⟩ = some (.int .i64 e.p)) ∧ (2 ≤ m → w.cell? ⟨b, o + k * (m + 1) + 2, none⟩ = some (.int .i64 e.q)) := by
  obtain ⟨ps, h1, h2, h3⟩ := h
  have hl : ps.length = x.length := by rw [← h1]; simp
  obtain ⟨b, o, p, hA, hb, hp, hc⟩ := Rd.elem (Nc m) (m + 1) (Nc_len hm) h2 (by omega) (k := k) (by omega)
  obtain ⟨Aw, cw, he, hr⟩ := h3 p (List.mem_of_getElem? hp)
  refine ⟨b, o, p.2, Aw, cw, hA, hb, by rw [← h1, List.getElem?_map, hp]; rfl, hr, ?_, fun h => ?_, fun h => ?_⟩
  · have := hc 0 (by omega); rw [Nat.add_zero] at this; rw [this, ← he]; rfl
  · have := hc 1 (by omega)
    rw [this]
    match m, h, hm with
    | 1, _, _ => rfl
    | 2, _, _ => rfl
  · have := hc 2 (by omega)
    rw [this]
    obtain rfl : m = 2 := by omega
    rfl
end
def SmallN (x : List TN) : Prop := x.length + (x.map fun e => e.way.length).sum ≤ 1048576
theorem sum_get {x : List TN} : ∀ {k : Nat} {e : TN}, x[k]? = some e → e.way.length ≤ (x.map fun e => e.way.length).sum := by
  induction x with
  | nil => intro k e h; simp at h
  | cons a x ih =>
    intro k e h
    rw [List.map_cons, List.sum_cons]
    cases k with
    | zero => simp at h; subst h; omega
    | succ k => have := ih (k := k) (by simpa using h); omega
theorem SmallN.way {x : List TN} (h : SmallN x) {k : Nat} {e : TN} (he : x[k]? = some e) : e.way.length ≤ 1048576 := by
  have := sum_get he; unfold SmallN at h; omega
theorem Only.wider {lo hi lo' hi' : Nat} {w w' : World} (h : Only lo hi w w') (h1 : lo' ≤ lo) (h2 : hi ≤ hi') : Only lo' hi' w w' :=
  ⟨h.1, h.2.1, h.2.2.1, h.2.2.2.1, fun k hk ho => h.2.2.2.2 k hk (by omega)⟩
theorem OwnV.tight {e : TypeId} {s : Nat} {w : World} {lo hi g : Nat} {v : Value} {n : Nat} {xs : List Value} (h : OwnV e s w lo hi v n xs) (hg : v.ownBlock = some g) : OwnV e s w g (g + 1) v n xs := by
  refine ⟨h.1, h.2.1, ?_⟩
  rcases h.2.2 with h0 | ⟨ho, hlt⟩
  · exact .inl h0
  · refine .inr ⟨⟨ho.1, ?_⟩, fun g' hg' => by rw [hg] at hg'; cases hg'; omega⟩
    rcases ho.2 with h0 | ⟨g', cap, cur, rfl, hb, hgg, rest⟩
    · exact .inl h0
    · simp [Value.ownBlock] at hg
      subst hg
      exact .inr ⟨g', cap, cur, rfl, Nat.le_refl _, hgg, rest⟩
/-- The elements' lists are rows of the call's own, one behind the other, none in the block. -/
def FamO (w : World) (blk : Option Nat) : Nat → Nat → List (Value × TN) → Prop
  | _, _, [] => True
  | lo, hi, p :: ps => ∃ a b, lo ≤ a ∧ a ≤ b ∧ b ≤ hi ∧ (∀ g, blk = some g → b ≤ g ∨ g < a) ∧ O_Int64S w a b p.1 p.2.way ∧ FamO w blk b hi ps
theorem FamO.kept {w w' : World} {blk : Option Nat} {lo' hi' hi : Nat} (k : Only lo' hi' w w') : ∀ {ps : List (Value × TN)} {lo : Nat}, FamO w blk lo hi ps → (hi ≤ lo' ∨ hi' ≤ lo) → FamO w' blk lo hi ps := by
  intro ps
  induction ps with
  | nil => intro lo _ _; trivial
  | cons p ps ih =>
    intro lo h hd
    obtain ⟨a, b, h1, h2, h3, h4, h5, h6⟩ := h
    exact ⟨a, b, h1, h2, h3, h4, h5.kept k (by omega), ih h6 (by omega)⟩
theorem FamO.keptB {w w' : World} {g hi : Nat} (k : Only g (g + 1) w w') : ∀ {ps : List (Value × TN)} {lo : Nat}, FamO w (some g) lo hi ps → FamO w' (some g) lo hi ps := by
  intro ps
  induction ps with
  | nil => intro lo _; trivial
  | cons p ps ih =>
    intro lo h
    obtain ⟨a, b, h1, h2, h3, h4, h5, h6⟩ := h
    exact ⟨a, b, h1, h2, h3, h4, h5.kept k (by have := h4 g rfl; omega), ih h6⟩
theorem FamO.below {w w' : World} {blk : Option Nat} {B hi : Nat} (k : Below B w w') (hB : hi ≤ B) : ∀ {ps : List (Value × TN)} {lo : Nat}, FamO w blk lo hi ps → FamO w' blk lo hi ps := by
  intro ps
  induction ps with
  | nil => intro lo _; trivial
  | cons p ps ih =>
    intro lo h
    obtain ⟨a, b, h1, h2, h3, h4, h5, h6⟩ := h
    exact ⟨a, b, h1, h2, h3, h4, h5.below k (by omega), ih h6⟩
theorem FamO.widen {w : World} {blk : Option Nat} {hi hi' : Nat} (k2 : hi ≤ hi') : ∀ {ps : List (Value × TN)} {lo lo' : Nat}, FamO w blk lo hi ps → lo' ≤ lo → FamO w blk lo' hi' ps := by
  intro ps
  induction ps with
  | nil => intro lo lo' _ _; trivial
  | cons p ps ih =>
    intro lo lo' h k1
    obtain ⟨a, b, h1, h2, h3, h4, h5, h6⟩ := h
    exact ⟨a, b, by omega, h2, by omega, h4, h5, ih h6 (Nat.le_refl _)⟩
theorem FamO.blk {w : World} {blk blk' : Option Nat} {hi : Nat} : ∀ {ps : List (Value × TN)} {lo : Nat}, FamO w blk lo hi ps → (∀ g, blk' = some g → hi ≤ g ∨ g < lo) → FamO w blk' lo hi ps := by
  intro ps
  induction ps with
  | nil => intro lo _ _; trivial
  | cons p ps ih =>
    intro lo h k
    obtain ⟨a, b, h1, h2, h3, h4, h5, h6⟩ := h
    exact ⟨a, b, h1, h2, h3, fun g hg => by have := k g hg; omega, h5, ih h6 fun g hg => by have := k g hg; omega⟩
theorem FamO.snoc {w : World} {blk : Option Nat} {mid a b hi : Nat} {p : Value × TN} (h1 : mid ≤ a) (h2 : a ≤ b) (h3 : b ≤ hi) (h4 : ∀ g, blk = some g → b ≤ g ∨ g < a) (h5 : O_Int64S w a b p.1 p.2.way) : ∀ {ps : List (Value × TN)} {lo : Nat}, lo ≤ mid → FamO w blk lo mid ps → FamO w blk lo hi (ps ++ [p]) := by
  intro ps
  induction ps with
  | nil => intro lo hl _; exact ⟨a, b, by omega, h2, h3, h4, h5, trivial⟩
  | cons p' ps ih =>
    intro lo hl h
    obtain ⟨a', b', k1, k2, k3, k4, k5, k6⟩ := h
    exact ⟨a', b', k1, k2, by omega, k4, k5, ih k3 k6⟩
theorem FamO.way {w : World} {blk : Option Nat} {hi : Nat} : ∀ {ps : List (Value × TN)} {lo : Nat}, FamO w blk lo hi ps → ∀ p ∈ ps, WayAt w w.heap.size p := by
  intro ps
  induction ps with
  | nil => intro lo _ p hp; cases hp
  | cons p ps ih =>
    intro lo h
    obtain ⟨a, b, h1, h2, h3, h4, h5, h6⟩ := h
    intro p' hp
    rcases List.mem_cons.1 hp with rfl | hp
    · exact h5.r
    · exact ih h6 p' hp
theorem FamO.at_ {w : World} {blk : Option Nat} {hi : Nat} : ∀ {ps : List (Value × TN)} {lo k : Nat} {p : Value × TN}, FamO w blk lo hi ps → ps[k]? = some p → ∃ a b, lo ≤ a ∧ a ≤ b ∧ b ≤ hi ∧ (∀ g, blk = some g → b ≤ g ∨ g < a) ∧ O_Int64S w a b p.1 p.2.way := by
  intro ps
  induction ps with
  | nil => intro lo k p _ h; simp at h
  | cons p' ps ih =>
    intro lo k p h hp
    obtain ⟨a, b, h1, h2, h3, h4, h5, h6⟩ := h
    cases k with
    | zero => simp at hp; subst hp; exact ⟨a, b, h1, h2, h3, h4, h5⟩
    | succ k =>
      obtain ⟨a', b', k1, k2, k3, k4, k5⟩ := ih h6 (k := k) (p := p) (by simpa using hp)
      exact ⟨a', b', by omega, k2, k3, k4, k5⟩
/-- A list of elements, all of it the call's own. -/
def ON (T : TypeId) (m : Nat) (w : World) (lo hi : Nat) (v : Value) (x : List TN) : Prop :=
  ∃ ps : List (Value × TN), ps.map (·.2) = x ∧ OwnV T (m + 1) w lo hi v x.length (ps.flatMap (Nc m)) ∧ FamO w v.ownBlock lo hi ps ∧ SmallN x
section
variable {T : TypeId} {m : Nat} {w w' : World} {lo hi lo' hi' B : Nat} {v : Value} {x : List TN}
theorem ON.small (h : ON T m w lo hi v x) : SmallN x := by obtain ⟨_, _, _, _, h⟩ := h; exact h
theorem ON.kept (h : ON T m w lo hi v x) (k : Only lo' hi' w w') (hd : hi ≤ lo' ∨ hi' ≤ lo) : ON T m w' lo hi v x := by
  obtain ⟨ps, h1, h2, h3, h4⟩ := h
  exact ⟨ps, h1, h2.kept k hd, h3.kept k hd, h4⟩
theorem ON.below (h : ON T m w lo hi v x) (k : Below B w w') (hd : hi ≤ B) : ON T m w' lo hi v x := by
  obtain ⟨ps, h1, h2, h3, h4⟩ := h
  exact ⟨ps, h1, h2.below k hd, h3.below k hd, h4⟩
theorem ON.widen (h : ON T m w lo hi v x) (h1 : lo' ≤ lo) (h2 : hi ≤ hi') : ON T m w lo' hi' v x := by
  obtain ⟨ps, k1, k2, k3, k4⟩ := h
  exact ⟨ps, k1, k2.widen h1 h2, k3.widen h2 h1, k4⟩
theorem ON.nil (T : TypeId) (m : Nat) (w : World) (lo hi : Nat) (A : Option Addr) (c : Nat) : ON T m w lo hi (.slice A 0 c) [] := ⟨[], rfl, OwnV.nil _ _ _ _ _ _ _, trivial, by unfold SmallN; simp⟩
theorem ON.r (h : ON T m w lo hi v x) : ∃ A c, v = .slice A x.length c ∧ RN m w w.heap.size A x := by
  obtain ⟨ps, h1, h2, h3, _⟩ := h
  obtain ⟨A, c, rfl, r⟩ := h2.rd
  exact ⟨A, c, rfl, ps, h1, r, h3.way⟩
end
/-- What the marks make of the elements, and how many marks there are. -/
def mkN (m : Nat) : List TN → Int → List TN
  | [], _ => []
  | e :: es, k => ⟨mark_Int64S e.way k, if 1 ≤ m then k + e.way.length else e.p, if 2 ≤ m then k + e.way.length + 1 else e.q⟩ :: mkN m es (k + e.way.length + m)
def cntN (m : Nat) : List TN → Int
  | [] => 0
  | e :: es => e.way.length + m + cntN m es
theorem mkN_len (m : Nat) : ∀ (x : List TN) (k : Int), (mkN m x k).length = x.length := by
  intro x
  induction x with
  | nil => intro k; rfl
  | cons e es ih => intro k; rw [mkN, List.length_cons, List.length_cons, ih]
theorem mkN_sum (m : Nat) : ∀ (x : List TN) (k : Int), ((mkN m x k).map fun e => e.way.length) = x.map fun e => e.way.length := by
  intro x
  induction x with
  | nil => intro k; rfl
  | cons e es ih => intro k; rw [mkN, List.map_cons, List.map_cons, ih]; simp [mark_Int64S, marks_len]
theorem mkN_small {m : Nat} {x : List TN} {k : Int} (h : SmallN x) : SmallN (mkN m x k) := by unfold SmallN at *; rw [mkN_len, mkN_sum]; exact h
theorem mkN_append (m : Nat) : ∀ (x y : List TN) (k : Int), mkN m (x ++ y) k = mkN m x k ++ mkN m y (k + cntN m x) := by
  intro x
  induction x with
  | nil => intro y k; simp [mkN, cntN]
  | cons e es ih => intro y k; rw [List.cons_append, mkN, mkN, cntN, ih, List.cons_append]; congr 3; omega
theorem cntN_append (m : Nat) : ∀ (x y : List TN), cntN m (x ++ y) = cntN m x + cntN m y := by
  intro x
  induction x with
  | nil => intro y; simp [cntN]
  | cons e es ih => intro y; rw [List.cons_append, cntN, cntN, ih]; omega
theorem cntN_bd (m : Nat) (hm : m ≤ 2) : ∀ (x : List TN), 0 ≤ cntN m x ∧ cntN m x ≤ (x.map fun e => e.way.length).sum + 2 * (x.length : Int) := by
  intro x
  induction x with
  | nil => simp [cntN]
  | cons e es ih => rw [cntN, List.map_cons, List.sum_cons, List.length_cons]; omega
theorem mkN_get (m : Nat) : ∀ {x : List TN} {j : Nat} {e : TN} (k : Int), x[j]? = some e → (mkN m x k)[j]? = some ⟨mark_Int64S e.way (k + cntN m (x.take j)), if 1 ≤ m then k + cntN m (x.take j) + e.way.length else e.p, if 2 ≤ m then k + cntN m (x.take j) + e.way.length + 1 else e.q⟩ := by
  intro x
  induction x with
  | nil => intro j e k h; simp at h
  | cons a x ih =>
    intro j e k h
    cases j with
    | zero => simp at h; subst h; simp [mkN, cntN]
    | succ j =>
      rw [mkN, List.getElem?_cons_succ, ih _ (by simpa using h), List.take_succ_cons, cntN]
      rw [show k + a.way.length + m + cntN m (x.take j) = k + (a.way.length + m + cntN m (x.take j)) by omega]
theorem cntN_take {m : Nat} {x : List TN} {j : Nat} {e : TN} (h : x[j]? = some e) : cntN m (x.take (j + 1)) = cntN m (x.take j) + (e.way.length + m) := by
  obtain ⟨hl, he⟩ := List.getElem?_eq_some_iff.1 h
  rw [List.take_succ_eq_append_getElem hl, he, cntN_append, cntN, cntN]; omega
end Go.Proofs.YtaajkmjilcamgaaDoor
namespace Go.Proofs.YtaajkmjilcamgaaDoor
open Go.RowKit

def BoxN (w : World) (b : Nat) (cs : Array Value) (e : TypeId) : Prop := w.heap[b]? = some (.cells cs e (0, 0))
theorem BoxN.new (w : World) (cs : Array Value) (e : TypeId) : BoxN (w.alloc (.cells cs e)) w.heap.size cs e := heap_alloc_new w _
theorem BoxN.lt {w : World} {b : Nat} {cs : Array Value} {e : TypeId} (h : BoxN w b cs e) : b < w.heap.size := lt_of_block h
theorem BoxN.alloc {w : World} {b : Nat} {cs : Array Value} {e : TypeId} (h : BoxN w b cs e) (o : Obj) : BoxN (w.alloc o) b cs e := by
  have := h.lt
  unfold BoxN at *
  rw [heap_alloc_old _ _ this]; exact h
theorem BoxN.below {w w' : World} {b B : Nat} {cs : Array Value} {e : TypeId} (h : BoxN w b cs e) (k : Below B w w') (hb : b < B) : BoxN w' b cs e := (k.block b hb).trans h
theorem BoxN.cell {w : World} {b : Nat} {cs : Array Value} {e : TypeId} (h : BoxN w b cs e) (j : Nat) : w.cell? ⟨b, j, none⟩ = cs.toList[j]? := by
  rw [cell_of_row w b j cs e (0, 0) h]; simp
theorem BoxN.fro {w : World} {b : Nat} {cs : Array Value} {e : TypeId} (h : BoxN w b cs e) (j : Nat) : w.frozen? ⟨b, j, none⟩ = false := frozen_of_row w b j cs e h
theorem BoxN.set {w : World} {b : Nat} {cs : Array Value} {e : TypeId} (h : BoxN w b cs e) (j : Nat) (v : Value) : BoxN (w.setCell ⟨b, j, none⟩ v) b (cs.setIfInBounds j v) e := by
  unfold BoxN at *
  simp [World.setCell, Array.getElem?_modify, h]
theorem BoxN.other {w : World} {b b' : Nat} {cs : Array Value} {e : TypeId} (h : BoxN w b cs e) (hne : b' ≠ b) (j : Nat) (v : Value) : BoxN (w.setCell ⟨b', j, none⟩ v) b cs e := by
  unfold BoxN at *
  rw [heap_setCell_other _ ⟨b', j, none⟩ _ v (Ne.symm hne)]; exact h
theorem onlyN_set {w : World} {b j lo hi : Nat} {v : Value} (h1 : lo ≤ b) (h2 : b < hi) : Only lo hi w (w.setCell ⟨b, j, none⟩ v) :=
  ⟨rfl, rfl, rfl, by simp, fun k _ ho => heap_setCell_other w ⟨b, j, none⟩ _ v (by simp; omega)⟩
def sizeN (x : List TN) : Nat := x.length + (x.map fun e => e.way.length).sum
def LenN (x : List TN) : Prop := x.length ≤ 9223372036854775807 ∧ ∀ e ∈ x, e.way.length ≤ 9223372036854775807
theorem smallN {x : List TN} (h : (sizeN x : Int) ≤ 1048576) : SmallN x := by unfold sizeN at h; unfold SmallN; omega
def zp : Value × TN := (.slice none 0 0, ⟨[], 0, 0⟩)
theorem nest_len {m n k : Nat} {ps : List (Value × TN)} (h : ps.length = k) (hk : k ≤ n) : (ps ++ List.replicate (n - k) zp).length = n := by simp; omega
theorem nest_get {n k : Nat} {ps : List (Value × TN)} (h : ps.length = k) (hk : k < n) : (ps ++ List.replicate (n - k) zp)[k]? = some zp := by
  rw [List.getElem?_append_right (by omega), List.getElem?_replicate, if_pos (by omega)]
theorem nest_set {n k : Nat} {ps : List (Value × TN)} (h : ps.length = k) (hk : k < n) (p : Value × TN) : (ps ++ List.replicate (n - k) zp).set k p = (ps ++ [p]) ++ List.replicate (n - (k + 1)) zp := by
  rw [List.set_append_right _ _ (by omega), h, Nat.sub_self, show n - k = (n - (k + 1)) + 1 by omega, List.replicate_succ, List.set_cons_zero, List.append_assoc]; rfl
theorem set_set_same {α : Type} (xs : List α) (k : Nat) (a b : α) : (xs.set k a).set k b = xs.set k b := by simp
theorem store1 {L : List (Value × TN)} {k : Nat} {y : Value × TN} (h : L[k]? = some y) (sv : Value) (e : TN) : ((L.flatMap (Nc 1)).set (k * 2) sv).set (k * 2 + 1) (.int .i64 e.p) = (L.set k (sv, e)).flatMap (Nc 1) := by
  have h1 := flatMap_set (Nc 1) 2 (fun _ => rfl) L k 0 y (sv, y.2) sv h (by omega) rfl
  rw [Nat.add_zero] at h1
  have h2 := flatMap_set (Nc 1) 2 (fun _ => rfl) (L.set k (sv, y.2)) k 1 (sv, y.2) (sv, e) (.int .i64 e.p) (List.getElem?_set_self (lt_of_get h)) (by omega) rfl
  rw [h1, h2, set_set_same]
theorem store2 {L : List (Value × TN)} {k : Nat} {y : Value × TN} (h : L[k]? = some y) (sv : Value) (e : TN) : (((L.flatMap (Nc 2)).set (k * 3) sv).set (k * 3 + 1) (.int .i64 e.p)).set (k * 3 + 2) (.int .i64 e.q) = (L.set k (sv, e)).flatMap (Nc 2) := by
  have h1 := flatMap_set (Nc 2) 3 (fun _ => rfl) L k 0 y (sv, y.2) sv h (by omega) rfl
  rw [Nat.add_zero] at h1
  have h2 := flatMap_set (Nc 2) 3 (fun _ => rfl) (L.set k (sv, y.2)) k 1 (sv, y.2) (sv, ⟨y.2.way, e.p, y.2.q⟩) (.int .i64 e.p) (List.getElem?_set_self (lt_of_get h)) (by omega) rfl
  have h3 := flatMap_set (Nc 2) 3 (fun _ => rfl) ((L.set k (sv, y.2)).set k (sv, ⟨y.2.way, e.p, y.2.q⟩)) k 2 (sv, ⟨y.2.way, e.p, y.2.q⟩) (sv, e) (.int .i64 e.q) (List.getElem?_set_self (by rw [List.length_set]; exact lt_of_get h)) (by omega) rfl
  rw [h1, h2, h3, set_set_same, set_set_same]
theorem store0 {L : List (Value × TN)} {k : Nat} {y : Value × TN} (h : L[k]? = some y) (sv : Value) (e : TN) : (L.flatMap (Nc 0)).set (k * 1) sv = (L.set k (sv, e)).flatMap (Nc 0) := by
  have h1 := flatMap_set (Nc 0) 1 (fun _ => rfl) L k 0 y (sv, e) sv h (by omega) rfl
  rw [Nat.add_zero] at h1
  exact h1
theorem szF_add {n k : Nat} {l : Int} (h : (n : Int) ≤ l) : szF (n + k) l = szF k (l - n) := by unfold szF; split <;> split <;> omega

end Go.Proofs.YtaajkmjilcamgaaDoor
namespace Go.Proofs.YtaajkmjilcamgaaDoor
open Go.RowKit

def tmOf (ts : List Int) (t : Int) : Int := (ts[t.toNat]?).getD 0
/-- The spans of a run: tube, begin, end. -/
def spGo (ts : List Int) : Int → List Int → List T3
  | _, [] => []
  | f, t :: r => ⟨t, f, f + tmOf ts t⟩ :: spGo ts (f + tmOf ts t) r
def meet (s o : T3) : Bool := decide (s.a = o.a ∧ s.b < o.c ∧ o.b < s.c)
theorem meet_iff {s o : T3} : meet s o = true ↔ s.a = o.a ∧ s.b < o.c ∧ o.b < s.c := by simp [meet]
def fits (ts : List Int) (tk : List T3) (way : List Int) (f : Int) : Bool := (spGo ts f way).all fun s => tk.all fun o => !meet s o
def OkTimes (ts : List Int) : Prop := (1 ≤ ts.length ∧ ts.length ≤ 24) ∧ ∀ z ∈ ts, 1 ≤ z ∧ z ≤ 1000
def OkWay (ts way : List Int) : Prop := (1 ≤ way.length ∧ way.length ≤ 12) ∧ ∀ t ∈ way, 0 ≤ t ∧ t ≤ (ts.length : Int) - 1
theorem tmOf_bd {ts : List Int} (h : OkTimes ts) {t : Int} (ht : 0 ≤ t ∧ t ≤ (ts.length : Int) - 1) : 1 ≤ tmOf ts t ∧ tmOf ts t ≤ 1000 := by
  unfold tmOf
  rw [List.getElem?_eq_getElem (show t.toNat < ts.length by omega)]
  exact h.2 _ (List.getElem_mem _)
theorem spGo_shift (ts : List Int) (d : Int) : ∀ (way : List Int) (f : Int), spGo ts (f + d) way = (spGo ts f way).map fun s => ⟨s.a, s.b + d, s.c + d⟩ := by
  intro way
  induction way with
  | nil => intro f; rfl
  | cons t r ih =>
    intro f
    rw [spGo, spGo, List.map_cons, ← ih, show f + d + tmOf ts t = f + tmOf ts t + d by omega]
theorem spGo_ge {ts : List Int} (hts : OkTimes ts) : ∀ {way : List Int} {f : Int}, (∀ t ∈ way, 0 ≤ t ∧ t ≤ (ts.length : Int) - 1) → ∀ s ∈ spGo ts f way, f ≤ s.b ∧ s.b < s.c ∧ s.c ≤ f + 1000 * way.length := by
  intro way
  induction way with
  | nil => intro f _ s hs; cases hs
  | cons t r ih =>
    intro f h s hs
    have ht := tmOf_bd hts (h t (List.mem_cons_self ..))
    rw [spGo] at hs
    rw [List.length_cons]
    rcases List.mem_cons.1 hs with rfl | hs
    · dsimp only; omega
    · have := ih (fun t ht => h t (List.mem_cons_of_mem _ ht)) s hs
      omega
theorem spGo_len (ts : List Int) : ∀ (way : List Int) (f : Int), (spGo ts f way).length = way.length := by
  intro way
  induction way with
  | nil => intro f; rfl
  | cons t r ih => intro f; rw [spGo, List.length_cons, List.length_cons, ih]
/-- The longest wait for spans that meet. -/
def waitIn (s : T3) : List T3 → Int → Int
  | [], w => w
  | o :: os, w => waitIn s os (if meet s o then max w (o.c - s.b) else w)
def waitOf (tk : List T3) : List T3 → Int → Int
  | [], w => w
  | s :: ss, w => waitOf tk ss (waitIn s tk w)
theorem waitIn_spec (s : T3) : ∀ (os : List T3) (w : Int), w ≤ waitIn s os w ∧ (∀ o ∈ os, meet s o = true → o.c - s.b ≤ waitIn s os w) ∧ (waitIn s os w = w ∨ ∃ o ∈ os, meet s o = true ∧ waitIn s os w = o.c - s.b) := by
  intro os
  induction os with
  | nil => intro w; exact ⟨Int.le_refl _, fun o ho => (by cases ho), .inl rfl⟩
  | cons o os ih =>
    intro w
    rw [waitIn]
    obtain ⟨i1, i2, i3⟩ := ih (if meet s o then max w (o.c - s.b) else w)
    by_cases hm : meet s o = true
    · rw [if_pos hm] at *
      refine ⟨by omega, fun o' ho hm' => ?_, ?_⟩
      · rcases List.mem_cons.1 ho with rfl | ho
        · omega
        · exact i2 o' ho hm'
      · rcases i3 with h | ⟨o', ho, hm', h⟩
        · by_cases hw : o.c - s.b ≤ w
          · left; rw [h]; omega
          · right; exact ⟨o, List.mem_cons_self .., hm, by rw [h]; omega⟩
        · exact .inr ⟨o', List.mem_cons_of_mem _ ho, hm', h⟩
    · rw [if_neg hm] at *
      refine ⟨i1, fun o' ho hm' => ?_, ?_⟩
      · rcases List.mem_cons.1 ho with rfl | ho
        · exact absurd hm' hm
        · exact i2 o' ho hm'
      · rcases i3 with h | ⟨o', ho, hm', h⟩
        · exact .inl h
        · exact .inr ⟨o', List.mem_cons_of_mem _ ho, hm', h⟩
theorem waitOf_spec (tk : List T3) : ∀ (ss : List T3) (w : Int), w ≤ waitOf tk ss w ∧ (∀ s ∈ ss, ∀ o ∈ tk, meet s o = true → o.c - s.b ≤ waitOf tk ss w) ∧ (waitOf tk ss w = w ∨ ∃ s ∈ ss, ∃ o ∈ tk, meet s o = true ∧ waitOf tk ss w = o.c - s.b) := by
  intro ss
  induction ss with
  | nil => intro w; exact ⟨Int.le_refl _, fun o ho => (by cases ho), .inl rfl⟩
  | cons s ss ih =>
    intro w
    rw [waitOf]
    obtain ⟨i1, i2, i3⟩ := ih (waitIn s tk w)
    obtain ⟨k1, k2, k3⟩ := waitIn_spec s tk w
    refine ⟨by omega, fun s' hs o ho hm => ?_, ?_⟩
    · rcases List.mem_cons.1 hs with rfl | hs
      · have := k2 o ho hm; omega
      · exact i2 s' hs o ho hm
    · rcases i3 with h | ⟨s', hs, o, ho, hm, h⟩
      · rcases k3 with h' | ⟨o, ho, hm, h'⟩
        · exact .inl (h.trans h')
        · exact .inr ⟨s, List.mem_cons_self .., o, ho, hm, h.trans h'⟩
      · exact .inr ⟨s', List.mem_cons_of_mem _ hs, o, ho, hm, h⟩
theorem fits_iff {ts : List Int} {tk : List T3} {way : List Int} {f : Int} : fits ts tk way f = true ↔ ∀ s ∈ spGo ts f way, ∀ o ∈ tk, meet s o = false := by
  unfold fits
  rw [List.all_eq_true]
  constructor
  · intro h s hs o ho
    have := List.all_eq_true.1 (h s hs) o ho
    simpa using this
  · intro h s hs
    exact List.all_eq_true.2 fun o ho => by simp [h s hs o ho]
/-- No wait: it fits. A wait: it does not, nor anywhere before the wait is over. -/
theorem wait_zero {ts : List Int} {tk : List T3} {way : List Int} {f : Int} (h : waitOf tk (spGo ts f way) 0 = 0) : fits ts tk way f = true := by
  rw [fits_iff]
  intro s hs o ho
  cases hm : meet s o
  · rfl
  · have h1 := (waitOf_spec tk (spGo ts f way) 0).2.1 s hs o ho hm
    have h2 := (meet_iff.1 hm).2.1
    omega
theorem wait_pos {ts : List Int} {tk : List T3} {way : List Int} {f : Int} (h : waitOf tk (spGo ts f way) 0 ≠ 0) : 0 < waitOf tk (spGo ts f way) 0 ∧ ∀ g, f ≤ g → g < f + waitOf tk (spGo ts f way) 0 → fits ts tk way g = false := by
  obtain ⟨h1, _, h3⟩ := waitOf_spec tk (spGo ts f way) 0
  rcases h3 with h3 | ⟨s, hs, o, ho, hm, h3⟩
  · exact absurd h3 h
  · refine ⟨by omega, fun g hg1 hg2 => ?_⟩
    obtain ⟨m1, m2, m3⟩ := meet_iff.1 hm
    have hs' : (⟨s.a, s.b + (g - f), s.c + (g - f)⟩ : T3) ∈ spGo ts g way := by
      have := spGo_shift ts (g - f) way f
      rw [show f + (g - f) = g by omega] at this
      rw [this]
      exact List.mem_map.2 ⟨s, hs, rfl⟩
    cases hf : fits ts tk way g
    · rfl
    · have := fits_iff.1 hf _ hs' o ho
      have h4 : meet ⟨s.a, s.b + (g - f), s.c + (g - f)⟩ o = true := meet_iff.2 ⟨m1, by dsimp only; omega, by dsimp only; omega⟩
      rw [this] at h4; cases h4
/-- The least tick from f on at which p holds, sought so many ticks long. -/
def seek (p : Int → Bool) : Nat → Int → Int
  | 0, b => b
  | n + 1, b => if p b then b else seek p n (b + 1)
theorem seek_eq {p : Int → Bool} {r : Int} : ∀ {n : Nat} {b : Int}, b ≤ r → r ≤ b + n → p r = true → (∀ c, b ≤ c → c < r → p c = false) → seek p n b = r := by
  intro n
  induction n with
  | zero => intro b h1 h2 _ _; rw [seek]; omega
  | succ n ih =>
    intro b h1 h2 h3 h4
    rw [seek]
    by_cases hb : b = r
    · subst hb; rw [if_pos h3]
    · rw [h4 b (by omega) (by omega)]
      simp only [Bool.false_eq_true, if_false]
      exact ih (by omega) (by omega) h3 fun c hc => h4 c (by omega)
def lastC : List T3 → Int → Int
  | [], f => f
  | o :: os, f => lastC os (max f o.c)
theorem lastC_spec : ∀ (os : List T3) (f : Int), f ≤ lastC os f ∧ (∀ o ∈ os, o.c ≤ lastC os f) ∧ (lastC os f = f ∨ ∃ o ∈ os, lastC os f = o.c) := by
  intro os
  induction os with
  | nil => intro f; exact ⟨Int.le_refl _, fun o ho => (by cases ho), .inl rfl⟩
  | cons o os ih =>
    intro f
    rw [lastC]
    obtain ⟨i1, i2, i3⟩ := ih (max f o.c)
    refine ⟨by omega, fun o' ho => ?_, ?_⟩
    · rcases List.mem_cons.1 ho with rfl | ho
      · omega
      · exact i2 o' ho
    · rcases i3 with h | ⟨o', ho, h⟩
      · by_cases hf : o.c ≤ f
        · left; rw [h]; omega
        · right; exact ⟨o, List.mem_cons_self .., by rw [h]; omega⟩
      · exact .inr ⟨o', List.mem_cons_of_mem _ ho, h⟩
def estOf (ts : List Int) (tk : List T3) (way : List Int) (f : Int) : Int := seek (fits ts tk way) (lastC tk f - f).toNat f
theorem fits_last {ts : List Int} (hts : OkTimes ts) {tk : List T3} {way : List Int} (hw : ∀ t ∈ way, 0 ≤ t ∧ t ≤ (ts.length : Int) - 1) {f : Int} : fits ts tk way (lastC tk f) = true := by
  rw [fits_iff]
  intro s hs o ho
  cases hm : meet s o
  · rfl
  · have h1 := (spGo_ge hts hw s hs).1
    have h2 := (lastC_spec tk f).2.1 o ho
    have h3 := (meet_iff.1 hm).2.1
    omega
theorem est_eq {ts : List Int} {tk : List T3} {way : List Int} {f r : Int} (h1 : f ≤ r) (h2 : r ≤ lastC tk f) (h3 : fits ts tk way r = true) (h4 : ∀ c, f ≤ c → c < r → fits ts tk way c = false) : estOf ts tk way f = r :=
  seek_eq h1 (by omega) h3 h4
theorem seek_spec {p : Int → Bool} : ∀ {n : Nat} {b : Int}, p (b + n) = true → b ≤ seek p n b ∧ seek p n b ≤ b + n ∧ p (seek p n b) = true ∧ ∀ c, b ≤ c → c < seek p n b → p c = false := by
  intro n
  induction n with
  | zero => intro b h; rw [seek]; simp at h; exact ⟨by omega, by omega, h, fun c _ _ => by omega⟩
  | succ n ih =>
    intro b h
    rw [seek]
    cases hb : p b
    · simp only [Bool.false_eq_true, if_false]
      obtain ⟨i1, i2, i3, i4⟩ := ih (b := b + 1) (by rw [show b + 1 + (n : Int) = b + ((n + 1 : Nat) : Int) by omega]; exact h)
      refine ⟨by omega, by omega, i3, fun c h1 h2 => ?_⟩
      by_cases hc : c = b
      · rw [hc]; exact hb
      · exact i4 c (by omega) h2
    · simp only [if_true]
      exact ⟨by omega, by omega, hb, fun c _ _ => by omega⟩
theorem est_spec {ts : List Int} (hts : OkTimes ts) {tk : List T3} {way : List Int} (hw : ∀ t ∈ way, 0 ≤ t ∧ t ≤ (ts.length : Int) - 1) (f : Int) : f ≤ estOf ts tk way f ∧ estOf ts tk way f ≤ lastC tk f ∧ fits ts tk way (estOf ts tk way f) = true ∧ ∀ c, f ≤ c → c < estOf ts tk way f → fits ts tk way c = false := by
  have hl := (lastC_spec tk f).1
  obtain ⟨i1, i2, i3, i4⟩ := seek_spec (p := fits ts tk way) (n := (lastC tk f - f).toNat) (b := f) (by rw [show f + (((lastC tk f - f).toNat : Nat) : Int) = lastC tk f by omega]; exact fits_last hts hw)
  exact ⟨i1, by unfold estOf; omega, i3, i4⟩
/-- The ticks at which a run leaves a span's end in the same tube. -/
def candJ (ts : List Int) (o : T3) : Int → List Int → List Int
  | _, [] => []
  | bf, t :: r => if t = o.a then (o.c - bf) :: candJ ts o (bf + tmOf ts t) r else candJ ts o (bf + tmOf ts t) r
theorem cand_mem {ts : List Int} {o : T3} : ∀ {way : List Int} {g bf : Int} {s : T3}, s ∈ spGo ts (g + bf) way → s.a = o.a → s.b = o.c → g ∈ candJ ts o bf way := by
  intro way
  induction way with
  | nil => intro g bf s hs; cases hs
  | cons t r ih =>
    intro g bf s hs h1 h2
    rw [spGo] at hs
    rw [candJ]
    rcases List.mem_cons.1 hs with rfl | hs
    · dsimp only at h1 h2
      rw [if_pos h1]
      exact List.mem_cons.2 (.inl (by omega))
    · rw [show g + bf + tmOf ts t = g + (bf + tmOf ts t) by omega] at hs
      split
      · exact List.mem_cons_of_mem _ (ih hs h1 h2)
      · exact ih hs h1 h2
def stepB (p : Int → Bool) (f best c : Int) : Int := if f ≤ c ∧ (best < 0 ∨ c < best) ∧ p c = true then c else best
def foldB (p : Int → Bool) (f : Int) : List Int → Int → Int
  | [], b => b
  | c :: cs, b => foldB p f cs (stepB p f b c)
theorem foldB_append (p : Int → Bool) (f : Int) : ∀ (us vs : List Int) (b : Int), foldB p f (us ++ vs) b = foldB p f vs (foldB p f us b) := by
  intro us
  induction us with
  | nil => intro vs b; rfl
  | cons c us ih => intro vs b; rw [List.cons_append, foldB, foldB, ih]
theorem foldB_spec {p : Int → Bool} {f : Int} (hf : 0 ≤ f) : ∀ (cs : List Int) (b : Int), (b = -1 ∨ (f ≤ b ∧ p b = true)) → (foldB p f cs b = -1 ∨ (f ≤ foldB p f cs b ∧ p (foldB p f cs b) = true)) ∧ (0 ≤ b → 0 ≤ foldB p f cs b ∧ foldB p f cs b ≤ b) ∧ ∀ c ∈ cs, f ≤ c → p c = true → 0 ≤ foldB p f cs b ∧ foldB p f cs b ≤ c := by
  intro cs
  induction cs with
  | nil => intro b h; exact ⟨h, fun h => ⟨h, Int.le_refl _⟩, fun c hc => (by cases hc)⟩
  | cons c cs ih =>
    intro b h
    rw [foldB]
    have hs : stepB p f b c = -1 ∨ (f ≤ stepB p f b c ∧ p (stepB p f b c) = true) := by
      unfold stepB; split
      · rename_i hh; exact .inr ⟨hh.1, hh.2.2⟩
      · exact h
    obtain ⟨i1, i2, i3⟩ := ih _ hs
    have hle : 0 ≤ b → 0 ≤ stepB p f b c ∧ stepB p f b c ≤ b := fun hb => by
      unfold stepB; split
      · omega
      · omega
    refine ⟨i1, fun hb => ?_, fun c' hc h1 h2 => ?_⟩
    · have h1 := hle hb; have h2 := i2 h1.1; omega
    · rcases List.mem_cons.1 hc with rfl | hc
      · have h3 : 0 ≤ stepB p f b c' ∧ stepB p f b c' ≤ c' := by
          unfold stepB
          by_cases hb : b < 0 ∨ c' < b
          · rw [if_pos ⟨h1, hb, h2⟩]; omega
          · rw [if_neg fun k => hb k.2.1]; omega
        have := i2 h3.1; omega
      · exact i3 c' hc h1 h2
/-- The least of the ticks that the reference tries is the earliest start. -/
theorem best_est {ts : List Int} (hts : OkTimes ts) {tk : List T3} {way : List Int} (hw : ∀ t ∈ way, 0 ≤ t ∧ t ≤ (ts.length : Int) - 1) {f : Int} (hf : 0 ≤ f) (hn : fits ts tk way f = false) : foldB (fits ts tk way) f (tk.flatMap fun o => candJ ts o 0 way) (-1) = estOf ts tk way f := by
  obtain ⟨e1, e2, e3, e4⟩ := est_spec (tk := tk) hts hw f
  generalize hr : estOf ts tk way f = r at *
  have hfr : f < r := by
    by_cases h : r = f
    · rw [h, hn] at e3; cases e3
    · omega
  have hp := e4 (r - 1) (by omega) (by omega)
  have hmem : r ∈ tk.flatMap fun o => candJ ts o 0 way := by
    have hex : ∃ s ∈ spGo ts (r - 1) way, ∃ o ∈ tk, meet s o = true := by
      refine Classical.byContradiction fun hne => ?_
      have : fits ts tk way (r - 1) = true := fits_iff.2 fun s hs o ho => by
        cases hm : meet s o
        · rfl
        · exact absurd ⟨s, hs, o, ho, hm⟩ hne
      rw [hp] at this; cases this
    obtain ⟨s, hs, o, ho, hm⟩ := hex
    obtain ⟨m1, m2, m3⟩ := meet_iff.1 hm
    have hs' : (⟨s.a, s.b + 1, s.c + 1⟩ : T3) ∈ spGo ts r way := by
      have := spGo_shift ts 1 way (r - 1)
      rw [show r - 1 + 1 = r by omega] at this
      rw [this]
      exact List.mem_map.2 ⟨s, hs, rfl⟩
    have hnm := fits_iff.1 e3 _ hs' o ho
    have hsb : s.b + 1 = o.c := by
      refine Classical.byContradiction fun hne => ?_
      have : meet ⟨s.a, s.b + 1, s.c + 1⟩ o = true := meet_iff.2 ⟨m1, by dsimp only; omega, by dsimp only; omega⟩
      rw [hnm] at this; cases this
    exact List.mem_flatMap.2 ⟨o, ho, cand_mem (s := ⟨s.a, s.b + 1, s.c + 1⟩) (by rw [Int.add_zero]; exact hs') m1 hsb⟩
  obtain ⟨i1, _, i3⟩ := foldB_spec (p := fits ts tk way) hf (tk.flatMap fun o => candJ ts o 0 way) (-1) (.inl rfl)
  have h3 := i3 r hmem (by omega) e3
  rcases i1 with h | ⟨h1, h2⟩
  · omega
  · refine Classical.byContradiction fun hne => ?_
    have := e4 _ h1 (by omega)
    rw [this] at h2; cases h2
end Go.Proofs.YtaajkmjilcamgaaDoor
namespace Go.Proofs.YtaajkmjilcamgaaDoor
open Go.RowKit

def okTimes (ts : List Int) : Bool := inB 1 24 ts.length && ts.all (inB 1 1000)
def okWayB (ts way : List Int) : Bool := inB 1 12 way.length && way.all (inB 0 ((ts.length : Int) - 1))
def okWishB (ts : List Int) (e : TN) : Bool := okWayB ts e.way && (inB 0 10000 e.p && inB 0 10000 e.q)
def okRunB (ts : List Int) (e : TN) : Bool := okWayB ts e.way && inB 0 100000 e.p
def vWishes (ts : List Int) (l : List TN) : Bool := okTimes ts && (decide (l.length ≤ 6) && l.all (okWishB ts))
def vRuns (ts : List Int) (l : List TN) : Bool := okTimes ts && (decide (l.length ≤ 12) && l.all (okRunB ts))
theorem okTimes_iff {ts : List Int} : okTimes ts = true ↔ OkTimes ts := by
  unfold okTimes OkTimes
  rw [Bool.and_eq_true, inB_iff, List.all_eq_true]
  constructor
  · intro h; exact ⟨⟨by omega, by omega⟩, fun z hz => inB_iff.1 (h.2 z hz)⟩
  · intro h; exact ⟨⟨by omega, by omega⟩, fun z hz => inB_iff.2 (h.2 z hz)⟩
theorem okWay_iff {ts way : List Int} : okWayB ts way = true ↔ OkWay ts way := by
  unfold okWayB OkWay
  rw [Bool.and_eq_true, inB_iff, List.all_eq_true]
  constructor
  · intro h; exact ⟨⟨by omega, by omega⟩, fun z hz => inB_iff.1 (h.2 z hz)⟩
  · intro h; exact ⟨⟨by omega, by omega⟩, fun z hz => inB_iff.2 (h.2 z hz)⟩
def OkWish (ts : List Int) (e : TN) : Prop := OkWay ts e.way ∧ (0 ≤ e.p ∧ e.p ≤ 10000) ∧ (0 ≤ e.q ∧ e.q ≤ 10000)
def OkRun (ts : List Int) (e : TN) : Prop := OkWay ts e.way ∧ (0 ≤ e.p ∧ e.p ≤ 100000)
theorem vWishes_iff {ts : List Int} {l : List TN} : vWishes ts l = true ↔ OkTimes ts ∧ l.length ≤ 6 ∧ ∀ e ∈ l, OkWish ts e := by
  unfold vWishes OkWish okWishB
  simp only [Bool.and_eq_true, okTimes_iff, decide_eq_true_eq, List.all_eq_true, okWay_iff, inB_iff]
theorem vRuns_iff {ts : List Int} {l : List TN} : vRuns ts l = true ↔ OkTimes ts ∧ l.length ≤ 12 ∧ ∀ e ∈ l, OkRun ts e := by
  unfold vRuns OkRun okRunB
  simp only [Bool.and_eq_true, okTimes_iff, decide_eq_true_eq, List.all_eq_true, okWay_iff, inB_iff]
end Go.Proofs.YtaajkmjilcamgaaDoor
namespace Go.Proofs.YtaajkmjilcamgaaDoor
open Go.RowKit

def hasI (xs : List Int) (v : Int) : Bool := xs.any fun z => decide (z = v)
def ordGo (n : Int) : List Int → List Int → Bool
  | _, [] => true
  | pre, k :: r => inB 0 (n - 1) k && (!hasI pre k && ordGo n (pre ++ [k]) r)
def ordOk (n : Nat) (order : List Int) : Bool := ordGo n [] order && decide (order.length = n)
def codeO (ts : List Int) (l : List TN) (order : List Int) : Int := if vWishes ts l = true then (if ordOk l.length order = true then 0 else 2) else 1
theorem ordGo_drop {n : Int} {xs : List Int} {k : Nat} {z : Int} (h : xs[k]? = some z) : ordGo n (xs.take k) (xs.drop k) = (inB 0 (n - 1) z && (!hasI (xs.take k) z && ordGo n (xs.take (k + 1)) (xs.drop (k + 1)))) := by
  obtain ⟨hl, he⟩ := List.getElem?_eq_some_iff.1 h
  rw [drop_cons h, ordGo, List.take_succ_eq_append_getElem hl, he]
theorem cap_of {e : TypeId} {s : Nat} {w : World} {lo hi : Nat} {v : Value} {n : Nat} {xs : List Value} (h : OwnV e s w lo hi v n xs) : ∀ A m c, v = .slice A m c → m ≤ c := by
  intro A m c hv
  rcases h.2.2 with ⟨h0, _⟩ | ⟨ho, _⟩
  · obtain ⟨A', c', he⟩ := h.1
    rw [hv] at he
    simp only [Value.slice.injEq] at he
    omega
  · obtain ⟨A', c', he, hle, _⟩ := own_shape ho
    rw [hv] at he
    simp only [Value.slice.injEq] at he
    omega
theorem RdI.take {w : World} {B : Nat} {A : Option Addr} {xs : List Int} (h : RdI w B A xs) (k : Nat) : RdI w B A (xs.take k) := fun hn => by
  obtain ⟨b, o, hA, hb, hc⟩ := h (by intro e; apply hn; rw [List.map_eq_nil_iff] at e; rw [e]; simp)
  refine ⟨b, o, hA, hb, fun j u hu => hc j u ?_⟩
  rw [List.getElem?_map] at hu ⊢
  by_cases hj : j < k
  · rw [List.getElem?_take_of_lt hj] at hu; exact hu
  · rw [List.getElem?_eq_none (by rw [List.length_take]; omega)] at hu; cases hu
end Go.Proofs.YtaajkmjilcamgaaDoor
namespace Go.Proofs.YtaajkmjilcamgaaDoor
open Go.RowKit
def RdS (w : World) (B : Nat) (A : Option Addr) (xs : List ByteArray) : Prop := Rd w B A (xs.map Value.string)
theorem RdS.below {w w' : World} {B : Nat} {A : Option Addr} {xs : List ByteArray} (h : RdS w B A xs) (k : Below B w w') : RdS w' B A xs := Rd.below h k
theorem RdS.more {w : World} {B B' : Nat} {A : Option Addr} {xs : List ByteArray} (h : RdS w B A xs) (k : B ≤ B') : RdS w B' A xs := Rd.more h k
theorem RdS.at_ {w : World} {B : Nat} {A : Option Addr} {xs : List ByteArray} (h : RdS w B A xs) {j : Nat} (hj : j < xs.length) : ∃ b o s, A = some ⟨b, o, none⟩ ∧ b < B ∧ xs[j]? = some s ∧ w.cell? ⟨b, o + j, none⟩ = some (.string s) := by
  obtain ⟨b, o, u, hA, hb, hu, hc⟩ := Rd.at_ h (j := j) (by rw [List.length_map]; exact hj)
  rw [List.getElem?_map] at hu
  cases hx : xs[j]? with
  | none => rw [hx] at hu; cases hu
  | some s => rw [hx] at hu; cases hu; exact ⟨b, o, s, hA, hb, rfl, hc⟩
theorem RdS.take {w : World} {B b o : Nat} {xs : List ByteArray} (h : RdS w B (some ⟨b, o, none⟩) xs) (k : Nat) : RdS w B (some ⟨b, o, none⟩) (xs.take k) := fun hn => by
  have hn2 : xs.map Value.string ≠ [] := by
    intro e
    apply hn
    rw [List.map_take, e, List.take_nil]
  obtain ⟨b', o', hA, hb, hc⟩ := h hn2
  refine ⟨b', o', hA, hb, fun j u hu => hc j u ?_⟩
  rw [List.map_take, List.getElem?_take] at hu
  split at hu
  · exact hu
  · cases hu
theorem txt_eq (a b : ByteArray) : (a.toList == b.toList) = decide (a = b) := by
  rw [ByteArray.toList_eq, ByteArray.toList_eq]
  by_cases h : a = b
  · subst h; simp
  · rw [decide_eq_false h, beq_eq_false_iff_ne]
    intro e
    exact h (ByteArray.ext (Array.toList_inj.mp e))
def hasS (xs : List ByteArray) (v : ByteArray) : Bool := xs.any fun z => decide (z = v)
def txt (ws : List ByteArray) (i : Nat) : ByteArray := (ws[i]?).getD ByteArray.empty
theorem txt_get {ws : List ByteArray} {i : Nat} {s : ByteArray} (h : ws[i]? = some s) : txt ws i = s := by unfold txt; rw [h]; rfl
/-- The word with number i is an address beside those before it. -/
def okA (n : Int) (ws : List ByteArray) (i : Nat) : Bool := wordB n (txt ws i) && (decide ((txt ws i).size = (txt ws 0).size) && !hasS (ws.take i) (txt ws i))
def okN (n : Int) (ws : List ByteArray) : Nat → Nat → Bool
  | _, 0 => true
  | i, m + 1 => okA n ws i && okN n ws (i + 1) m
def addrs (n : Int) (ws : List ByteArray) : Bool := decide (2 ≤ n ∧ n ≤ 4) && (decide (ws.length ≤ 40) && okN n ws 0 ws.length)
theorem addrs_signs {n : Int} {ws : List ByteArray} (h : ¬ (2 ≤ n ∧ n ≤ 4)) : addrs n ws = false := by unfold addrs; rw [decide_eq_false h]; rfl
theorem addrs_long {n : Int} {ws : List ByteArray} (h : ¬ ws.length ≤ 40) : addrs n ws = false := by unfold addrs; rw [decide_eq_false h]; simp
theorem addrs_eq {n : Int} {ws : List ByteArray} (h : 2 ≤ n ∧ n ≤ 4) (k : ws.length ≤ 40) : addrs n ws = okN n ws 0 ws.length := by unfold addrs; rw [decide_eq_true h, decide_eq_true k]; rfl
set_option maxRecDepth 100000 in
set_option maxHeartbeats 1000000 in
theorem indexS_any (xs : List ByteArray) (v : ByteArray) (A : Option Addr) (c : Nat) (w : World) (hx : xs.length ≤ 1048576) (h1 : RdS w w.heap.size A xs) :
    Calls Tryd.prog 56 #[.slice A xs.length c, .string v] w fun e w' => e = .returned (.int .i64 (firstI (fun z => decide (z = v)) xs 0)) ∧ w = w' := by
  have HX := hide h1; clear h1
  go_enter Tryd.func56, Tryd.ntmps56
  go_wp2_with fail
  go_loopg [8] xs.length (fun g i wr => ∃ k : Nat, k ≤ xs.length ∧ Hid (g = xs.length - k) ∧ i = .int .i64 k ∧ Hid (firstI (fun z => decide (z = v)) xs 0 = firstI (fun z => decide (z = v)) (xs.drop k) k) ∧ wr = w)
  case atStart => exact ⟨0, by omega, by simp [Hid], rfl, by simp [Hid], rfl⟩
  case round =>
    obtain ⟨k, hk, hg, rfl, HS, rfl⟩ := hrel
    by_cases hlt : k < xs.length
    · obtain ⟨b1, o1, z1, rfl, _, hz1, hca⟩ := HX.out.at_ hlt
      have HS' := HS.out
      rw [drop_cons hz1, firstI] at HS'
      have HQ := hide HS'
      clear HS' HS hz1
      by_cases he : z1 = v
      · have HN := hide (show firstI (fun z => decide (z = v)) xs 0 = k by rw [HQ.out, if_pos (decide_eq_true he)])
        have hB : (v.toList == z1.toList) = true := by rw [txt_eq, he]; simp
        clear he
        go_wp2_with fail
        go_ret
        exact ⟨ret_i HN.out.symm, rfl⟩
      · have HN := hide (show firstI (fun z => decide (z = v)) xs 0 = firstI (fun z => decide (z = v)) (xs.drop (k + 1)) (k + 1) by rw [HQ.out, if_neg (by simp [he])])
        have hB : (v.toList == z1.toList) = false := by rw [txt_eq]; exact decide_eq_false fun e => he e.symm
        clear he
        go_wp2_with fail
        go_roundg (xs.length - (k + 1))
        case measure => have := hg.out; omega
        case rel => exact ⟨k + 1, by omega, rfl, by go_num, HN, rfl⟩
    · have HN := hide (HS.out.trans (by rw [List.drop_eq_nil_of_le (by omega), firstI] : _ = (-1 : Int)))
      go_wp2_with fail
      go_ret
      exact ⟨ret_i HN.out.symm, rfl⟩
set_option maxRecDepth 100000 in
set_option maxHeartbeats 1000000 in
theorem containsS_any (xs : List ByteArray) (v : ByteArray) (A : Option Addr) (c : Nat) (w : World) (hx : xs.length ≤ 1048576) (h1 : RdS w w.heap.size A xs) :
    Calls Tryd.prog 53 #[.slice A xs.length c, .string v] w fun e w' => e = .returned (.bool (hasS xs v)) ∧ w = w' := by
  have HC := hide (indexS_any xs v A c w hx h1)
  have HE := hide (firstI_ge (fun z => decide (z = v)) xs 0)
  clear h1
  go_enter Tryd.func53, Tryd.ntmps53
  go_wp2_with (go_at_call 56; refine (HC.out).mono ?_; rintro e w' ⟨rfl, rfl⟩)
  go_ret
  exact ⟨ret_b HE.out, rfl⟩
end Go.Proofs.YtaajkmjilcamgaaDoor
