/-
  Lists whose elements hold a list of numbers and up to two numbers more: what a slice of them reads, and what is the call's own. Plain lemmas.
-/
import Derived.Test.YtofjnmeblmbnmaaLawH
namespace Go.Proofs.Ytofjnmeblmbnmaa
open Go.RowKit

structure TN where
  way : List Int
  p : Int
  q : Int
def TN.Fits (x : TN) : Prop := (∀ z ∈ x.way, -9223372036854775808 ≤ z ∧ z ≤ 9223372036854775807) ∧ (-9223372036854775808 ≤ x.p ∧ x.p ≤ 9223372036854775807) ∧ (-9223372036854775808 ≤ x.q ∧ x.q ≤ 9223372036854775807)
/-- The cells of an element: its slice's value, and m numbers. -/
def Nc (m : Nat) (x : Value × TN) : List Value := x.1 :: [Value.int .i64 x.2.p, .int .i64 x.2.q].take m
theorem Nc_len {m : Nat} (hm : m ≤ 2) (x : Value × TN) : (Nc m x).length = m + 1 := by simp [Nc]; omega
def WayAt (w : World) (B : Nat) (p : Value × TN) : Prop := ∃ A c, p.1 = .slice A p.2.way.length c ∧ RdI w B A p.2.way
def RN (m : Nat) (w : World) (B : Nat) (A : Option Addr) (x : List TN) : Prop := ∃ ps : List (Value × TN), ps.map (·.2) = x ∧ Rd w B A (ps.flatMap (Nc m)) ∧ ∀ p ∈ ps, WayAt w B p
section
variable {m : Nat} {w w' : World} {B B' : Nat} {A : Option Addr} {x : List TN}
theorem RN.nil (m : Nat) (w : World) (B : Nat) (A : Option Addr) : RN m w B A [] := ⟨[], rfl, Rd.nil _ _ _, fun p hp => by cases hp⟩
theorem RN.below (h : RN m w B A x) (k : Below B w w') : RN m w' B A x := by
  obtain ⟨ps, h1, h2, h3⟩ := h
  refine ⟨ps, h1, h2.below k, fun p hp => ?_⟩
  obtain ⟨A', c, e, r⟩ := h3 p hp
  exact ⟨A', c, e, r.below k⟩
theorem RN.more (h : RN m w B A x) (k : B ≤ B') : RN m w B' A x := by
  obtain ⟨ps, h1, h2, h3⟩ := h
  refine ⟨ps, h1, h2.more k, fun p hp => ?_⟩
  obtain ⟨A', c, e, r⟩ := h3 p hp
  exact ⟨A', c, e, r.more k⟩
theorem RN.at_ (hm : m ≤ 2) (h : RN m w B A x) {k : Nat} (hk : k < x.length) : ∃ b o e Aw cw, A = some ⟨b, o, none⟩ ∧ b < B ∧ x[k]? = some e ∧ RdI w B Aw e.way ∧ w.cell? ⟨b, o + k * (m + 1), none⟩ = some (.slice Aw e.way.length cw) ∧
    (1 ≤ m → w.cell? ⟨b, o + k * (m + 1) + 1, none⟩ = some (.int .i64 e.p)) ∧ (2 ≤ m → w.cell? ⟨b, o + k * (m + 1) + 2, none⟩ = some (.int .i64 e.q)) := by
  obtain ⟨ps, h1, h2, h3⟩ := h
  have hl : ps.length = x.length := by rw [← h1]; simp
  obtain ⟨b, o, p, hA, hb, hp, hc⟩ := Rd.elem (Nc m) (m + 1) (Nc_len hm) h2 (by omega) (k := k) (by omega)
  obtain ⟨Aw, cw, he, hr⟩ := h3 p (List.mem_of_getElem? hp)
  refine ⟨b, o, p.2, Aw, cw, hA, hb, by rw [← h1, List.getElem?_map, hp]; rfl, hr, ?_, fun h => ?_, fun h => ?_⟩
  · have := hc 0 (by omega); rw [Nat.add_zero] at this; rw [this, ← he]; rfl
  · have := hc 1 (by omega)
    rw [this]
    match m, h, hm with
    | 1, _, _ => rfl
    | 2, _, _ => rfl
  · have := hc 2 (by omega)
    rw [this]
    obtain rfl : m = 2 := by omega
    rfl
end
def SmallN (x : List TN) : Prop := x.length + (x.map fun e => e.way.length).sum ≤ 1048576
theorem sum_get {x : List TN} : ∀ {k : Nat} {e : TN}, x[k]? = some e → e.way.length ≤ (x.map fun e => e.way.length).sum := by
  induction x with
  | nil => intro k e h; simp at h
  | cons a x ih =>
    intro k e h
    rw [List.map_cons, List.sum_cons]
    cases k with
    | zero => simp at h; subst h; omega
    | succ k => have := ih (k := k) (by simpa using h); omega
theorem SmallN.way {x : List TN} (h : SmallN x) {k : Nat} {e : TN} (he : x[k]? = some e) : e.way.length ≤ 1048576 := by
  have := sum_get he; unfold SmallN at h; omega
theorem Only.wider {lo hi lo' hi' : Nat} {w w' : World} (h : Only lo hi w w') (h1 : lo' ≤ lo) (h2 : hi ≤ hi') : Only lo' hi' w w' :=
  ⟨h.1, h.2.1, h.2.2.1, h.2.2.2.1, fun k hk ho => h.2.2.2.2 k hk (by omega)⟩
theorem OwnV.tight {e : TypeId} {s : Nat} {w : World} {lo hi g : Nat} {v : Value} {n : Nat} {xs : List Value} (h : OwnV e s w lo hi v n xs) (hg : v.ownBlock = some g) : OwnV e s w g (g + 1) v n xs := by
  refine ⟨h.1, h.2.1, ?_⟩
  rcases h.2.2 with h0 | ⟨ho, hlt⟩
  · exact .inl h0
  · refine .inr ⟨⟨ho.1, ?_⟩, fun g' hg' => by rw [hg] at hg'; cases hg'; omega⟩
    rcases ho.2 with h0 | ⟨g', cap, cur, rfl, hb, hgg, rest⟩
    · exact .inl h0
    · simp [Value.ownBlock] at hg
      subst hg
      exact .inr ⟨g', cap, cur, rfl, Nat.le_refl _, hgg, rest⟩
/-- The elements' lists are rows of the call's own, one behind the other, none in the block. -/
def FamO (w : World) (blk : Option Nat) : Nat → Nat → List (Value × TN) → Prop
  | _, _, [] => True
  | lo, hi, p :: ps => ∃ a b, lo ≤ a ∧ a ≤ b ∧ b ≤ hi ∧ (∀ g, blk = some g → b ≤ g ∨ g < a) ∧ O_Int64S w a b p.1 p.2.way ∧ FamO w blk b hi ps
theorem FamO.kept {w w' : World} {blk : Option Nat} {lo' hi' hi : Nat} (k : Only lo' hi' w w') : ∀ {ps : List (Value × TN)} {lo : Nat}, FamO w blk lo hi ps → (hi ≤ lo' ∨ hi' ≤ lo) → FamO w' blk lo hi ps := by
  intro ps
  induction ps with
  | nil => intro lo _ _; trivial
  | cons p ps ih =>
    intro lo h hd
    obtain ⟨a, b, h1, h2, h3, h4, h5, h6⟩ := h
    exact ⟨a, b, h1, h2, h3, h4, h5.kept k (by omega), ih h6 (by omega)⟩
theorem FamO.keptB {w w' : World} {g hi : Nat} (k : Only g (g + 1) w w') : ∀ {ps : List (Value × TN)} {lo : Nat}, FamO w (some g) lo hi ps → FamO w' (some g) lo hi ps := by
  intro ps
  induction ps with
  | nil => intro lo _; trivial
  | cons p ps ih =>
    intro lo h
    obtain ⟨a, b, h1, h2, h3, h4, h5, h6⟩ := h
    exact ⟨a, b, h1, h2, h3, h4, h5.kept k (by have := h4 g rfl; omega), ih h6⟩
theorem FamO.below {w w' : World} {blk : Option Nat} {B hi : Nat} (k : Below B w w') (hB : hi ≤ B) : ∀ {ps : List (Value × TN)} {lo : Nat}, FamO w blk lo hi ps → FamO w' blk lo hi ps := by
  intro ps
  induction ps with
  | nil => intro lo _; trivial
  | cons p ps ih =>
    intro lo h
    obtain ⟨a, b, h1, h2, h3, h4, h5, h6⟩ := h
    exact ⟨a, b, h1, h2, h3, h4, h5.below k (by omega), ih h6⟩
theorem FamO.widen {w : World} {blk : Option Nat} {hi hi' : Nat} (k2 : hi ≤ hi') : ∀ {ps : List (Value × TN)} {lo lo' : Nat}, FamO w blk lo hi ps → lo' ≤ lo → FamO w blk lo' hi' ps := by
  intro ps
  induction ps with
  | nil => intro lo lo' _ _; trivial
  | cons p ps ih =>
    intro lo lo' h k1
    obtain ⟨a, b, h1, h2, h3, h4, h5, h6⟩ := h
    exact ⟨a, b, by omega, h2, by omega, h4, h5, ih h6 (Nat.le_refl _)⟩
theorem FamO.blk {w : World} {blk blk' : Option Nat} {hi : Nat} : ∀ {ps : List (Value × TN)} {lo : Nat}, FamO w blk lo hi ps → (∀ g, blk' = some g → hi ≤ g ∨ g < lo) → FamO w blk' lo hi ps := by
  intro ps
  induction ps with
  | nil => intro lo _ _; trivial
  | cons p ps ih =>
    intro lo h k
    obtain ⟨a, b, h1, h2, h3, h4, h5, h6⟩ := h
    exact ⟨a, b, h1, h2, h3, fun g hg => by have := k g hg; omega, h5, ih h6 fun g hg => by have := k g hg; omega⟩
theorem FamO.snoc {w : World} {blk : Option Nat} {mid a b hi : Nat} {p : Value × TN} (h1 : mid ≤ a) (h2 : a ≤ b) (h3 : b ≤ hi) (h4 : ∀ g, blk = some g → b ≤ g ∨ g < a) (h5 : O_Int64S w a b p.1 p.2.way) : ∀ {ps : List (Value × TN)} {lo : Nat}, lo ≤ mid → FamO w blk lo mid ps → FamO w blk lo hi (ps ++ [p]) := by
  intro ps
  induction ps with
  | nil => intro lo hl _; exact ⟨a, b, by omega, h2, h3, h4, h5, trivial⟩
  | cons p' ps ih =>
    intro lo hl h
    obtain ⟨a', b', k1, k2, k3, k4, k5, k6⟩ := h
    exact ⟨a', b', k1, k2, by omega, k4, k5, ih k3 k6⟩
theorem FamO.way {w : World} {blk : Option Nat} {hi : Nat} : ∀ {ps : List (Value × TN)} {lo : Nat}, FamO w blk lo hi ps → ∀ p ∈ ps, WayAt w w.heap.size p := by
  intro ps
  induction ps with
  | nil => intro lo _ p hp; cases hp
  | cons p ps ih =>
    intro lo h
    obtain ⟨a, b, h1, h2, h3, h4, h5, h6⟩ := h
    intro p' hp
    rcases List.mem_cons.1 hp with rfl | hp
    · exact h5.r
    · exact ih h6 p' hp
theorem FamO.at_ {w : World} {blk : Option Nat} {hi : Nat} : ∀ {ps : List (Value × TN)} {lo k : Nat} {p : Value × TN}, FamO w blk lo hi ps → ps[k]? = some p → ∃ a b, lo ≤ a ∧ a ≤ b ∧ b ≤ hi ∧ (∀ g, blk = some g → b ≤ g ∨ g < a) ∧ O_Int64S w a b p.1 p.2.way := by
  intro ps
  induction ps with
  | nil => intro lo k p _ h; simp at h
  | cons p' ps ih =>
    intro lo k p h hp
    obtain ⟨a, b, h1, h2, h3, h4, h5, h6⟩ := h
    cases k with
    | zero => simp at hp; subst hp; exact ⟨a, b, h1, h2, h3, h4, h5⟩
    | succ k =>
      obtain ⟨a', b', k1, k2, k3, k4, k5⟩ := ih h6 (k := k) (p := p) (by simpa using hp)
      exact ⟨a', b', by omega, k2, k3, k4, k5⟩
/-- A list of elements, all of it the call's own. -/
def ON (T : TypeId) (m : Nat) (w : World) (lo hi : Nat) (v : Value) (x : List TN) : Prop :=
  ∃ ps : List (Value × TN), ps.map (·.2) = x ∧ OwnV T (m + 1) w lo hi v x.length (ps.flatMap (Nc m)) ∧ FamO w v.ownBlock lo hi ps ∧ SmallN x
section
variable {T : TypeId} {m : Nat} {w w' : World} {lo hi lo' hi' B : Nat} {v : Value} {x : List TN}
theorem ON.small (h : ON T m w lo hi v x) : SmallN x := by obtain ⟨_, _, _, _, h⟩ := h; exact h
theorem ON.kept (h : ON T m w lo hi v x) (k : Only lo' hi' w w') (hd : hi ≤ lo' ∨ hi' ≤ lo) : ON T m w' lo hi v x := by
  obtain ⟨ps, h1, h2, h3, h4⟩ := h
  exact ⟨ps, h1, h2.kept k hd, h3.kept k hd, h4⟩
theorem ON.below (h : ON T m w lo hi v x) (k : Below B w w') (hd : hi ≤ B) : ON T m w' lo hi v x := by
  obtain ⟨ps, h1, h2, h3, h4⟩ := h
  exact ⟨ps, h1, h2.below k hd, h3.below k hd, h4⟩
theorem ON.widen (h : ON T m w lo hi v x) (h1 : lo' ≤ lo) (h2 : hi ≤ hi') : ON T m w lo' hi' v x := by
  obtain ⟨ps, k1, k2, k3, k4⟩ := h
  exact ⟨ps, k1, k2.widen h1 h2, k3.widen h2 h1, k4⟩
theorem ON.nil (T : TypeId) (m : Nat) (w : World) (lo hi : Nat) (A : Option Addr) (c : Nat) : ON T m w lo hi (.slice A 0 c) [] := ⟨[], rfl, OwnV.nil _ _ _ _ _ _ _, trivial, by unfold SmallN; simp⟩
theorem ON.r (h : ON T m w lo hi v x) : ∃ A c, v = .slice A x.length c ∧ RN m w w.heap.size A x := by
  obtain ⟨ps, h1, h2, h3, _⟩ := h
  obtain ⟨A, c, rfl, r⟩ := h2.rd
  exact ⟨A, c, rfl, ps, h1, r, h3.way⟩
end
/-- What the marks make of the elements, and how many marks there are. -/
def mkN (m : Nat) : List TN → Int → List TN
  | [], _ => []
  | e :: es, k => ⟨mark_Int64S e.way k, if 1 ≤ m then k + e.way.length else e.p, if 2 ≤ m then k + e.way.length + 1 else e.q⟩ :: mkN m es (k + e.way.length + m)
def cntN (m : Nat) : List TN → Int
  | [] => 0
  | e :: es => e.way.length + m + cntN m es
theorem mkN_len (m : Nat) : ∀ (x : List TN) (k : Int), (mkN m x k).length = x.length := by
  intro x
  induction x with
  | nil => intro k; rfl
  | cons e es ih => intro k; rw [mkN, List.length_cons, List.length_cons, ih]
theorem mkN_sum (m : Nat) : ∀ (x : List TN) (k : Int), ((mkN m x k).map fun e => e.way.length) = x.map fun e => e.way.length := by
  intro x
  induction x with
  | nil => intro k; rfl
  | cons e es ih => intro k; rw [mkN, List.map_cons, List.map_cons, ih]; simp [mark_Int64S, marks_len]
theorem mkN_small {m : Nat} {x : List TN} {k : Int} (h : SmallN x) : SmallN (mkN m x k) := by unfold SmallN at *; rw [mkN_len, mkN_sum]; exact h
theorem mkN_append (m : Nat) : ∀ (x y : List TN) (k : Int), mkN m (x ++ y) k = mkN m x k ++ mkN m y (k + cntN m x) := by
  intro x
  induction x with
  | nil => intro y k; simp [mkN, cntN]
  | cons e es ih => intro y k; rw [List.cons_append, mkN, mkN, cntN, ih, List.cons_append]; congr 3; omega
theorem cntN_append (m : Nat) : ∀ (x y : List TN), cntN m (x ++ y) = cntN m x + cntN m y := by
  intro x
  induction x with
  | nil => intro y; simp [cntN]
  | cons e es ih => intro y; rw [List.cons_append, cntN, cntN, ih]; omega
theorem cntN_bd (m : Nat) (hm : m ≤ 2) : ∀ (x : List TN), 0 ≤ cntN m x ∧ cntN m x ≤ (x.map fun e => e.way.length).sum + 2 * (x.length : Int) := by
  intro x
  induction x with
  | nil => simp [cntN]
  | cons e es ih => rw [cntN, List.map_cons, List.sum_cons, List.length_cons]; omega
theorem mkN_get (m : Nat) : ∀ {x : List TN} {j : Nat} {e : TN} (k : Int), x[j]? = some e → (mkN m x k)[j]? = some ⟨mark_Int64S e.way (k + cntN m (x.take j)), if 1 ≤ m then k + cntN m (x.take j) + e.way.length else e.p, if 2 ≤ m then k + cntN m (x.take j) + e.way.length + 1 else e.q⟩ := by
  intro x
  induction x with
  | nil => intro j e k h; simp at h
  | cons a x ih =>
    intro j e k h
    cases j with
    | zero => simp at h; subst h; simp [mkN, cntN]
    | succ j =>
      rw [mkN, List.getElem?_cons_succ, ih _ (by simpa using h), List.take_succ_cons, cntN]
      rw [show k + a.way.length + m + cntN m (x.take j) = k + (a.way.length + m + cntN m (x.take j)) by omega]
theorem cntN_take {m : Nat} {x : List TN} {j : Nat} {e : TN} (h : x[j]? = some e) : cntN m (x.take (j + 1)) = cntN m (x.take j) + (e.way.length + m) := by
  obtain ⟨hl, he⟩ := List.getElem?_eq_some_iff.1 h
  rw [List.take_succ_eq_append_getElem hl, he, cntN_append, cntN, cntN]; omega
end Go.Proofs.Ytofjnmeblmbnmaa
