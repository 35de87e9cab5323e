/-
  Sums, ends and late ones of a plan, taken in the order instead of one by one: plain laws.
-/
import Derived.Test.YtfhociekhffjhaaOrdL
import Derived.Test.YtfhociekhffjhaaRunK2
import Derived.Test.YtfhociekhffjhaaSrc10
namespace Go.Proofs.Ytfhociekhffjhaa
open Go.RowKit

theorem order_perm {ts : List Int} {l : List TN} {order : List Int} (h : codeO ts l order = 0) : order.Perm ((List.range l.length).map fun (j : Nat) => (j : Int)) := by
  have h1 : ((List.range l.length).map fun (j : Nat) => (j : Int)).Nodup :=
    List.pairwise_map.2 ((List.nodup_range (n := l.length)).imp fun {a b} hab e => hab (by omega))
  refine (List.perm_ext_iff_of_nodup (code_good h) h1).2 fun a => ⟨fun ha => ?_, fun ha => ?_⟩
  · have := (codeO_ok h).2.2 a ha
    exact List.mem_map.2 ⟨a.toNat, List.mem_range.2 (by omega), by omega⟩
  · obtain ⟨j, hj, rfl⟩ := List.mem_map.1 ha
    exact order_all h (List.mem_range.1 hj)
def sumG (g : Int → Int) : List Int → Int
  | [] => 0
  | a :: r => g a + sumG g r
def maxG (g : Int → Int) : List Int → Int → Int
  | [], m => m
  | a :: r, m => maxG g r (max m (g a))
theorem sumG_perm {g : Int → Int} {x y : List Int} (h : x.Perm y) : sumG g x = sumG g y := by
  induction h with
  | nil => rfl
  | cons a _ ih => rw [sumG, sumG, ih]
  | swap a b r => simp only [sumG]; omega
  | trans _ _ i1 i2 => exact i1.trans i2
theorem maxG_perm {g : Int → Int} {x y : List Int} (h : x.Perm y) : ∀ m, maxG g x m = maxG g y m := by
  induction h with
  | nil => intro m; rfl
  | cons a _ ih => intro m; rw [maxG, maxG, ih]
  | swap a b r => intro m; simp only [maxG]; congr 1; omega
  | trans _ _ i1 i2 => intro m; exact (i1 m).trans (i2 m)
theorem sumG_snoc (g : Int → Int) (a : Int) : ∀ x : List Int, sumG g (x ++ [a]) = sumG g x + g a := by
  intro x
  induction x with
  | nil => simp [sumG]
  | cons b x ih => rw [List.cons_append, sumG, sumG, ih]; omega
theorem maxG_snoc (g : Int → Int) (a : Int) : ∀ (x : List Int) (m : Int), maxG g (x ++ [a]) m = max (maxG g x m) (g a) := by
  intro x
  induction x with
  | nil => intro m; rfl
  | cons b x ih => intro m; rw [List.cons_append, maxG, maxG, ih]
theorem take_snoc {x : List Int} {k : Nat} {a : Int} (h : x[k]? = some a) : x.take (k + 1) = x.take k ++ [a] := by
  obtain ⟨hk, rfl⟩ := List.getElem?_eq_some_iff.1 h
  rw [List.take_succ_eq_append_getElem hk]
theorem sumG_step {g : Int → Int} {x : List Int} {k : Nat} {a : Int} (h : x[k]? = some a) : sumG g (x.take (k + 1)) = sumG g (x.take k) + g a := by rw [take_snoc h, sumG_snoc]
theorem maxG_step {g : Int → Int} {x : List Int} {k : Nat} {a : Int} (h : x[k]? = some a) (m : Int) : maxG g (x.take (k + 1)) m = max (maxG g (x.take k) m) (g a) := by rw [take_snoc h, maxG_snoc]
/-- The start that a list of starts tells for a wish. -/
def stOf (xs : List Int) (k : Int) : Int := (xs[k.toNat]?).getD 0
theorem dlGo_sum (l : List TN) : ∀ (xs : List Int) (k : Nat) (all : List Int), (∀ j, xs[j]? = all[k + j]?) → dlGo l xs k = sumG (fun i => stOf all i - (wishAt l i).p) ((List.range' k xs.length).map fun (j : Nat) => (j : Int)) := by
  intro xs
  induction xs with
  | nil => intro k all _; rfl
  | cons a xs ih =>
    intro k all h
    rw [dlGo, List.length_cons, List.range'_succ, List.map_cons, sumG, ih (k + 1) all (fun j => by have := h (j + 1); rw [show k + 1 + j = k + (j + 1) by omega, ← this]; rfl)]
    have h0 := h 0
    rw [Nat.add_zero] at h0
    have : stOf all (k : Int) = a := by unfold stOf; rw [Int.toNat_natCast, ← h0]; rfl
    rw [this]
theorem leGo_max (ts : List Int) (l : List TN) : ∀ (xs : List Int) (k : Nat) (m : Int) (all : List Int), (∀ j, xs[j]? = all[k + j]?) → leGo ts l xs k m = maxG (fun i => endGo ts (stOf all i) (wishAt l i).way) ((List.range' k xs.length).map fun (j : Nat) => (j : Int)) m := by
  intro xs
  induction xs with
  | nil => intro k m all _; rfl
  | cons a xs ih =>
    intro k m all h
    have h0 := h 0
    rw [Nat.add_zero] at h0
    have h1 : stOf all (k : Int) = a := by unfold stOf; rw [Int.toNat_natCast, ← h0]; rfl
    rw [leGo, List.length_cons, List.range'_succ, List.map_cons, maxG, ih (k + 1) _ all (fun j => by have := h (j + 1); rw [show k + 1 + j = k + (j + 1) by omega, ← this]; rfl), h1]
theorem dl_order {ts : List Int} {l : List TN} {order : List Int} (h : codeO ts l order = 0) : dlGo l (plan ts l order) 0 = sumG (fun i => stOf (plan ts l order) i - (wishAt l i).p) order := by
  rw [dlGo_sum l _ 0 (plan ts l order) (fun j => by rw [Nat.zero_add]), plan_len, sumG_perm (order_perm h), List.range_eq_range']
theorem le_order {ts : List Int} {l : List TN} {order : List Int} (h : codeO ts l order = 0) : leGo ts l (plan ts l order) 0 0 = maxG (fun i => endGo ts (stOf (plan ts l order) i) (wishAt l i).way) order 0 := by
  rw [leGo_max ts l _ 0 0 (plan ts l order) (fun j => by rw [Nat.zero_add]), plan_len, maxG_perm (order_perm h), List.range_eq_range']
theorem laGo_mem (ts : List Int) (l : List TN) : ∀ (xs : List Int) (k : Nat) (z : Int), z ∈ laGo ts l xs k ↔ ∃ (j : Nat) (s : Int), xs[j]? = some s ∧ z = ((k + j : Nat) : Int) ∧ (wishAt l z).q < endGo ts s (wishAt l z).way := by
  intro xs
  induction xs with
  | nil => intro k z; simp [laGo]
  | cons a xs ih =>
    intro k z
    rw [laGo]
    constructor
    · intro hm
      have hr : z ∈ laGo ts l xs (k + 1) → ∃ (j : Nat) (s : Int), (a :: xs)[j]? = some s ∧ z = ((k + j : Nat) : Int) ∧ (wishAt l z).q < endGo ts s (wishAt l z).way := fun hz => by
        obtain ⟨j, s, h1, h2, h3⟩ := (ih (k + 1) z).1 hz
        exact ⟨j + 1, s, by simpa using h1, by omega, h3⟩
      split at hm
      · rename_i hq
        rcases List.mem_cons.1 hm with rfl | hm
        · exact ⟨0, a, rfl, by simp, hq⟩
        · exact hr hm
      · exact hr hm
    · rintro ⟨j, s, h1, rfl, h3⟩
      cases j with
      | zero =>
        simp at h1; subst h1
        rw [Nat.add_zero] at h3 ⊢
        rw [if_pos h3]; exact List.mem_cons_self ..
      | succ j =>
        have : ((k + (j + 1) : Nat) : Int) ∈ laGo ts l xs (k + 1) := (ih (k + 1) _).2 ⟨j, s, by simpa using h1, by omega, h3⟩
        split
        · exact List.mem_cons_of_mem _ this
        · exact this
theorem laGo_sorted (ts : List Int) (l : List TN) : ∀ (xs : List Int) (k : Nat), (laGo ts l xs k).Pairwise (· < ·) := by
  intro xs
  induction xs with
  | nil => intro k; exact List.Pairwise.nil
  | cons a xs ih =>
    intro k
    rw [laGo]
    split
    · refine List.pairwise_cons.2 ⟨fun z hz => ?_, ih _⟩
      obtain ⟨j, s, _, h2, _⟩ := (laGo_mem ts l xs (k + 1) z).1 hz
      omega
    · exact ih _
theorem rises_of {xs : List Int} {n : Int} (h1 : ∀ z ∈ xs, 0 ≤ z ∧ z < n) (h2 : xs.Pairwise (· < ·)) : Rises xs n := by
  refine ⟨h1, fun k a b ha hb => ?_⟩
  have h := (List.pairwise_iff_getElem.1 h2) k (k + 1) (lt_of_get ha) (lt_of_get hb) (by omega)
  have e1 : xs[k]'(lt_of_get ha) = a := Option.some.inj ((List.getElem?_eq_getElem (lt_of_get ha)).symm.trans ha)
  have e2 : xs[k + 1]'(lt_of_get hb) = b := Option.some.inj ((List.getElem?_eq_getElem (lt_of_get hb)).symm.trans hb)
  rw [e1, e2] at h; exact h
theorem late_rises (ts : List Int) (l : List TN) (order : List Int) : Rises (laGo ts l (plan ts l order) 0) l.length := by
  refine rises_of (fun z hz => ?_) (laGo_sorted ts l _ 0)
  obtain ⟨j, s, h1, h2, _⟩ := (laGo_mem ts l _ 0 z).1 hz
  have := lt_of_get h1
  rw [plan_len] at this
  omega
theorem late_has {ts : List Int} {l : List TN} {order : List Int} {k : Int} (hk : 0 ≤ k) (hl : k < l.length) : hasI (laGo ts l (plan ts l order) 0) k = decide ((wishAt l k).q < endGo ts (stOf (plan ts l order) k) (wishAt l k).way) := by
  have hg : (plan ts l order)[k.toNat]? = some (stOf (plan ts l order) k) := by
    unfold stOf
    rw [List.getElem?_eq_getElem (show k.toNat < (plan ts l order).length by rw [plan_len]; omega)]; rfl
  rw [Bool.eq_iff_iff, hasI_iff, decide_eq_true_eq, laGo_mem]
  constructor
  · rintro ⟨j, s, h1, h2, h3⟩
    obtain rfl : j = k.toNat := by omega
    rw [hg] at h1
    rw [Option.some.inj h1]; exact h3
  · intro h
    exact ⟨k.toNat, _, hg, by omega, h⟩
theorem few_le {ts : List Int} {l : List TN} {order : List Int} (h : codeO ts l order = 0) : 0 ≤ (bestO true ts l).2.1 ∧ (bestO true ts l).2.1 ≤ ((laGo ts l (plan ts l order) 0).length : Int) := by
  obtain ⟨⟨h1, h2, h3⟩, h4, h5⟩ := codeO_ok h
  have := best_le (late := true) (ts := ts) (l := l) (o := order) (vWishes_iff.2 ⟨h1, h2, h3⟩) ⟨fun z hz => h5 z hz, code_good h⟩ h4
  rw [show valO true ts l order = ((laGo ts l (plan ts l order) 0).length : Int) by unfold valO; exact if_pos rfl] at this
  exact this
/-- What the plan's start of the k-th run of the order is. -/
theorem start_spec {ts : List Int} {l : List TN} {order : List Int} (h : codeO ts l order = 0) {i : Nat} {k : Int} (hk : order[i]? = some k) :
    (wishAt l k).p ≤ stOf (plan ts l order) k ∧ 0 ≤ stOf (plan ts l order) k ∧ stOf (plan ts l order) k ≤ 100000 ∧ fits ts (takenOf ts (dnGo ts l (order.take i) [])) (wishAt l k).way (stOf (plan ts l order) k) = true ∧ ((wishAt l k).p < stOf (plan ts l order) k → fits ts (takenOf ts (dnGo ts l (order.take i) [])) (wishAt l k).way (stOf (plan ts l order) k - 1) = false) ∧ dnGo ts l (order.take (i + 1)) [] = dnGo ts l (order.take i) [] ++ [⟨(wishAt l k).way, stOf (plan ts l order) k, 0⟩] := by
  obtain ⟨⟨hts, _, hlo⟩, _, hoi⟩ := codeO_ok h
  have hp := plan_at h hk
  have hst : stOf (plan ts l order) k = startOf ts l (dnGo ts l (order.take i) []) k := by unfold stOf; rw [hp]; rfl
  have hk2 := hoi k (List.mem_of_getElem? hk)
  have hw : OkWish ts (wishAt l k) := by
    have := List.getElem?_eq_getElem (show k.toNat < l.length by omega)
    have h2 := wishAt_get this
    rw [show ((k.toNat : Nat) : Int) = k by omega] at h2
    rw [h2]
    exact hlo _ (List.mem_of_getElem? this)
  have he := est_spec (tk := takenOf ts (dnGo ts l (order.take i) [])) hts hw.1.2 (wishAt l k).p
  have hb := plan_bd h _ (List.mem_of_getElem? hp)
  rw [hst]
  refine ⟨he.1, hb.1, hb.2, he.2.2.1, fun hlt => he.2.2.2 _ ?_ ?_, by rw [take_snoc hk, dnGo_snoc]⟩
  · unfold startOf at hlt ⊢; omega
  · unfold startOf; omega
theorem dn_ok {ts : List Int} {l : List TN} {order : List Int} (h : codeO ts l order = 0) : ∀ k, k ≤ order.length → (dnGo ts l (order.take k) []).length = k ∧ ∀ e ∈ dnGo ts l (order.take k) [], OkWay ts e.way ∧ 0 ≤ e.p ∧ e.p ≤ 100000 := by
  intro k
  induction k with
  | zero => intro _; exact ⟨rfl, fun e he => by cases he⟩
  | succ k ih =>
    intro hk
    obtain ⟨i1, i2⟩ := ih (by omega)
    have hz := List.getElem?_eq_getElem (show k < order.length by omega)
    obtain ⟨_, h1, h2, _, _, h3⟩ := start_spec h hz
    rw [h3]
    refine ⟨by simp [i1], fun e he => ?_⟩
    rcases List.mem_append.1 he with he | he
    · exact i2 e he
    · rw [List.mem_singleton] at he; subst he
      obtain ⟨⟨_, _, hlo⟩, _, hoi⟩ := codeO_ok h
      have hk2 := hoi _ (List.mem_of_getElem? hz)
      have hg := List.getElem?_eq_getElem (show (order[k]).toNat < l.length by omega)
      have h4 := wishAt_get hg
      rw [show (((order[k]).toNat : Nat) : Int) = order[k] by omega] at h4
      exact ⟨by rw [h4]; exact (hlo _ (List.mem_of_getElem? hg)).1, h1, h2⟩
theorem wdrawn_ok {ts : List Int} {l : List TN} (h1 : (1 ≤ ts.length ∧ ts.length ≤ 6) ∧ ∀ z ∈ ts, 1 ≤ z ∧ z ≤ 12) (h2 : l.length ≤ 4 ∧ ∀ e ∈ l, WDrawn ts.length e) : vWishes ts l = true := by
  refine vWishes_iff.2 ⟨⟨⟨h1.1.1, by omega⟩, fun z hz => by have := h1.2 z hz; omega⟩, by omega, fun e he => ?_⟩
  obtain ⟨⟨⟨a1, a2⟩, a3⟩, ⟨b1, b2⟩, ⟨c1, c2⟩⟩ := h2.2 e he
  exact ⟨⟨⟨a1, by omega⟩, a3⟩, ⟨b1, by omega⟩, ⟨c1, by omega⟩⟩
theorem wdrawn_fits {n : Nat} (hn : n ≤ 6) {e : TN} (h : WDrawn n e) : e.Fits := by
  obtain ⟨⟨⟨a1, a2⟩, a3⟩, ⟨b1, b2⟩, ⟨c1, c2⟩⟩ := h
  exact ⟨fun z hz => by have := a3 z hz; omega, ⟨by omega, by omega⟩, ⟨by omega, by omega⟩⟩
end Go.Proofs.Ytfhociekhffjhaa
