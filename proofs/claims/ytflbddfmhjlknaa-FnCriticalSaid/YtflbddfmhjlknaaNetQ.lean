/-
  Networks, the plain law: what is reached from what is reached; strong ones; tubes from a station.
-/
import Derived.Test.YtflbddfmhjlknaaNet4
import Derived.Test.YtflbddfmhjlknaaSrc9
namespace Go.Proofs.Ytflbddfmhjlknaa

theorem ok_tubes {n : Nat} {tb : List T3} (h : OkNet n tb) : OkTubes n tb := fun t ht => by
  obtain ⟨h1, h2, _, h3⟩ := h.2.2 t ht
  exact ⟨by omega, by omega, h3⟩
theorem idx_mem {α : Type} (p : α → Bool) : ∀ (xs : List α) (k : Nat) (z : Int), z ∈ idxFrom p xs k ↔ ∃ (j : Nat) (x : α), z = ((k + j : Nat) : Int) ∧ xs[j]? = some x ∧ p x = true := by
  intro xs
  induction xs with
  | nil => intro k z; simp [idxFrom]
  | cons y xs ih =>
    intro k z
    unfold idxFrom
    constructor
    · intro h
      by_cases hp : p y = true
      · rw [if_pos hp] at h
        rcases List.mem_cons.1 h with rfl | h
        · exact ⟨0, y, rfl, rfl, hp⟩
        · obtain ⟨j, x, rfl, h2, h3⟩ := (ih (k + 1) z).1 h
          exact ⟨j + 1, x, by congr 1; omega, by simpa using h2, h3⟩
      · rw [if_neg hp] at h
        obtain ⟨j, x, rfl, h2, h3⟩ := (ih (k + 1) z).1 h
        exact ⟨j + 1, x, by congr 1; omega, by simpa using h2, h3⟩
    · rintro ⟨j, x, rfl, h2, h3⟩
      cases j with
      | zero =>
        simp at h2; subst h2
        rw [if_pos h3]; exact List.mem_cons_self ..
      | succ j =>
        have h4 := (ih (k + 1) ((k + 1 + j : Nat) : Int)).2 ⟨j, x, rfl, by simpa using h2, h3⟩
        rw [show k + (j + 1) = k + 1 + j by omega]
        split
        · exact List.mem_cons_of_mem _ h4
        · exact h4
theorem idx_ge {α : Type} (p : α → Bool) (xs : List α) (k : Nat) : ∀ z ∈ idxFrom p xs k, (k : Int) ≤ z ∧ z < ((k + xs.length : Nat) : Int) := fun z hz => by
  obtain ⟨j, x, rfl, h2, _⟩ := (idx_mem p xs k z).1 hz
  have := (List.getElem?_eq_some_iff.1 h2).1
  omega
theorem idx_up {α : Type} (p : α → Bool) : ∀ (xs : List α) (k : Nat), (idxFrom p xs k).Pairwise (· < ·) := by
  intro xs
  induction xs with
  | nil => intro k; exact List.Pairwise.nil
  | cons y xs ih =>
    intro k
    unfold idxFrom
    split
    · refine List.pairwise_cons.2 ⟨fun z hz => ?_, ih (k + 1)⟩
      have := (idx_ge p xs (k + 1) z hz).1
      omega
    · exact ih (k + 1)
theorem idx_rises {α : Type} (p : α → Bool) (xs : List α) : Rises (idxFrom p xs 0) xs.length := by
  refine ⟨fun z hz => ?_, fun k a b ha hb => ?_⟩
  · have := idx_ge p xs 0 z hz
    omega
  · obtain ⟨h1, rfl⟩ := List.getElem?_eq_some_iff.1 ha
    obtain ⟨h2, rfl⟩ := List.getElem?_eq_some_iff.1 hb
    exact (List.pairwise_iff_getElem.1 (idx_up p xs 0)) k (k + 1) h1 h2 (by omega)
theorem idx_full {α : Type} (p : α → Bool) : ∀ (x : List α) (k : Nat), (idxFrom p x k).length = x.length ↔ x.all p = true := by
  intro x
  induction x with
  | nil => intro k; simp [idxFrom]
  | cons z x ih =>
    intro k
    have hl := idxFrom_len p x (k + 1)
    unfold idxFrom
    by_cases h : p z = true
    · rw [if_pos h, List.length_cons, List.length_cons, List.all_cons, h, Bool.true_and, ← ih (k + 1)]; omega
    · have hf : p z = false := by simpa using h
      rw [if_neg h, List.length_cons, List.all_cons, hf, Bool.false_and]
      constructor
      · intro h2; omega
      · intro h2; cases h2
theorem hasI_mem {xs : List Int} {v : Int} : hasI xs v = true ↔ v ∈ xs := by simp [hasI]
theorem reach_iff {n : Nat} {tb : List T3} (h : OkNet n tb) {s : Int} (hs : 0 ≤ s) {k : Nat} (hk : k < n) : reachP n tb s k = true ↔ ∃ p, wk tb (-1) p s k := by
  unfold reachP
  rw [decide_eq_true_eq]
  exact dist_iff (ok_tubes h) (by omega) (by omega) hs
theorem reach_mem {n : Nat} {tb : List T3} {s z : Int} : hasI (reachL n tb s) z = true ↔ ∃ k : Nat, k < n ∧ z = (k : Int) ∧ reachP n tb s k = true := by
  rw [hasI_mem]
  unfold reachL
  rw [idx_mem]
  constructor
  · rintro ⟨j, x, rfl, h2, h3⟩
    obtain ⟨h4, h5⟩ := List.getElem?_eq_some_iff.1 h2
    rw [List.getElem_range] at h5
    subst h5
    rw [List.length_range] at h4
    exact ⟨j, h4, by congr 1; omega, h3⟩
  · rintro ⟨k, hk, rfl, h3⟩
    exact ⟨k, k, by congr 1; omega, range_get hk, h3⟩
theorem reach_self {n : Nat} {tb : List T3} (h : OkNet n tb) {i : Nat} (hi : i < n) : hasI (reachL n tb i) i = true :=
  reach_mem.2 ⟨i, hi, rfl, (reach_iff h (by omega) hi).2 ⟨[], rfl⟩⟩
theorem reach_next {n : Nat} {tb : List T3} (h : OkNet n tb) {i : Nat} {k : Nat} {t : T3} (ht : tb[k]? = some t) (ha : hasI (reachL n tb i) t.a = true) : hasI (reachL n tb i) t.b = true := by
  obtain ⟨a, ha1, ha2, ha3⟩ := reach_mem.1 ha
  obtain ⟨p, hp⟩ := (reach_iff h (by omega) ha1).1 ha3
  obtain ⟨_, ⟨hb0, hb1⟩, _, _⟩ := h.2.2 t (List.mem_of_getElem? ht)
  obtain ⟨b, hb⟩ := Int.eq_ofNat_of_zero_le hb0
  refine reach_mem.2 ⟨b, by omega, hb, (reach_iff h (by omega) (by omega)).2 ⟨p ++ [(k : Int)], wk_append.2 ⟨_, hp, ?_⟩⟩⟩
  exact ⟨by omega, by omega, t, by rw [Int.toNat_natCast]; exact ht, ha2, hb⟩
theorem tubes_mem {tb : List T3} {s : Int} {k : Nat} {t : T3} (ht : tb[k]? = some t) : hasI (tubesL tb s) k = (t.a == s) := by
  rw [Bool.eq_iff_iff, hasI_mem]
  unfold tubesL
  rw [idx_mem]
  constructor
  · rintro ⟨j, x, hj, h2, h3⟩
    obtain rfl : k = j := by omega
    rw [ht] at h2
    injection h2 with h2
    subst h2
    exact h3
  · intro h
    exact ⟨k, t, by congr 1; omega, ht, h⟩
theorem reach_dist {n : Nat} {tb : List T3} {s z : Int} (hz : z ∈ reachL n tb s) : (0 ≤ z ∧ z < n) ∧ 0 ≤ dAt (dist n tb z (-1)) s := by
  obtain ⟨k, hk, rfl, h3⟩ := reach_mem.1 (hasI_mem.2 hz)
  exact ⟨by omega, by simpa [reachP] using h3⟩
theorem gap_iff {n : Nat} {tb : List T3} (h : OkNet n tb) {wo : Int} {k : Nat} (hk : k < n) : noGap n tb wo k = true ↔ ∀ v : Nat, v < n → 0 ≤ dAt (dist n tb k wo) v := by
  have hl := dist_len n tb k wo
  unfold noGap
  rw [Bool.not_eq_true', ← Bool.not_eq_true, hasI_mem]
  constructor
  · intro hn v hv
    by_cases hc : 0 ≤ dAt (dist n tb k wo) v
    · exact hc
    · exfalso
      have h1 := dist_neg (ok_tubes h) (wo := wo) (by omega : (0 : Int) ≤ (k : Int)) (by omega) (by omega : (0 : Int) ≤ (v : Int)) (by omega)
      have h2 := List.getElem?_eq_getElem (show v < (dist n tb k wo).length by omega)
      have h3 : dAt (dist n tb k wo) v = (dist n tb k wo)[v] := by unfold dAt; rw [Int.toNat_natCast, h2]; rfl
      rw [h1] at h3
      exact hn (by rw [h3]; exact List.getElem_mem _)
  · intro hv hm
    obtain ⟨j, hj, he⟩ := List.mem_iff_getElem.1 hm
    have h2 := List.getElem?_eq_getElem hj
    have h3 : dAt (dist n tb k wo) j = (dist n tb k wo)[j] := by unfold dAt; rw [Int.toNat_natCast, h2]; rfl
    have := hv j (by omega)
    omega
theorem strong_iff {n : Nat} {tb : List T3} (h : OkNet n tb) {wo : Int} : strongB n tb wo = true ↔ ∀ k v : Nat, k < n → v < n → 0 ≤ dAt (dist n tb k wo) v := by
  unfold strongB
  rw [List.all_eq_true]
  constructor
  · intro h1 k v hk hv
    exact (gap_iff h hk).1 (h1 k (List.mem_range.2 hk)) v hv
  · intro h1 k hk
    exact (gap_iff h (List.mem_range.1 hk)).2 fun v hv => h1 k v (List.mem_range.1 hk) hv
theorem strong_all {n : Nat} {tb : List T3} (h : OkNet n tb) : strongB n tb (-1) = (List.range n).all fun i : Nat => decide ((reachL n tb i).length = n) := by
  rw [Bool.eq_iff_iff, strong_iff h, List.all_eq_true]
  constructor
  · intro h1 i hi
    rw [decide_eq_true_eq]
    have h2 := (idx_full (reachP n tb i) (List.range n) 0).2 (List.all_eq_true.2 fun k hk => by
      unfold reachP; exact decide_eq_true (h1 k i (List.mem_range.1 hk) (List.mem_range.1 hi)))
    rw [List.length_range] at h2
    exact h2
  · intro h1 k v hk hv
    have h2 := h1 v (List.mem_range.2 hv)
    rw [decide_eq_true_eq] at h2
    have h3 := List.all_eq_true.1 ((idx_full (reachP n tb v) (List.range n) 0).1 (by rw [List.length_range]; exact h2)) k (List.mem_range.2 hk)
    simpa [reachP] using h3
end Go.Proofs.Ytflbddfmhjlknaa
