/-
  Networks, the plain law: a network without a tube, and with one more.
-/
import Derived.Test.YtflbddfmhjlknaaNetQ
import Derived.Test.YtflbddfmhjlknaaNet9
namespace Go.Proofs.Ytflbddfmhjlknaa
theorem strongW {n : Nat} {tb : List T3} (h : OkNet n tb) {wo : Int} : strongB n tb wo = true ↔ ∀ k v : Nat, k < n → v < n → ∃ p, wk tb wo p v k := by
  rw [strong_iff h]
  constructor
  · intro h1 k v hk hv
    exact (dist_iff (ok_tubes h) (by omega) (by omega) (by omega)).1 (h1 k v hk hv)
  · intro h1 k v hk hv
    exact (dist_iff (ok_tubes h) (by omega) (by omega) (by omega)).2 (h1 k v hk hv)
theorem wk_map {tb tb' : List T3} {wo wo' : Int} (f : Int → Int) (hf : ∀ i t, 0 ≤ i → i ≠ wo → tb[i.toNat]? = some t → 0 ≤ f i ∧ f i ≠ wo' ∧ tb'[(f i).toNat]? = some t) : ∀ {p : List Int} {v u : Int}, wk tb wo p v u → wk tb' wo' (p.map f) v u := by
  intro p
  induction p with
  | nil => intro v u h; exact h
  | cons i p ih =>
    intro v u h
    obtain ⟨h1, h2, t, h3, h4, h5⟩ := h
    obtain ⟨g1, g2, g3⟩ := hf i t h1 h2 h3
    exact ⟨g1, g2, t, g3, h4, ih h5⟩
/-- The tubes without one. -/
def dropAt (tb : List T3) (i : Nat) : List T3 := tb.take i ++ tb.drop (i + 1)
theorem dropAt_get {tb : List T3} {i j : Nat} : (dropAt tb i)[j]? = if j < i then tb[j]? else tb[j + 1]? := by
  unfold dropAt
  rw [← List.eraseIdx_eq_take_drop_succ, List.getElem?_eraseIdx]
theorem dropAt_len {tb : List T3} {i : Nat} (h : i < tb.length) : (dropAt tb i).length = i + (tb.length - (i + 1)) := by
  unfold dropAt
  rw [List.length_append, List.length_take, List.length_drop]; omega
theorem dropAt_ok {n : Nat} {tb : List T3} (h : OkNet n tb) {i : Nat} (hi : i < tb.length) : OkNet n (dropAt tb i) := by
  refine ⟨h.1, by rw [dropAt_len hi]; have := h.2.1; omega, fun t ht => h.2.2 t ?_⟩
  unfold dropAt at ht
  rcases List.mem_append.1 ht with ht | ht
  · exact List.mem_of_mem_take ht
  · exact List.mem_of_mem_drop ht
theorem strong_drop {n : Nat} {tb : List T3} (h : OkNet n tb) {i : Nat} (hi : i < tb.length) : strongB n (dropAt tb i) (-1) = strongB n tb i := by
  rw [Bool.eq_iff_iff, strongW (dropAt_ok h hi), strongW h]
  constructor
  · intro h1 k v hk hv
    obtain ⟨p, hp⟩ := h1 k v hk hv
    refine ⟨_, wk_map (fun j => if j < (i : Int) then j else j + 1) (fun j t h0 _ hj => ?_) hp⟩
    rw [dropAt_get] at hj
    by_cases hji : j < (i : Int)
    · rw [if_pos (by omega)] at hj
      simp only [if_pos hji]
      exact ⟨h0, by omega, hj⟩
    · rw [if_neg (by omega)] at hj
      simp only [if_neg hji]
      exact ⟨by omega, by omega, by rw [show (j + 1).toNat = j.toNat + 1 by omega]; exact hj⟩
  · intro h1 k v hk hv
    obtain ⟨p, hp⟩ := h1 k v hk hv
    refine ⟨_, wk_map (fun j => if j < (i : Int) then j else j - 1) (fun j t h0 hne hj => ?_) hp⟩
    by_cases hji : j < (i : Int)
    · simp only [if_pos hji]
      refine ⟨h0, by omega, ?_⟩
      rw [dropAt_get, if_pos (by omega)]; exact hj
    · simp only [if_neg hji]
      refine ⟨by omega, by omega, ?_⟩
      rw [dropAt_get, if_neg (by omega), show (j - 1).toNat + 1 = j.toNat by omega]; exact hj
theorem add_ok {n : Nat} {tb : List T3} (h : OkNet n tb) {t : T3} (hl : tb.length < 24) (ht : OkTube n t) : OkNet n (tb ++ [t]) := by
  refine ⟨h.1, by rw [List.length_append]; simp; omega, fun u hu => ?_⟩
  rcases List.mem_append.1 hu with hu | hu
  · exact h.2.2 u hu
  · rw [List.mem_singleton] at hu; subst hu; exact ht
theorem add_get {tb : List T3} {t u : T3} {j : Nat} (h : tb[j]? = some u) : (tb ++ [t])[j]? = some u := by
  have hj := (List.getElem?_eq_some_iff.1 h).1
  rw [List.getElem?_append_left hj]; exact h
theorem strong_add {n : Nat} {tb : List T3} (h : OkNet n tb) {t : T3} (hl : tb.length < 24) (ht : OkTube n t) (hs : strongB n tb (-1) = true) : strongB n (tb ++ [t]) (-1) = true ∧ strongB n (tb ++ [t]) tb.length = true := by
  have h1 := (strongW h).1 hs
  constructor
  · refine (strongW (add_ok h hl ht)).2 fun k v hk hv => ?_
    obtain ⟨p, hp⟩ := h1 k v hk hv
    exact ⟨_, wk_map id (fun j u h0 hne hj => ⟨h0, hne, add_get hj⟩) hp⟩
  · refine (strongW (add_ok h hl ht)).2 fun k v hk hv => ?_
    obtain ⟨p, hp⟩ := h1 k v hk hv
    refine ⟨_, wk_map id (fun j u h0 hne hj => ⟨h0, ?_, add_get hj⟩) hp⟩
    have := (List.getElem?_eq_some_iff.1 hj).1
    simp only [id]; omega
theorem crit_mem {n : Nat} {tb : List T3} {i : Nat} (hi : i < tb.length) : hasI (critL n tb) i = !strongB n tb i := by
  rw [Bool.eq_iff_iff, hasI_mem]
  unfold critL
  rw [idx_mem]
  constructor
  · rintro ⟨j, x, hj, h2, h3⟩
    obtain ⟨h4, h5⟩ := List.getElem?_eq_some_iff.1 h2
    rw [List.getElem_range] at h5
    obtain rfl : i = x := by omega
    exact h3
  · intro h
    exact ⟨i, i, by congr 1; omega, range_get hi, h⟩
theorem crit_rises {n : Nat} {tb : List T3} : Rises (critL n tb) tb.length := by
  have h := idx_rises (critP n tb) (List.range tb.length)
  rw [List.length_range] at h
  exact h
end Go.Proofs.Ytflbddfmhjlknaa
