/-
  The law of the nearest address. Plain lemmas.
-/
import Derived.Test.YtofjnmeblmbnmaaNeaH
namespace Go.Proofs.Ytofjnmeblmbnmaa
open Go.RowKit
theorem chr_ext {a b : ByteArray} (hs : a.size = b.size) (h : ∀ i, i < a.size → chr a i = chr b i) : a = b := by
  apply ByteArray.ext
  apply Array.ext hs
  intro i h1 h2
  have h3 := h i h1
  unfold chr at h3
  have e1 : a.get! i = a.data[i] := by
    show a.data[i]! = _
    rw [getElem!_pos]
  have e2 : b.get! i = b.data[i] := by
    show b.data[i]! = _
    rw [getElem!_pos]
  rw [e1, e2] at h3
  exact UInt8.toNat_inj.1 (by omega)
theorem farN_zero {a b : ByteArray} : ∀ m i, farN a b i m = 0 → ∀ k, i ≤ k → k < i + m → chr a k = chr b k := by
  intro m
  induction m with
  | zero => intro i _ k h1 h2; omega
  | succ m ih =>
    intro i h k h1 h2
    rw [farN] at h
    have hb := (farN_bd a b m (i + 1)).1
    by_cases hc : chr a i = chr b i
    · rw [if_pos hc] at h
      by_cases hk : k = i
      · rw [hk]; exact hc
      · exact ih (i + 1) (by omega) k (by omega) (by omega)
    · rw [if_neg hc] at h; omega
theorem far_pos {a b : ByteArray} (hs : a.size = b.size) (h : a ≠ b) : 1 ≤ farB a b := by
  have h0 := (farB_bd a b).1
  by_cases hz : farB a b = 0
  · exact absurd (chr_ext hs fun i hi => farN_zero a.size 0 hz i (by omega) (by omega)) h
  · omega
/-- The least of some numbers, -1 if there is none. -/
def MinOf (L : List Int) (r : Int) : Prop := (L = [] ∧ r = -1) ∨ (r ∈ L ∧ ∀ v ∈ L, r ≤ v)
theorem MinOf.step {L : List Int} {r v : Int} (h : MinOf L r) (h0 : ∀ v ∈ L, 0 ≤ v) : MinOf (L ++ [v]) (if r < 0 ∨ v < r then v else r) := by
  rcases h with ⟨rfl, rfl⟩ | ⟨h1, h2⟩
  · rw [if_pos (.inl (by decide))]; exact .inr ⟨by simp, by simp⟩
  · have := h0 r h1
    by_cases hv : v < r
    · rw [if_pos (.inr hv)]
      refine .inr ⟨by simp, fun u hu => ?_⟩
      rcases List.mem_append.1 hu with hu | hu
      · have := h2 u hu; omega
      · rw [List.mem_singleton] at hu; omega
    · rw [if_neg (by omega)]
      refine .inr ⟨List.mem_append_left _ h1, fun u hu => ?_⟩
      rcases List.mem_append.1 hu with hu | hu
      · exact h2 u hu
      · rw [List.mem_singleton] at hu; omega
theorem lpI_min {x : ByteArray} : ∀ (ys : List ByteArray) (L : List Int) (m : Int), MinOf L m → (∀ v ∈ L, 0 ≤ v) → MinOf (L ++ ys.map (farB x)) (lpI farB x ys m) := by
  intro ys
  induction ys with
  | nil => intro L m h _; simpa [lpI] using h
  | cons y ys ih =>
    intro L m h h0
    rw [lpI]
    have := ih (L ++ [farB x y]) _ (h.step (v := farB x y) h0) (fun v hv => by
      rcases List.mem_append.1 hv with hv | hv
      · exact h0 v hv
      · rw [List.mem_singleton] at hv; rw [hv]; exact (farB_bd x y).1)
    rw [List.append_assoc] at this
    exact this
/-- The distances of the words i, i + 1 .. (c of them) from those before them. -/
def pairs (ws : List ByteArray) : Nat → Nat → List Int
  | _, 0 => []
  | i, c + 1 => (ws.take i).map (farB (txt ws i)) ++ pairs ws (i + 1) c
theorem pairs_snoc (ws : List ByteArray) : ∀ c i, pairs ws i (c + 1) = pairs ws i c ++ (ws.take (i + c)).map (farB (txt ws (i + c))) := by
  intro c
  induction c with
  | zero => intro i; simp [pairs]
  | succ c ih =>
    intro i
    rw [pairs, ih (i + 1), pairs, List.append_assoc, show i + 1 + c = i + (c + 1) by omega]
theorem pairs_pos (ws : List ByteArray) : ∀ c i, ∀ v ∈ pairs ws i c, 0 ≤ v := by
  intro c
  induction c with
  | zero => intro i v h; cases h
  | succ c ih =>
    intro i v h
    rcases List.mem_append.1 h with h | h
    · obtain ⟨y, _, rfl⟩ := List.mem_map.1 h; exact (farB_bd _ y).1
    · exact ih (i + 1) v h
theorem lpO_min (ws : List ByteArray) : ∀ (c i : Nat) (L : List Int) (m : Int), MinOf L m → (∀ v ∈ L, 0 ≤ v) → MinOf (L ++ pairs ws i c) (lpO farB ws i c m) := by
  intro c
  induction c with
  | zero => intro i L m h _; simpa [pairs, lpO] using h
  | succ c ih =>
    intro i L m h h0
    rw [lpO, pairs, ← List.append_assoc]
    refine ih (i + 1) _ _ (lpI_min _ _ _ h h0) (fun v hv => ?_)
    rcases List.mem_append.1 hv with hv | hv
    · exact h0 v hv
    · obtain ⟨y, _, rfl⟩ := List.mem_map.1 hv; exact (farB_bd _ y).1
theorem least_min (ws : List ByteArray) : MinOf (pairs ws 0 ws.length) (leastA farB ws) := by
  have := lpO_min ws ws.length 0 [] (-1) (.inl ⟨rfl, rfl⟩) (fun v hv => by cases hv)
  simpa [leastA] using this
theorem mem_pairs {ws : List ByteArray} : ∀ {c i k j : Nat}, i ≤ k → k < i + c → j < k → k < ws.length → farB (txt ws k) (txt ws j) ∈ pairs ws i c := by
  intro c
  induction c with
  | zero => intro i k j h1 h2; omega
  | succ c ih =>
    intro i k j h1 h2 h3 h4
    rw [pairs]
    by_cases hk : k = i
    · subst hk
      refine List.mem_append_left _ (List.mem_map.2 ⟨txt ws j, ?_, rfl⟩)
      have hj : ws[j]? = some ws[j] := List.getElem?_eq_getElem (by omega)
      rw [txt_get hj]
      exact List.mem_of_getElem? (i := j) (by rw [List.getElem?_take, if_pos h3]; exact hj)
    · exact List.mem_append_right _ (ih (by omega) (by omega) h3 h4)
theorem least_le {ws : List ByteArray} {k j : Nat} (h : j < k) (hk : k < ws.length) : leastA farB ws ≤ farB (txt ws k) (txt ws j) := by
  have hm := mem_pairs (ws := ws) (c := ws.length) (i := 0) (Nat.zero_le k) (by omega) h hk
  rcases least_min ws with ⟨h1, _⟩ | ⟨_, h2⟩
  · rw [h1] at hm; cases hm
  · exact h2 _ hm
theorem least_in {ws : List ByteArray} (h : 2 ≤ ws.length) : leastA farB ws ∈ pairs ws 0 ws.length := by
  rcases least_min ws with ⟨h1, _⟩ | ⟨h2, _⟩
  · have hm := mem_pairs (ws := ws) (c := ws.length) (i := 0) (k := 1) (j := 0) (by omega) (by omega) (by omega) (by omega)
    rw [h1] at hm; cases hm
  · exact h2
theorem txt_mem {ws : List ByteArray} {i : Nat} (h : i < ws.length) : ws[i]? = some (txt ws i) := by
  have hj : ws[i]? = some ws[i] := List.getElem?_eq_getElem h
  rw [txt_get hj]; exact hj
theorem pairs_ge1 {n : Int} {ws : List ByteArray} (h : addrs n ws = true) : ∀ c i, i + c ≤ ws.length → ∀ v ∈ pairs ws i c, 1 ≤ v := by
  intro c
  induction c with
  | zero => intro i _ v hv; cases hv
  | succ c ih =>
    intro i hi v hv
    rcases List.mem_append.1 hv with hv | hv
    · obtain ⟨y, hy, rfl⟩ := List.mem_map.1 hv
      have ha := addrs_at h (txt_mem (ws := ws) (i := i) (by omega))
      have hyw : y ∈ ws := List.take_subset _ _ hy
      refine far_pos (by rw [ha.2.1, (addrs_size h y hyw).1]) (fun e => ?_)
      have := ha.2.2
      unfold hasS at this
      rw [List.any_eq_false] at this
      exact this y hy (by simp [e])
    · exact ih (i + 1) (by omega) v hv
theorem least_ge1 {n : Int} {ws : List ByteArray} (h : addrs n ws = true) (h2 : 2 ≤ ws.length) : 1 ≤ leastA farB ws := pairs_ge1 h ws.length 0 (by omega) _ (least_in h2)
theorem letN_mono {n m : Int} (h : n ≤ m) {s : ByteArray} : ∀ c i, letN n s i c = true → letN m s i c = true := by
  intro c
  induction c with
  | zero => intro i _; rfl
  | succ c ih =>
    intro i hl
    rw [letN, Bool.and_eq_true, decide_eq_true_eq] at hl
    rw [letN, Bool.and_eq_true, decide_eq_true_eq]
    exact ⟨by omega, ih _ hl.2⟩
theorem wordB_mono {n m : Int} (h : n ≤ m) {s : ByteArray} (hw : wordB n s = true) : wordB m s = true := by
  unfold wordB at *
  rw [Bool.and_eq_true] at *
  exact ⟨letN_mono h _ _ hw.1, hw.2⟩
/-- The state of the search for the nearest one. -/
def NearS (seen : ByteArray) (ws : List ByteArray) (j : Nat) (s : Nat × Int × Bool) : Prop := (j = 0 ∧ s.2.1 = -1 ∧ s.2.2 = false) ∨ (s.1 < j ∧ s.2.1 = farB (txt ws s.1) seen ∧ (∀ i, i < j → s.2.1 ≤ farB (txt ws i) seen) ∧ (s.2.2 = false → ∀ i, i < j → i ≠ s.1 → s.2.1 < farB (txt ws i) seen))
theorem NearS.step {seen : ByteArray} {ws : List ByteArray} {j : Nat} {s : Nat × Int × Bool} (h : NearS seen ws j s) : NearS seen ws (j + 1) (nst j (farB (txt ws j) seen) s) := by
  unfold nst
  have h0 := (farB_bd (txt ws j) seen).1
  rcases h with ⟨h1, h2, h3⟩ | ⟨h1, h2, h3, h4⟩
  · rw [if_pos (.inl (by omega))]
    subst h1
    exact .inr ⟨by dsimp only; omega, rfl, fun i hi => by obtain rfl : i = 0 := by omega
                                                          exact Int.le_refl _, fun _ i hi hn => by dsimp only at hn; omega⟩
  · have hb := (farB_bd (txt ws s.1) seen).1
    by_cases hlt : farB (txt ws j) seen < s.2.1
    · rw [if_pos (.inr hlt)]
      refine .inr ⟨by dsimp only; omega, rfl, fun i hi => ?_, fun _ i hi hn => ?_⟩
      · dsimp only
        by_cases hj : i = j
        · rw [hj]; exact Int.le_refl _
        · have := h3 i (by omega); omega
      · dsimp only at hn ⊢
        have := h3 i (by omega); omega
    · rw [if_neg (by omega)]
      by_cases he : farB (txt ws j) seen = s.2.1
      · rw [if_pos he]
        refine .inr ⟨by dsimp only; omega, h2, fun i hi => ?_, fun hf => by cases hf⟩
        by_cases hj : i = j
        · rw [hj]; dsimp only; omega
        · exact h3 i (by omega)
      · rw [if_neg he]
        refine .inr ⟨by omega, h2, fun i hi => ?_, fun hf i hi hn => ?_⟩
        · by_cases hj : i = j
          · rw [hj]; omega
          · exact h3 i (by omega)
        · by_cases hj : i = j
          · rw [hj]; omega
          · exact h4 hf i (by omega) hn
theorem nearN_st {seen : ByteArray} {ws : List ByteArray} : ∀ m j s, NearS seen ws j s → NearS seen ws (j + m) (nearN seen ws j m s) := by
  intro m
  induction m with
  | zero => intro j s h; exact h
  | succ m ih =>
    intro j s h
    rw [nearN, show j + (m + 1) = j + 1 + m by omega]
    exact ih _ _ h.step
/-- What a nearest address is. -/
structure Near0 (n : Int) (ws : List ByteArray) (seen : ByteArray) (a d : Int) : Prop where
  ok : addrs n ws = true
  word : wordB n seen = true
  size : seen.size = (txt ws 0).size
  only : ∀ i, i < ws.length → (i : Int) ≠ a → d < farB (txt ws i) seen
theorem near_only {n : Int} {ws : List ByteArray} {seen : ByteArray} (h : (nearR n ws seen).2.2 = 0) : Near0 n ws seen (nearR n ws seen).1 (nearR n ws seen).2.1 := by
  by_cases h1 : addrs n ws = true
  case neg => rw [nearR_1 (by simpa using h1)] at h; cases h
  by_cases h2 : wordB n seen = true
  case neg => rw [nearR_2 h1 (by simpa using h2)] at h; cases h
  by_cases h3 : ws.length = 0
  · rw [nearR_3 h1 h2 h3] at h; cases h
  by_cases h4 : seen.size = (txt ws 0).size
  case neg => rw [nearR_8 h1 h2 h3 h4] at h; cases h
  by_cases h5 : (nearF seen ws).2.2 = true
  · rw [nearR_9 h1 h2 h3 h4 h5] at h; cases h
  have h5' : (nearF seen ws).2.2 = false := by simpa using h5
  rw [nearR_0 h1 h2 h3 h4 h5']
  refine ⟨h1, h2, h4, fun i hi hn => ?_⟩
  have hs : NearS seen ws ws.length (nearF seen ws) := by
    have := nearN_st (seen := seen) (ws := ws) ws.length 0 (0, -1, false) (.inl ⟨rfl, rfl, rfl⟩)
    rw [Nat.zero_add] at this
    exact this
  rcases hs with hs | hs
  · omega
  · exact hs.2.2.2 h5' i hi (by dsimp only at hn; omega)
/-- Among the words so far there is a pair with the distance x. -/
def hasD (x : Int) (L : List Int) : Bool := L.any fun z => decide (z = x)
theorem hasD_app (x : Int) (L M : List Int) : hasD x (L ++ M) = (hasD x L || hasD x M) := by unfold hasD; rw [List.any_append]
theorem hasD_in {x : Int} {L : List Int} (h : x ∈ L) : hasD x L = true := by unfold hasD; rw [List.any_eq_true]; exact ⟨x, h, by simp⟩
theorem corr_ok {l : Int} (h : 1 ≤ l) : 2 * (l - 1).tdiv 2 < l ∧ l ≤ 2 * (l - 1).tdiv 2 + 2 ∧ 0 ≤ (l - 1).tdiv 2 := by
  rw [Int.tdiv_eq_ediv_of_nonneg (by omega)]
  omega
end Go.Proofs.Ytofjnmeblmbnmaa
