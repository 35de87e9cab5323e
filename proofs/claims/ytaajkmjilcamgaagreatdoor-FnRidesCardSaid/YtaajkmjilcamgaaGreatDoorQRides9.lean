/-
  The law of the nearest address. Plain lemmas.
  Words without a ring, and the worst one. Plain lemmas.
  The laws' helpers mark and held for lists whose elements hold a list of numbers, by contract.
  Runs: copies of their own, and a run delayed; in the program and in the reference.
  The worst ring, in both packages.
  The worst ring, in the reference.
  Drawing numbers from bytes: what the source keeps, and the bounds of what it gives.
  Drawing a number below another one, and one of some numbers.
  Drawn times and ways.
-/
import Derived.Test.YtaajkmjilcamgaaGreatDoorQRides8
import Derived.Test.YtaajkmjilcamgaaGreatDoorQRides4
import Derived.Test.YtaajkmjilcamgaaGreatDoorQRides5
import Derived.Test.YtaajkmjilcamgaaGreatDoorQRides3
import Derived.Deep.RegionHeld3
import Derived.Laws.BitsLemmas
namespace Go.Proofs.YtaajkmjilcamgaaGreatDoor
open Go.RowKit
theorem chr_ext {a b : ByteArray} (hs : a.size = b.size) (h : ∀ i, i < a.size → chr a i = chr b i) : a = b := by
  apply ByteArray.ext
  apply Array.ext hs
  intro i h1 h2
  have h3 := h i h1
  unfold chr at h3
  have e1 : a.get! i = a.data[i] := by
    show a.data[i]! = _
    rw [getElem!_pos]
  have e2 : b.get! i = b.data[i] := by
    show b.data[i]! = _
    rw [getElem!_pos]
  rw [e1, e2] at h3
  exact UInt8.toNat_inj.1 (by omega)
theorem farN_zero {a b : ByteArray} : ∀ m i, farN a b i m = 0 → ∀ k, i ≤ k → k < i + m → chr a k = chr b k := by
  intro m
  induction m with
  | zero => intro i _ k h1 h2; omega
  | succ m ih =>
    intro i h k h1 h2
    rw [farN] at h
    have hb := (farN_bd a b m (i + 1)).1
    by_cases hc : chr a i = chr b i
    · rw [if_pos hc] at h
      by_cases hk : k = i
      · rw [hk]; exact hc
      · exact ih (i + 1) (by omega) k (by omega) (by omega)
    · rw [if_neg hc] at h; omega
theorem far_pos {a b : ByteArray} (hs : a.size = b.size) (h : a ≠ b) : 1 ≤ farB a b := by
  have h0 := (farB_bd a b).1
  by_cases hz : farB a b = 0
  · exact absurd (chr_ext hs fun i hi => farN_zero a.size 0 hz i (by omega) (by omega)) h
  · omega
/-- The least of some numbers, -1 if there is none. -/
def MinOf (L : List Int) (r : Int) : Prop := (L = [] ∧ r = -1) ∨ (r ∈ L ∧ ∀ v ∈ L, r ≤ v)
theorem MinOf.step {L : List Int} {r v : Int} (h : MinOf L r) (h0 : ∀ v ∈ L, 0 ≤ v) : MinOf (L ++ [v]) (if r < 0 ∨ v < r then v else r) := by
  rcases h with ⟨rfl, rfl⟩ | ⟨h1, h2⟩
  · rw [if_pos (.inl (by decide))]; exact .inr ⟨by simp, by simp⟩
  · have := h0 r h1
    by_cases hv : v < r
    · rw [if_pos (.inr hv)]
      refine .inr ⟨by simp, fun u hu => ?_⟩
      rcases List.mem_append.1 hu with hu | hu
      · have := h2 u hu; omega
      · rw [List.mem_singleton] at hu; omega
    · rw [if_neg (by omega)]
      refine .inr ⟨List.mem_append_left _ h1, fun u hu => ?_⟩
      rcases List.mem_append.1 hu with hu | hu
      · exact h2 u hu
      · rw [List.mem_singleton] at hu; omega
theorem lpI_min {x : ByteArray} : ∀ (ys : List ByteArray) (L : List Int) (m : Int), MinOf L m → (∀ v ∈ L, 0 ≤ v) → MinOf (L ++ ys.map (farB x)) (lpI farB x ys m) := by
  intro ys
  induction ys with
  | nil => intro L m h _; simpa [lpI] using h
  | cons y ys ih =>
    intro L m h h0
    rw [lpI]
    have := ih (L ++ [farB x y]) _ (h.step (v := farB x y) h0) (fun v hv => by
      rcases List.mem_append.1 hv with hv | hv
      · exact h0 v hv
      · rw [List.mem_singleton] at hv; rw [hv]; exact (farB_bd x y).1)
    rw [List.append_assoc] at this
    exact this
/-- The distances of the words i, i + 1 .. (c of them) from those before them. -/
def pairs (ws : List ByteArray) : Nat → Nat → List Int
  | _, 0 => []
  | i, c + 1 => (ws.take i).map (farB (txt ws i)) ++ pairs ws (i + 1) c
theorem pairs_snoc (ws : List ByteArray) : ∀ c i, pairs ws i (c + 1) = pairs ws i c ++ (ws.take (i + c)).map (farB (txt ws (i + c))) := by
  intro c
  induction c with
  | zero => intro i; simp [pairs]
  | succ c ih =>
    intro i
    rw [pairs, ih (i + 1), pairs, List.append_assoc, show i + 1 + c = i + (c + 1) by omega]
theorem pairs_pos (ws : List ByteArray) : ∀ c i, ∀ v ∈ pairs ws i c, 0 ≤ v := by
  intro c
  induction c with
  | zero => intro i v h; cases h
  | succ c ih =>
    intro i v h
    rcases List.mem_append.1 h with h | h
    · obtain ⟨y, _, rfl⟩ := List.mem_map.1 h; exact (farB_bd _ y).1
    · exact ih (i + 1) v h
theorem lpO_min (ws : List ByteArray) : ∀ (c i : Nat) (L : List Int) (m : Int), MinOf L m → (∀ v ∈ L, 0 ≤ v) → MinOf (L ++ pairs ws i c) (lpO farB ws i c m) := by
  intro c
  induction c with
  | zero => intro i L m h _; simpa [pairs, lpO] using h
  | succ c ih =>
    intro i L m h h0
    rw [lpO, pairs, ← List.append_assoc]
    refine ih (i + 1) _ _ (lpI_min _ _ _ h h0) (fun v hv => ?_)
    rcases List.mem_append.1 hv with hv | hv
    · exact h0 v hv
    · obtain ⟨y, _, rfl⟩ := List.mem_map.1 hv; exact (farB_bd _ y).1
theorem least_min (ws : List ByteArray) : MinOf (pairs ws 0 ws.length) (leastA farB ws) := by
  have := lpO_min ws ws.length 0 [] (-1) (.inl ⟨rfl, rfl⟩) (fun v hv => by cases hv)
  simpa [leastA] using this
theorem mem_pairs {ws : List ByteArray} : ∀ {c i k j : Nat}, i ≤ k → k < i + c → j < k → k < ws.length → farB (txt ws k) (txt ws j) ∈ pairs ws i c := by
  intro c
  induction c with
  | zero => intro i k j h1 h2; omega
  | succ c ih =>
    intro i k j h1 h2 h3 h4
    rw [pairs]
    by_cases hk : k = i
    · subst hk
      refine List.mem_append_left _ (List.mem_map.2 ⟨txt ws j, ?_, rfl⟩)
      have hj : ws[j]? = some ws[j] := List.getElem?_eq_getElem (by omega)
      rw [txt_get hj]
      exact List.mem_of_getElem? (i := j) (by rw [List.getElem?_take, if_pos h3]; exact hj)
    · exact List.mem_append_right _ (ih (by omega) (by omega) h3 h4)
theorem least_le {ws : List ByteArray} {k j : Nat} (h : j < k) (hk : k < ws.length) : leastA farB ws ≤ farB (txt ws k) (txt ws j) := by
  have hm := mem_pairs (ws := ws) (c := ws.length) (i := 0) (Nat.zero_le k) (by omega) h hk
  rcases least_min ws with ⟨h1, _⟩ | ⟨_, h2⟩
  · rw [h1] at hm; cases hm
  · exact h2 _ hm
theorem least_in {ws : List ByteArray} (h : 2 ≤ ws.length) : leastA farB ws ∈ pairs ws 0 ws.length := by
  rcases least_min ws with ⟨h1, _⟩ | ⟨h2, _⟩
  · have hm := mem_pairs (ws := ws) (c := ws.length) (i := 0) (k := 1) (j := 0) (by omega) (by omega) (by omega) (by omega)
    rw [h1] at hm; cases hm
  · exact h2
theorem txt_mem {ws : List ByteArray} {i : Nat} (h : i < ws.length) : ws[i]? = some (txt ws i) := by
  have hj : ws[i]? = some ws[i] := List.getElem?_eq_getElem h
  rw [txt_get hj]; exact hj
theorem pairs_ge1 {n : Int} {ws : List ByteArray} (h : addrs n ws = true) : ∀ c i, i + c ≤ ws.length → ∀ v ∈ pairs ws i c, 1 ≤ v := by
  intro c
  induction c with
  | zero => intro i _ v hv; cases hv
  | succ c ih =>
    intro i hi v hv
    rcases List.mem_append.1 hv with hv | hv
    · obtain ⟨y, hy, rfl⟩ := List.mem_map.1 hv
      have ha := addrs_at h (txt_mem (ws := ws) (i := i) (by omega))
      have hyw : y ∈ ws := List.take_subset _ _ hy
      refine far_pos (by rw [ha.2.1, (addrs_size h y hyw).1]) (fun e => ?_)
      have := ha.2.2
      unfold hasS at this
      rw [List.any_eq_false] at this
      exact this y hy (by simp [e])
    · exact ih (i + 1) (by omega) v hv
theorem least_ge1 {n : Int} {ws : List ByteArray} (h : addrs n ws = true) (h2 : 2 ≤ ws.length) : 1 ≤ leastA farB ws := pairs_ge1 h ws.length 0 (by omega) _ (least_in h2)
theorem letN_mono {n m : Int} (h : n ≤ m) {s : ByteArray} : ∀ c i, letN n s i c = true → letN m s i c = true := by
  intro c
  induction c with
  | zero => intro i _; rfl
  | succ c ih =>
    intro i hl
    rw [letN, Bool.and_eq_true, decide_eq_true_eq] at hl
    rw [letN, Bool.and_eq_true, decide_eq_true_eq]
    exact ⟨by omega, ih _ hl.2⟩
theorem wordB_mono {n m : Int} (h : n ≤ m) {s : ByteArray} (hw : wordB n s = true) : wordB m s = true := by
  unfold wordB at *
  rw [Bool.and_eq_true] at *
  exact ⟨letN_mono h _ _ hw.1, hw.2⟩
/-- The state of the search for the nearest one. -/
def NearS (seen : ByteArray) (ws : List ByteArray) (j : Nat) (s : Nat × Int × Bool) : Prop := (j = 0 ∧ s.2.1 = -1 ∧ s.2.2 = false) ∨ (s.1 < j ∧ s.2.1 = farB (txt ws s.1) seen ∧ (∀ i, i < j → s.2.1 ≤ farB (txt ws i) seen) ∧ (s.2.2 = false → ∀ i, i < j → i ≠ s.1 → s.2.1 < farB (txt ws i) seen))
theorem NearS.step {seen : ByteArray} {ws : List ByteArray} {j : Nat} {s : Nat × Int × Bool} (h : NearS seen ws j s) : NearS seen ws (j + 1) (nst j (farB (txt ws j) seen) s) := by
  unfold nst
  have h0 := (farB_bd (txt ws j) seen).1
  rcases h with ⟨h1, h2, h3⟩ | ⟨h1, h2, h3, h4⟩
  · rw [if_pos (.inl (by omega))]
    subst h1
    exact .inr ⟨by dsimp only; omega, rfl, fun i hi => by obtain rfl : i = 0 := by omega
                                                          exact Int.le_refl _, fun _ i hi hn => by dsimp only at hn; omega⟩
  · have hb := (farB_bd (txt ws s.1) seen).1
    by_cases hlt : farB (txt ws j) seen < s.2.1
    · rw [if_pos (.inr hlt)]
      refine .inr ⟨by dsimp only; omega, rfl, fun i hi => ?_, fun _ i hi hn => ?_⟩
      · dsimp only
        by_cases hj : i = j
        · rw [hj]; exact Int.le_refl _
        · have := h3 i (by omega); omega
      · dsimp only at hn ⊢
        have := h3 i (by omega); omega
    · rw [if_neg (by omega)]
      by_cases he : farB (txt ws j) seen = s.2.1
      · rw [if_pos he]
        refine .inr ⟨by dsimp only; omega, h2, fun i hi => ?_, fun hf => by cases hf⟩
        by_cases hj : i = j
        · rw [hj]; dsimp only; omega
        · exact h3 i (by omega)
      · rw [if_neg he]
        refine .inr ⟨by omega, h2, fun i hi => ?_, fun hf i hi hn => ?_⟩
        · by_cases hj : i = j
          · rw [hj]; omega
          · exact h3 i (by omega)
        · by_cases hj : i = j
          · rw [hj]; omega
          · exact h4 hf i (by omega) hn
theorem nearN_st {seen : ByteArray} {ws : List ByteArray} : ∀ m j s, NearS seen ws j s → NearS seen ws (j + m) (nearN seen ws j m s) := by
  intro m
  induction m with
  | zero => intro j s h; exact h
  | succ m ih =>
    intro j s h
    rw [nearN, show j + (m + 1) = j + 1 + m by omega]
    exact ih _ _ h.step
/-- What a nearest address is. -/
structure Near0 (n : Int) (ws : List ByteArray) (seen : ByteArray) (a d : Int) : Prop where
  ok : addrs n ws = true
  word : wordB n seen = true
  size : seen.size = (txt ws 0).size
  only : ∀ i, i < ws.length → (i : Int) ≠ a → d < farB (txt ws i) seen
theorem near_only {n : Int} {ws : List ByteArray} {seen : ByteArray} (h : (nearR n ws seen).2.2 = 0) : Near0 n ws seen (nearR n ws seen).1 (nearR n ws seen).2.1 := by
  by_cases h1 : addrs n ws = true
  case neg => rw [nearR_1 (by simpa using h1)] at h; cases h
  by_cases h2 : wordB n seen = true
  case neg => rw [nearR_2 h1 (by simpa using h2)] at h; cases h
  by_cases h3 : ws.length = 0
  · rw [nearR_3 h1 h2 h3] at h; cases h
  by_cases h4 : seen.size = (txt ws 0).size
  case neg => rw [nearR_8 h1 h2 h3 h4] at h; cases h
  by_cases h5 : (nearF seen ws).2.2 = true
  · rw [nearR_9 h1 h2 h3 h4 h5] at h; cases h
  have h5' : (nearF seen ws).2.2 = false := by simpa using h5
  rw [nearR_0 h1 h2 h3 h4 h5']
  refine ⟨h1, h2, h4, fun i hi hn => ?_⟩
  have hs : NearS seen ws ws.length (nearF seen ws) := by
    have := nearN_st (seen := seen) (ws := ws) ws.length 0 (0, -1, false) (.inl ⟨rfl, rfl, rfl⟩)
    rw [Nat.zero_add] at this
    exact this
  rcases hs with hs | hs
  · omega
  · exact hs.2.2.2 h5' i hi (by dsimp only at hn; omega)
/-- Among the words so far there is a pair with the distance x. -/
def hasD (x : Int) (L : List Int) : Bool := L.any fun z => decide (z = x)
theorem hasD_app (x : Int) (L M : List Int) : hasD x (L ++ M) = (hasD x L || hasD x M) := by unfold hasD; rw [List.any_append]
theorem hasD_in {x : Int} {L : List Int} (h : x ∈ L) : hasD x L = true := by unfold hasD; rw [List.any_eq_true]; exact ⟨x, h, by simp⟩
theorem corr_ok {l : Int} (h : 1 ≤ l) : 2 * (l - 1).tdiv 2 < l ∧ l ≤ 2 * (l - 1).tdiv 2 + 2 ∧ 0 ≤ (l - 1).tdiv 2 := by
  rw [Int.tdiv_eq_ediv_of_nonneg (by omega)]
  omega
end Go.Proofs.YtaajkmjilcamgaaGreatDoor
namespace Go.Proofs.YtaajkmjilcamgaaGreatDoor
open Go.RowKit
theorem chr_list (s : ByteArray) (i : Nat) : chr s i = (((s.data.toList[i]?).getD 0).toNat : Int) := by
  unfold chr
  have e1 : s.get! i = s.data[i]! := rfl
  rw [e1, Array.getElem!_eq_getD, Array.getD_eq_getD_getElem?, ← Array.getElem?_toList]
  rfl
def cutB (r : Nat) (s : ByteArray) : ByteArray := s.extract 0 r ++ s.extract (r + 1) s.size
theorem cutB_list (r : Nat) (s : ByteArray) : (cutB r s).data.toList = s.data.toList.take r ++ s.data.toList.drop (r + 1) := by
  unfold cutB
  rw [ByteArray.data_append, Array.toList_append, ByteArray.data_extract, ByteArray.data_extract, Array.toList_extract, Array.toList_extract]
  have e : s.size = s.data.toList.length := rfl
  congr 1
  rw [List.extract_eq_take_drop, List.take_of_length_le (by rw [List.length_drop, e]; exact Nat.le_refl _)]
theorem cutB_size {r : Nat} {s : ByteArray} (h : r < s.size) : (cutB r s).size = s.size - 1 := by
  have h1 : (cutB r s).size = (cutB r s).data.toList.length := rfl
  have h2 : s.size = s.data.toList.length := rfl
  rw [h1, cutB_list, List.length_append, List.length_take, List.length_drop]
  omega
theorem cutB_chr {r : Nat} {s : ByteArray} (h : r < s.size) (i : Nat) : chr (cutB r s) i = if i < r then chr s i else chr s (i + 1) := by
  have h2 : s.size = s.data.toList.length := rfl
  rw [chr_list, cutB_list]
  by_cases hi : i < r
  · rw [if_pos hi, chr_list, List.getElem?_append_left (by rw [List.length_take]; omega), List.getElem?_take, if_pos hi]
  · rw [if_neg hi, chr_list, List.getElem?_append_right (by rw [List.length_take]; omega), List.length_take, List.getElem?_drop]
    rw [show r + 1 + (i - min r s.data.toList.length) = i + 1 by omega]
theorem farN_split (a b : ByteArray) : ∀ m n i, farN a b i (m + n) = farN a b i m + farN a b (i + m) n := by
  intro m
  induction m with
  | zero => intro n i; simp [farN]
  | succ m ih =>
    intro n i
    rw [show m + 1 + n = (m + n) + 1 by omega, farN, farN, ih n (i + 1), show i + 1 + m = i + (m + 1) by omega]
    omega
theorem farN_congr {a b a' b' : ByteArray} : ∀ m i i', (∀ k, k < m → chr a (i + k) = chr a' (i' + k) ∧ chr b (i + k) = chr b' (i' + k)) → farN a b i m = farN a' b' i' m := by
  intro m
  induction m with
  | zero => intro i i' _; rfl
  | succ m ih =>
    intro i i' h
    obtain ⟨h1, h2⟩ := h 0 (by omega)
    rw [Nat.add_zero, Nat.add_zero] at h1 h2
    rw [farN, farN, h1, h2, ih (i + 1) (i' + 1) fun k hk => by
      have := h (k + 1) (by omega)
      rw [show i + 1 + k = i + (k + 1) by omega, show i' + 1 + k = i' + (k + 1) by omega]
      exact this]
theorem far_cut {r : Nat} {s t : ByteArray} (h : r < s.size) (hs : s.size = t.size) : farB (cutB r s) (cutB r t) = farW (r : Int) s t := by
  unfold farW farB
  rw [cutB_size h, show s.size - 1 = r + (s.size - 1 - r) by omega, farN_split]
  have e1 : farN (cutB r s) (cutB r t) 0 r = farN s t 0 r := farN_congr r 0 0 fun k hk => by
    rw [cutB_chr h, cutB_chr (hs ▸ h), Nat.zero_add, if_pos hk, if_pos hk]; exact ⟨rfl, rfl⟩
  have e2 : farN (cutB r s) (cutB r t) (0 + r) (s.size - 1 - r) = farN s t (r + 1) (s.size - 1 - r) := farN_congr _ _ _ fun k hk => by
    rw [cutB_chr h, cutB_chr (hs ▸ h), Nat.zero_add, if_neg (by omega), if_neg (by omega), show r + k + 1 = r + 1 + k by omega]; exact ⟨rfl, rfl⟩
  have e3 : farN s t 0 s.size = farN s t 0 r + ((if chr s r = chr t r then 0 else 1) + farN s t (r + 1) (s.size - 1 - r)) := by
    have := farN_split s t r ((s.size - 1 - r) + 1) 0
    rw [show r + ((s.size - 1 - r) + 1) = s.size by omega, Nat.zero_add, farN] at this
    exact this
  rw [e1, e2, e3, Int.toNat_natCast]
  by_cases hc : chr s r = chr t r
  · rw [if_pos hc, if_neg (fun e => e.2 hc)]; omega
  · rw [if_neg hc, if_pos ⟨by omega, hc⟩]; omega
theorem lpI_cut {r : Nat} {x : ByteArray} (hx : r < x.size) : ∀ (ys : List ByteArray) (m : Int), (∀ y ∈ ys, x.size = y.size) → lpI farB (cutB r x) (ys.map (cutB r)) m = lpI (farW (r : Int)) x ys m := by
  intro ys
  induction ys with
  | nil => intro m _; rfl
  | cons y ys ih =>
    intro m h
    rw [List.map_cons, lpI, lpI, far_cut hx (h y (List.mem_cons_self ..))]
    exact ih _ fun z hz => h z (List.mem_cons_of_mem _ hz)
theorem txt_map {ws : List ByteArray} {i : Nat} (f : ByteArray → ByteArray) (h : i < ws.length) : txt (ws.map f) i = f (txt ws i) := by
  apply txt_get
  rw [List.getElem?_map, txt_mem h]
  rfl
theorem lpO_cut {r z : Nat} {ws : List ByteArray} (hr : r < z) (h : ∀ s ∈ ws, s.size = z) : ∀ c i m, i + c ≤ ws.length → lpO farB (ws.map (cutB r)) i c m = lpO (farW (r : Int)) ws i c m := by
  intro c
  induction c with
  | zero => intro i m _; rfl
  | succ c ih =>
    intro i m hi
    have hz : (txt ws i).size = z := h _ (List.mem_of_getElem? (txt_mem (ws := ws) (i := i) (by omega)))
    rw [lpO, lpO, txt_map _ (by omega), ← List.map_take, lpI_cut (by omega) _ _ fun y hy => by rw [hz, h y (List.take_subset _ _ hy)]]
    exact ih _ _ (by omega)
theorem least_cut {r z : Nat} {ws : List ByteArray} (hr : r < z) (h : ∀ s ∈ ws, s.size = z) : leastA farB (ws.map (cutB r)) = leastA (farW (r : Int)) ws := by
  unfold leastA
  rw [List.length_map]
  exact lpO_cut hr h _ _ _ (by omega)
theorem pairs_le (ws : List ByteArray) (z : Nat) (h : ∀ s ∈ ws, s.size ≤ z) : ∀ c i, i + c ≤ ws.length → ∀ v ∈ pairs ws i c, v ≤ z := by
  intro c
  induction c with
  | zero => intro i _ v hv; cases hv
  | succ c ih =>
    intro i hi v hv
    rcases List.mem_append.1 hv with hv | hv
    · obtain ⟨y, _, rfl⟩ := List.mem_map.1 hv
      have h1 := (farB_bd (txt ws i) y).2
      have h2 := h _ (List.mem_of_getElem? (txt_mem (ws := ws) (i := i) (by omega)))
      omega
    · exact ih (i + 1) (by omega) v hv
/-- The least distance of words without the ring r. -/
def wrL (ws : List ByteArray) (r : Nat) : Int := leastA (farW (r : Int)) ws
theorem wrL_le {ws : List ByteArray} {z r : Nat} (h2 : 2 ≤ ws.length) (hr : r < z) (h : ∀ s ∈ ws, s.size = z) (hz : z ≤ 8) : 0 ≤ wrL ws r ∧ wrL ws r ≤ 8 := by
  unfold wrL
  rw [← least_cut hr h]
  have h3 := least_in (ws := ws.map (cutB r)) (by rw [List.length_map]; exact h2)
  have h4 := pairs_pos _ _ _ _ h3
  have h5 := pairs_le (ws.map (cutB r)) 8 (fun s hs => by
    obtain ⟨t, ht, rfl⟩ := List.mem_map.1 hs
    rw [cutB_size (by rw [h t ht]; exact hr), h t ht]; omega) _ _ (by omega) _ h3
  omega
def worstN (L : Nat → Int) : Nat → Nat → Nat → Nat
  | _, 0, b => b
  | r, m + 1, b => worstN L (r + 1) m (if L r < L b then r else b)
theorem worstN_yes {L : Nat → Int} {r m b : Nat} (h : L r < L b) : worstN L r (m + 1) b = worstN L (r + 1) m r := by rw [worstN, if_pos h]
theorem worstN_no {L : Nat → Int} {r m b : Nat} (h : ¬ L r < L b) : worstN L r (m + 1) b = worstN L (r + 1) m b := by rw [worstN, if_neg h]
def worstR (n : Int) (ws : List ByteArray) : Int × Int := if pcode n ws = 0 then ((worstN (wrL ws) 0 (txt ws 0).size 0 : Nat), 0) else (0, pcode n ws)
end Go.Proofs.YtaajkmjilcamgaaGreatDoor
namespace Go.Proofs.YtaajkmjilcamgaaGreatDoor
open Go.RowKit

theorem own_only {w w' : World} {g a b n c s : Nat} {e : TypeId} {xs : List Value} (h : w.ownsRow g e s (.slice (some ⟨g, 0, none⟩) n c) n xs) (k : Only a b w w') (hd : b ≤ g ∨ g < a) : w'.ownsRow g e s (.slice (some ⟨g, 0, none⟩) n c) n xs := by
  refine ⟨h.1, ?_⟩
  rcases h.2 with h0 | ⟨g', cap, cur, he, hb, hg, rest⟩
  · exact .inl h0
  · simp only [Value.slice.injEq, Option.some.injEq, Addr.mk.injEq, and_true, true_and] at he
    obtain ⟨rfl, rfl⟩ := he
    exact .inr ⟨g, _, cur, rfl, hb, (k.2.2.2.2 g (lt_of_block hg) (by omega)).trans hg, rest⟩
theorem onv_block {e : TypeId} {s : Nat} {w : World} {lo hi n : Nat} {v : Value} {xs : List Value} (h : OwnV e s w lo hi v n xs) (hn : 0 < n) : ∃ g c, v = .slice (some ⟨g, 0, none⟩) n c ∧ lo ≤ g ∧ g < hi ∧ w.ownsRow g e s v n xs ∧ w.ownsRow lo e s v n xs := by
  obtain ⟨⟨A, c, rfl⟩, _, h0 | ⟨ho, hlt⟩⟩ := h
  · omega
  · rcases ho.2 with ⟨_, h0⟩ | ⟨g, cap, cur, he, hb, hg, rest⟩
    · omega
    · simp only [Value.slice.injEq, true_and] at he
      obtain ⟨rfl, rfl⟩ := he
      exact ⟨g, _, rfl, hb, hlt g rfl, ⟨ho.1, .inr ⟨g, _, cur, rfl, Nat.le_refl _, hg, rest⟩⟩, ho⟩
theorem set_mid {α : Type} {us vs : List α} {p q : α} {j : Nat} (h : us.length = j) : (us ++ p :: vs).set j q = (us ++ [q]) ++ vs := by
  rw [List.set_append_right _ _ (by omega), h, Nat.sub_self, List.set_cons_zero, List.append_assoc]; rfl
theorem get_mid {α : Type} {us vs : List α} {p : α} {j : Nat} (h : us.length = j) : (us ++ p :: vs)[j]? = some p := by
  rw [List.getElem?_append_right (by omega), h, Nat.sub_self]; rfl
theorem mark1 {L : List (Value × TN)} {k : Nat} {p : Value × TN} (h : L[k]? = some p) (way : List Int) (a : Int) : (L.flatMap (Nc 1)).set (k * 2 + 1) (.int .i64 a) = (L.set k (p.1, ⟨way, a, p.2.q⟩)).flatMap (Nc 1) :=
  flatMap_set (Nc 1) 2 (fun _ => rfl) L k 1 p (p.1, ⟨way, a, p.2.q⟩) (.int .i64 a) h (by omega) rfl
theorem mark2 {L : List (Value × TN)} {k : Nat} {p : Value × TN} (h : L[k]? = some p) (way : List Int) (a b : Int) : ((L.flatMap (Nc 2)).set (k * 3 + 1) (.int .i64 a)).set (k * 3 + 2) (.int .i64 b) = (L.set k (p.1, ⟨way, a, b⟩)).flatMap (Nc 2) := by
  have h1 := flatMap_set (Nc 2) 3 (fun _ => rfl) L k 1 p (p.1, ⟨way, a, p.2.q⟩) (.int .i64 a) h (by omega) rfl
  have h2 := flatMap_set (Nc 2) 3 (fun _ => rfl) (L.set k (p.1, ⟨way, a, p.2.q⟩)) k 2 (p.1, ⟨way, a, p.2.q⟩) (p.1, ⟨way, a, b⟩) (.int .i64 b) (List.getElem?_set_self (lt_of_get h)) (by omega) rfl
  rw [h1, h2, set_set_same]
theorem mark0 {L : List (Value × TN)} {k : Nat} {p : Value × TN} (h : L[k]? = some p) (z : TN) : L.flatMap (Nc 0) = (L.set k (p.1, z)).flatMap (Nc 0) := by
  have h1 := flatMap_set (Nc 0) 1 (fun _ => rfl) L k 0 p (p.1, z) p.1 h (by omega) rfl
  rw [Nat.add_zero, Nat.mul_one] at h1
  rw [← h1]
  have h2 := flatMap_get (Nc 0) 1 (fun _ => rfl) L k 0 p h (by omega)
  rw [Nat.add_zero, Nat.mul_one] at h2
  refine (List.ext_getElem? fun i => ?_)
  by_cases hi : i = k
  · subst hi; rw [List.getElem?_set_self (lt_of_get h2), h2]; rfl
  · rw [List.getElem?_set_ne (fun e => hi e.symm)]
theorem take_next {α : Type} {x : List α} {j : Nat} {e : α} (h : x[j]? = some e) : x.take (j + 1) = x.take j ++ [e] := by
  obtain ⟨hl, he⟩ := List.getElem?_eq_some_iff.1 h
  rw [List.take_succ_eq_append_getElem hl, he]
theorem mkN_next {m : Nat} {x : List TN} {j : Nat} {e : TN} (h : x[j]? = some e) (k : Int) : mkN m (x.take (j + 1)) k = mkN m (x.take j) k ++ [⟨mark_Int64S e.way (k + cntN m (x.take j)), if 1 ≤ m then k + cntN m (x.take j) + e.way.length else e.p, if 2 ≤ m then k + cntN m (x.take j) + e.way.length + 1 else e.q⟩] := by
  rw [take_next h, mkN_append, mkN, mkN]
theorem cntN_le {m : Nat} (hm : m ≤ 2) {x : List TN} (hs : SmallN x) (j : Nat) : 0 ≤ cntN m (x.take j) ∧ cntN m (x.take j) ≤ 4194304 := by
  have h1 := cntN_bd m hm x
  have h2 := cntN_bd m hm (x.take j)
  have h3 := cntN_bd m hm (x.drop j)
  have h4 := cntN_append m (x.take j) (x.drop j)
  rw [List.take_append_drop] at h4
  unfold SmallN at hs
  omega
end Go.Proofs.YtaajkmjilcamgaaGreatDoor
namespace Go.Proofs.YtaajkmjilcamgaaGreatDoor
open Go.RowKit

section
variable {P : Program}
theorem op_app {o : Oper} {a : Act} {K : Act → World → Prop} {Q : Exit → Act → World → Prop} (w : World) (s x : Operand) (t : TypeId)
    (ho : o.op = .call { callee := .builtin .append, args := #[s, x], argTypes := #[t, t] })
    (base : Nat) (e : TypeId) (i : TypeInfo) (z : Value) (size bytes : Nat) (ht : P.underlying t = some (.slice e)) (hi : P.info? e = some i) (hz : i.zero = some z)
    (hsize : i.size = size) (hby : i.bytes = bytes) (hzs : z.cells.size = size) (hsz : 0 < size)
    (v : Value) (n : Nat) (xs : List Value) (hs : a.eval s = v) (hown : w.ownsRow base e size v n xs)
    (B : Nat) (A : Option Addr) (m c : Nat) (news : List Value) (hx : a.eval x = .slice A m c) (hl : news.length = m * size) (hr : Rd w B A news) (h1 : ∀ u ∈ news, u.oneCell' = true)
    (hn : n + m ≤ 1099511627776) (hb : bytes ≤ 64) (hbase : base ≤ w.heap.size)
    (h : ∀ v' w', w'.ownsRow base e size v' (n + m) (xs ++ news) → w.grownBy w' v.ownBlock → (v'.ownBlock = v.ownBlock ∨ v'.ownBlock = some w.heap.size) → K (a.put o.dst v') w') :
    o.wp P a w K Q := by
  obtain ⟨v', w', hrun, h2, h3, h4⟩ := run_app (P := P) w base t o.type e i z size bytes ht hi hz hsize hby hzs hsz v n xs hown B A m c news hl hr h1 (by unfold maxLen; omega)
    (Nat.le_trans (Nat.mul_le_mul hn hb) (by omega)) hbase
  unfold Oper.wp execOp
  simp only [ho, resolve, invoke, builtin, Sem.run_bind, Sem.run_pure, Result.andThen_ok, List.map_toArray, List.map_cons, List.map_nil, hs, hx, hrun]
  exact h v' w' h2 h3 h4
end
theorem famO_grown {w w' : World} {v v' : Value} {lo : Nat} {ps : List (Value × TN)} {T : TypeId} {s n : Nat} {xs : List Value} (h : FamO w v.ownBlock lo w.heap.size ps) (ho : w.ownsRow lo T s v n xs) (hg : w.grownBy w' v.ownBlock) (hb : v'.ownBlock = v.ownBlock ∨ v'.ownBlock = some w.heap.size) : FamO w' v'.ownBlock lo w'.heap.size ps := by
  have key : ∀ {ps : List (Value × TN)} {lo' : Nat}, FamO w v.ownBlock lo' w.heap.size ps → FamO w' v'.ownBlock lo' w'.heap.size ps := by
    intro ps
    induction ps with
    | nil => intro lo' _; trivial
    | cons p ps ih =>
      intro lo' h
      obtain ⟨a, b, h1, h2, h3, h4, h5, h6⟩ := h
      refine ⟨a, b, h1, h2, Nat.le_trans h3 hg.size, fun g hgg => ?_, ?_, ih h6⟩
      · rcases hb with h | h
        · exact h4 g (by rw [← h]; exact hgg)
        · rw [h] at hgg; cases hgg; exact .inl h3
      · cases hv : v.ownBlock with
        | none =>
          rw [hv] at hg
          exact h5.below (B := w.heap.size) ⟨hg.os, hg.tape, hg.output, hg.size, fun k hk => hg.block k hk (by simp)⟩ h3
        | some g0 =>
          have hg0 := (ho.lt g0 hv).2
          rw [hv] at hg
          exact h5.kept (lo' := g0) (hi' := g0 + 1) ⟨hg.os, hg.tape, hg.output, hg.size, fun k hk ho' => hg.block k hk (by simp; omega)⟩ (by have := h4 g0 hv; omega)
  exact key h

def lateR (x : List TN) (k by_ : Int) : List TN := match x[k.toNat]? with | none => x | some e => x.set k.toNat ⟨e.way, e.p + by_, e.q⟩
def delayRun (ts : List Int) (x : List TN) (k by_ : Int) : List TN × Int :=
  if vRuns ts x = true then (if (0 ≤ k ∧ k ≤ (x.length : Int) - 1) ∧ (0 ≤ by_ ∧ by_ ≤ 100000) then (if ((x[k.toNat]?).map fun e => e.p + by_).getD 0 ≤ 100000 then (lateR x k by_, 0) else ([], 5)) else ([], 2)) else ([], 1)
theorem onl_set {T : TypeId} {w : World} {lo hi n g c i : Nat} {x : List TN} {e : TN} {a : Int} (h : ON T 1 w lo hi (.slice (some ⟨g, 0, none⟩) n c) x) (hi' : x[i]? = some e) (hg : lo ≤ g ∧ g < hi) : ON T 1 (w.setCell ⟨g, i * 2 + 1, none⟩ (.int .i64 a)) lo hi (.slice (some ⟨g, 0, none⟩) n c) (x.set i ⟨e.way, a, e.q⟩) := by
  obtain ⟨ps, hP, hO, hF, hS⟩ := h
  obtain ⟨p, hp, hp2⟩ : ∃ p, ps[i]? = some p ∧ p.2 = e := by
    rw [← hP, List.getElem?_map] at hi'
    cases hq : ps[i]? with
    | none => rw [hq] at hi'; cases hi'
    | some p => rw [hq] at hi'; exact ⟨p, rfl, Option.some.inj hi'⟩
  refine ⟨ps.set i (p.1, ⟨e.way, a, e.q⟩), ?_, ?_, ?_, ?_⟩
  · rw [List.map_set, hP]
  · have hm := mark1 hp e.way a
    rw [hp2] at hm
    rw [← hm]
    obtain ⟨h1, h2, h3⟩ := hO
    rw [List.length_set]
    refine ⟨h1, h2, ?_⟩
    rcases h3 with ⟨h0, hx⟩ | ⟨ho, hlt⟩
    · exact absurd (lt_of_get hi') (by omega)
    · obtain ⟨_, _, he⟩ := h1
      simp only [Value.slice.injEq] at he
      obtain ⟨_, rfl, _⟩ := he
      exact .inr ⟨(ho.stored (i * 2 + 1) (.int .i64 a)).1, hlt⟩
  · have hF2 := FamO.keptB (g := g) (onlyN_set (w := w) (b := g) (j := i * 2 + 1) (v := .int .i64 a) (lo := g) (hi := g + 1) (Nat.le_refl _) (by omega)) hF
    have key : ∀ {ps : List (Value × TN)} {lo i : Nat} {p : Value × TN}, FamO (w.setCell ⟨g, i * 2 + 1, none⟩ (.int .i64 a)) (some g) lo hi ps → True := fun _ => trivial
    clear key
    have key : ∀ (W : World) (ps : List (Value × TN)) (lo i : Nat) (p q : Value × TN), ps[i]? = some p → q.1 = p.1 → q.2.way = p.2.way → FamO W (some g) lo hi ps → FamO W (some g) lo hi (ps.set i q) := by
      intro W ps
      induction ps with
      | nil => intro lo i p q h; simp at h
      | cons p' ps ih =>
        intro lo i p q hq h1 h2 hF
        obtain ⟨a1, b1, k1, k2, k3, k4, k5, k6⟩ := hF
        cases i with
        | zero => simp at hq; subst hq; rw [List.set_cons_zero]; exact ⟨a1, b1, k1, k2, k3, k4, by rw [h1, h2]; exact k5, k6⟩
        | succ i => rw [List.set_cons_succ]; exact ⟨a1, b1, k1, k2, k3, k4, k5, ih _ i p q (by simpa using hq) h1 h2 k6⟩
    exact key _ ps lo i p _ hp rfl (by rw [hp2]) hF2
  · unfold SmallN at hS ⊢
    have hm : ((x.set i ⟨e.way, a, e.q⟩).map fun e => e.way.length) = x.map fun e => e.way.length := by
      rw [List.map_set]
      refine List.ext_getElem? fun j => ?_
      by_cases hj : j = i
      · subst hj
        rw [List.getElem?_set_self (by rw [List.length_map]; exact lt_of_get hi'), List.getElem?_map, hi']; rfl
      · rw [List.getElem?_set_ne (fun e => hj e.symm)]
    rw [hm, List.length_set]; exact hS
end Go.Proofs.YtaajkmjilcamgaaGreatDoor
namespace Go.Proofs.YtaajkmjilcamgaaGreatDoor
open Go.RowKit
theorem RdS.of_own {w : World} {base : Nat} {e : TypeId} {A : Option Addr} {n c : Nat} {xs : List ByteArray} (h : w.ownsRow base e 1 (.slice A n c) n (xs.map Value.string)) : RdS w w.heap.size A xs := Rd.of_own h
theorem str_one (s : ByteArray) : ∀ u ∈ [Value.string s], u.oneCell' = true := by intro u hu; simp at hu; subst hu; rfl
theorem string_inf : (Tryz.prog.info? 9).map (fun i => (i.zero, i.size, i.bytes)) = some (some (.string ByteArray.empty), 1, 16) := by kernel_rfl
theorem worstR_no {n : Int} {ws : List ByteArray} {q : Int} (h : pcode n ws = q) (h0 : q ≠ 0) : worstR n ws = (0, q) := by unfold worstR; rw [h, if_neg h0]
theorem worstR_ok {n : Int} {ws : List ByteArray} (h : pcode n ws = 0) : worstR n ws = (((worstN (wrL ws) 0 (txt ws 0).size 0 : Nat) : Int), 0) := by unfold worstR; rw [if_pos h]
theorem pcode_1 {n : Int} {ws : List ByteArray} (h : addrs n ws = false) : pcode n ws = 1 := by unfold pcode; rw [if_pos h]
theorem pcode_3 {n : Int} {ws : List ByteArray} (h : addrs n ws = true) (hl : ws.length < 2) : pcode n ws = 3 := by unfold pcode; rw [if_neg (by rw [h]; decide), if_pos hl]
theorem pcode_0 {n : Int} {ws : List ByteArray} (h : addrs n ws = true) (hl : ¬ ws.length < 2) : pcode n ws = 0 := by unfold pcode; rw [if_neg (by rw [h]; decide), if_neg hl]
end Go.Proofs.YtaajkmjilcamgaaGreatDoor
namespace Go.Proofs.YtaajkmjilcamgaaGreatDoor
open Go.RowKit
theorem map_take_snoc {ws : List ByteArray} {k : Nat} {s : ByteArray} (f : ByteArray → ByteArray) (h : ws[k]? = some s) : ((ws.take (k + 1)).map f).map Value.string = ((ws.take k).map f).map Value.string ++ [.string (f s)] := by
  rw [List.take_add_one, h]
  simp
end Go.Proofs.YtaajkmjilcamgaaGreatDoor
namespace Go.Proofs.YtaajkmjilcamgaaGreatDoor
open Go.RowKit

/-- The source lies in block b: its code, where it stands (at most N), and its seed. -/
def SrcAt (b : Nat) (bs : List Int) (N : Int) (W : World) : Prop :=
  ∃ A c at_ sd, BoxN W b #[.slice A bs.length c, .int .i64 at_, .int .u64 sd] 98 ∧ (0 ≤ at_ ∧ at_ ≤ N) ∧ RdB W b A bs
/-- What all draws take for granted. -/
def BsOk (bs : List Int) : Prop := bs.length ≤ 4096 ∧ ∀ z ∈ bs, 0 ≤ z ∧ z ≤ 255
theorem SrcAt.below {b : Nat} {bs : List Int} {N : Int} {W W' : World} {B : Nat} (h : SrcAt b bs N W) (k : Below B W W') (hb : b < B) : SrcAt b bs N W' := by
  obtain ⟨A, c, at_, sd, X, h1, h2⟩ := h
  exact ⟨A, c, at_, sd, X.below k hb, h1, h2.below (k.mono (by omega))⟩
theorem SrcAt.lt {b : Nat} {bs : List Int} {N : Int} {W : World} (h : SrcAt b bs N W) : b < W.heap.size := by
  obtain ⟨A, c, at_, sd, X, _⟩ := h
  exact X.lt
theorem SrcAt.more {b : Nat} {bs : List Int} {N N' : Int} {W : World} (h : SrcAt b bs N W) (hN : N ≤ N') : SrcAt b bs N' W := by
  obtain ⟨A, c, at_, sd, X, h1, h2⟩ := h
  exact ⟨A, c, at_, sd, X, ⟨h1.1, by omega⟩, h2⟩
theorem only_setC {lo hi : Nat} (w : World) (a : Addr) (v : Value) (h : lo ≤ a.block ∧ a.block < hi) : Only lo hi w (w.setCell a v) :=
  ⟨rfl, rfl, rfl, by simp [World.setCell], fun k _ ho => Below.heap_setCell _ _ _ _ (by omega)⟩
theorem u64_range (n : Int) : 0 ≤ IntKind.u64.wrap n ∧ IntKind.u64.wrap n < 18446744073709551616 := by
  simp [IntKind.wrap, IntKind.bits, IntKind.signed]; omega
theorem u64_self (n : Int) (h0 : 0 ≤ n) (h1 : n < 2 ^ 64) : IntKind.u64.wrap n = n := by
  simp [IntKind.wrap, IntKind.bits, IntKind.signed]; omega
theorem next_val (s : Int) (h0 : 0 ≤ s) (h1 : s < 18446744073709551616) : 0 ≤ wrap64 (bits BinOp.and IntKind.u64 (s / 1099511627776) 255) ∧ wrap64 (bits BinOp.and IntKind.u64 (s / 1099511627776) 255) ≤ 255 := by
  have hm := bits_mask .u64 64 (by decide) u64_self 8 (by decide) (s / 1099511627776) (by omega) (by omega)
  have e : (2 : Int) ^ 8 - 1 = 255 := by decide
  rw [e] at hm
  rw [hm]
  unfold wrap64
  omega
set_option maxRecDepth 100000 in
set_option maxHeartbeats 4000000 in
theorem l00From_any (bs : List Int) (A : Option Addr) (c : Nat) (w : World) (hl : bs.length ≤ 4096) (h1 : RdB w w.heap.size A bs) :
    Calls Tryz.prog 35 #[.slice A bs.length c] w fun e w' => e = .returned (.pointer (some ⟨w.heap.size, 0, none⟩)) ∧ SrcAt w.heap.size bs 0 w' ∧ w'.heap.size = w.heap.size + 1 ∧ Below w.heap.size w w' := by
  have hb : Below w.heap.size w (w.alloc (.cells #[.slice A bs.length c, .int .i64 0, .int .u64 0] 98)) := (by repeat (first | exact Below.refl _ _ | assumption | (refine Below.alloc ?_ (by simp <;> omega) _) | refine Below.drew ?_ | refine bdn ?_ _))
  have hr := h1.below hb
  have X := BoxN.new w #[.slice A bs.length c, .int .i64 0, .int .u64 0] 98
  clear h1
  go_enter Tryz.func35, Tryz.ntmps35
  go_wp2_with fail
  go_ret
  exact ⟨rfl, ⟨A, c, 0, 0, X, ⟨by omega, by omega⟩, hr⟩, by simp, hb⟩
set_option maxRecDepth 100000 in
set_option maxHeartbeats 4000000 in
theorem next_any (b : Nat) (bs : List Int) (N : Int) (w : World) (hbs : BsOk bs) (hN : N ≤ 1099511627776) (h : SrcAt b bs N w) :
    Calls Tryz.prog 94 #[.pointer (some ⟨b, 0, none⟩)] w fun e w' => ∃ z, e = .returned (.int .i64 z) ∧ (0 ≤ z ∧ z ≤ 255) ∧ SrcAt b bs (N + 1) w' ∧ Only b (b + 1) w w' := by
  obtain ⟨A, c, at_, sd, X, ⟨h0, h1⟩, hr⟩ := h
  obtain ⟨n, rfl⟩ := Int.eq_ofNat_of_zero_le h0
  obtain ⟨hl, hb⟩ := hbs
  have hN2 := hN
  have k0 : w.cell? ⟨b, 0, none⟩ = some (.slice A bs.length c) := X.cell 0
  have k1 : w.cell? ⟨b, 1, none⟩ = some (.int .i64 n) := X.cell 1
  have X0 := hide X
  have HR := hide hr
  have HBD := hide hb
  clear X hr hb
  by_cases hlt : n < bs.length
  · obtain ⟨b1, o1, z, rfl, hb1, hz, hcz⟩ := HR.out.at_ hlt
    obtain ⟨hz0, hz1⟩ := HBD.out z (List.mem_of_getElem? hz)
    have hnl : (n : Int) < bs.length := by omega
    have hB1 : decide ((n : Int) < bs.length) = true := decide_eq_true hnl
    clear hz
    go_enter Tryz.func94, Tryz.ntmps94
    go_wp2_with fail
    go_quiet (fail)
    have X1 : Hid (BoxN (w.drewN nq) b #[.slice (some ⟨b1, o1, none⟩) bs.length c, .int .i64 n, .int .u64 sd] 98) := X0.out
    have hcz1 : (w.drewN nq).cell? ⟨b1, o1 + n, none⟩ = some (.int .u8 z) := hcz
    have k01 : (w.drewN nq).cell? ⟨b, 0, none⟩ = some (.slice (some ⟨b1, o1, none⟩) bs.length c) := k0
    have k11 : (w.drewN nq).cell? ⟨b, 1, none⟩ = some (.int .i64 n) := k1
    have o1' : Only b (b + 1) w (w.drewN nq) := only_of_below (bdn (Below.refl _ _) nq)
    clear k0 k1 hcz
    generalize w.drewN nq = wq at *
    go_wp2_with fail
    go_quiet (fail)
    have X2 : Hid (BoxN (wq.drewN nq) b #[.slice (some ⟨b1, o1, none⟩) bs.length c, .int .i64 n, .int .u64 sd] 98) := X1.out
    have o2' : Only b (b + 1) w (wq.drewN nq) := only_trans o1' (only_of_below (bdn (Below.refl _ _) nq))
    clear k01 k11 hcz1
    generalize wq.drewN nq = wp at *
    have k12 : wp.cell? ⟨b, 1, none⟩ = some (.int .i64 n) := X2.out.cell 1
    have f12 := X2.out.fro 1
    have X3 := hide (X2.out.set 1 (.int .i64 ((n : Int) + 1)))
    have k22 : (wp.setCell ⟨b, 1, none⟩ (.int .i64 ((n : Int) + 1))).cell? ⟨b, 2, none⟩ = some (.int .u64 sd) := X3.out.cell 2
    have f22 := X3.out.fro 2
    go_wp2_with fail
    generalize hE : IntKind.u64.wrap (IntKind.u64.wrap (IntKind.u64.wrap (sd * 6364136223846793005) + z) + 1442695040888963407) = s2 at *
    clear hE k12 f12 k22 f22
    have X4 := hide (X3.out.set 2 (.int .u64 s2))
    have o4 := only_trans o2' (only_trans (only_setC wp ⟨b, 1, none⟩ (.int .i64 ((n : Int) + 1)) ⟨Nat.le_refl b, Nat.lt_succ_self b⟩) (only_setC _ ⟨b, 2, none⟩ (.int .u64 s2) ⟨Nat.le_refl b, Nat.lt_succ_self b⟩))
    generalize (wp.setCell ⟨b, 1, none⟩ (.int .i64 ((n : Int) + 1))).setCell ⟨b, 2, none⟩ (.int .u64 s2) = w4 at *
    have k0 : w4.cell? ⟨b, 0, none⟩ = some (.slice (some ⟨b1, o1, none⟩) bs.length c) := X4.out.cell 0
    have k1 : w4.cell? ⟨b, 1, none⟩ = some (.int .i64 ((n : Int) + 1)) := X4.out.cell 1
    have hB2 : decide ((n : Int) + 1 ≤ bs.length) = true := decide_eq_true (by omega)
    go_quiet (fail)
    go_wp2_with fail
    go_ret
    exact ⟨z, rfl, ⟨hz0, hz1⟩, ⟨_, c, (n : Int) + 1, s2, X4.out, ⟨by omega, by omega⟩, HR.out.below ((o4.below (B := b) (Nat.le_refl _) (Nat.le_of_lt X0.out.lt)).trans (bdn (Below.refl _ _) nq))⟩, only_trans o4 (only_of_below (bdn (Below.refl _ _) nq))⟩
  · have hnl : (bs.length : Int) ≤ n := by omega
    have hB1 : decide ((n : Int) < bs.length) = false := decide_eq_false (by omega)
    go_enter Tryz.func94, Tryz.ntmps94
    go_wp2_with fail
    go_quiet (fail)
    have X2 : Hid (BoxN (w.drewN nq) b #[.slice A bs.length c, .int .i64 n, .int .u64 sd] 98) := X0.out
    have o2' : Only b (b + 1) w (w.drewN nq) := only_of_below (bdn (Below.refl _ _) nq)
    clear k0 k1
    generalize w.drewN nq = wp at *
    have k12 : wp.cell? ⟨b, 1, none⟩ = some (.int .i64 n) := X2.out.cell 1
    have f12 := X2.out.fro 1
    have X3 := hide (X2.out.set 1 (.int .i64 ((n : Int) + 1)))
    have k22 : (wp.setCell ⟨b, 1, none⟩ (.int .i64 ((n : Int) + 1))).cell? ⟨b, 2, none⟩ = some (.int .u64 sd) := X3.out.cell 2
    have f22 := X3.out.fro 2
    go_wp2_with fail
    generalize hE : IntKind.u64.wrap (IntKind.u64.wrap (IntKind.u64.wrap (sd * 6364136223846793005)) + 1442695040888963407) = s2 at *
    have HS2 := hide (hE ▸ u64_range (IntKind.u64.wrap (IntKind.u64.wrap (sd * 6364136223846793005)) + 1442695040888963407) : 0 ≤ s2 ∧ s2 < 18446744073709551616)
    clear hE k12 f12 k22 f22
    have X4 := hide (X3.out.set 2 (.int .u64 s2))
    have o4 := only_trans o2' (only_trans (only_setC wp ⟨b, 1, none⟩ (.int .i64 ((n : Int) + 1)) ⟨Nat.le_refl b, Nat.lt_succ_self b⟩) (only_setC _ ⟨b, 2, none⟩ (.int .u64 s2) ⟨Nat.le_refl b, Nat.lt_succ_self b⟩))
    generalize (wp.setCell ⟨b, 1, none⟩ (.int .i64 ((n : Int) + 1))).setCell ⟨b, 2, none⟩ (.int .u64 s2) = w4 at *
    have k0 : w4.cell? ⟨b, 0, none⟩ = some (.slice A bs.length c) := X4.out.cell 0
    have k1 : w4.cell? ⟨b, 1, none⟩ = some (.int .i64 ((n : Int) + 1)) := X4.out.cell 1
    have k2 : w4.cell? ⟨b, 2, none⟩ = some (.int .u64 s2) := X4.out.cell 2
    have hB2 : decide ((n : Int) + 1 ≤ bs.length) = false := decide_eq_false (by omega)
    go_quiet (fail)
    go_wp2_with fail
    have hv := next_val s2 HS2.out.1 HS2.out.2
    go_ret
    exact ⟨_, rfl, hv, ⟨_, c, (n : Int) + 1, s2, X4.out, ⟨by omega, by omega⟩, HR.out.below ((o4.below (B := b) (Nat.le_refl _) (Nat.le_of_lt X0.out.lt)).trans (bdn (Below.refl _ _) nq))⟩, only_trans o4 (only_of_below (bdn (Below.refl _ _) nq))⟩
end Go.Proofs.YtaajkmjilcamgaaGreatDoor
namespace Go.Proofs.YtaajkmjilcamgaaGreatDoor
open Go.RowKit

set_option maxRecDepth 100000 in
set_option maxHeartbeats 4000000 in
theorem pick_any (b : Nat) (bs : List Int) (N n : Int) (w : World) (hbs : BsOk bs) (hN : N ≤ 1099511000000) (h : SrcAt b bs N w) :
    Calls Tryz.prog 68 #[.pointer (some ⟨b, 0, none⟩), .int .i64 n] w fun e w' => ∃ z, e = .returned (.int .i64 z) ∧ (0 ≤ z ∧ (1 ≤ n → z < n) ∧ (n ≤ 1 → z = 0)) ∧ SrcAt b bs (N + 2) w' ∧ Only b (b + 1) w w' := by
  by_cases h1 : n ≤ 1
  · have HS := hide h
    clear h
    go_enter Tryz.func68, Tryz.ntmps68
    go_wp2_with fail
    go_ret
    exact ⟨0, rfl, ⟨by omega, by omega, fun _ => rfl⟩, HS.out.more (by omega), only_of_below (Below.refl _ _)⟩
  have HC := hide (next_any b bs N w hbs (by omega) h)
  clear h
  by_cases h2 : n ≤ 200
  · go_enter Tryz.func68, Tryz.ntmps68
    go_wp2_with (go_at_call 94; refine (HC.out).mono ?_; rintro e w1 ⟨z, rfl, ⟨hz0, hz1⟩, hs1, ho1⟩)
    have hm0 := Int.emod_nonneg z (show n ≠ 0 by omega)
    have hm1 := Int.emod_lt_of_pos z (show 0 < n by omega)
    go_ret
    exact ⟨z % n, rfl, ⟨hm0, fun _ => hm1, fun h => by omega⟩, hs1.more (by omega), ho1⟩
  · have HC2 := hide fun W (hW : SrcAt b bs (N + 1) W) => next_any b bs (N + 1) W hbs (by omega) hW
    go_enter Tryz.func68, Tryz.ntmps68
    go_wp2_with (go_at_call 94; refine (HC.out).mono ?_; rintro e w1 ⟨z, rfl, ⟨hz0, hz1⟩, hs1, ho1⟩)
    have HS1 := hide hs1
    clear hs1 HC
    go_wp2_with (go_at_call 94; refine (HC2.out _ HS1.out).mono ?_; rintro e w2 ⟨z2, rfl, ⟨hy0, hy1⟩, hs2, ho2⟩)
    have hm0 := Int.emod_nonneg (z * 256 + z2) (show n ≠ 0 by omega)
    have hm1 := Int.emod_lt_of_pos (z * 256 + z2) (show 0 < n by omega)
    go_ret
    exact ⟨(z * 256 + z2) % n, rfl, ⟨hm0, fun _ => hm1, fun h => by omega⟩, hs2.more (by omega), only_trans ho1 ho2⟩
end Go.Proofs.YtaajkmjilcamgaaGreatDoor
namespace Go.Proofs.YtaajkmjilcamgaaGreatDoor
open Go.RowKit

theorem row_only {w w' : World} {lo hi base : Nat} {e : TypeId} {s n : Nat} {v : Value} {xs : List Value} (h : w.ownsRow base e s v n xs) (k : Only lo hi w w') (hd : hi ≤ base) : w'.ownsRow base e s v n xs := by
  refine ⟨h.1, ?_⟩
  rcases h.2 with h0 | ⟨g, cap, cur, he, hb, hg, rest⟩
  · exact .inl h0
  · exact .inr ⟨g, cap, cur, he, hb, (k.2.2.2.2 g (lt_of_block hg) (by omega)).trans hg, rest⟩
theorem only_app {lo hi base : Nat} {w0 w w' : World} {e : TypeId} {s n : Nat} {v : Value} {xs : List Value} (h : Only lo hi w0 w) (ho : w.ownsRow base e s v n xs) (hg : w.grownBy w' v.ownBlock) (hB : w0.heap.size ≤ base) : Only lo hi w0 w' :=
  ⟨hg.os.trans h.1, hg.tape.trans h.2.1, hg.output.trans h.2.2.1, Nat.le_trans h.size hg.size, fun i hi' ho' => (hg.block i (Nat.lt_of_lt_of_le hi' h.size) (fun e => by have := (ho.lt i e.symm).1; omega)).trans (h.2.2.2.2 i hi' ho')⟩
theorem only_alloc {lo hi : Nat} {w0 w : World} (h : Only lo hi w0 w) (o : Obj) : Only lo hi w0 (w.alloc o) := only_trans h (only_of_below ((Below.refl _ _).alloc (Nat.le_refl _) o))
theorem SrcAt.grown {b : Nat} {bs : List Int} {N : Int} {W W' : World} {row : Option Nat} (h : SrcAt b bs N W) (hg : W.grownBy W' row) (hr : ∀ g, row = some g → b < g) : SrcAt b bs N W' :=
  h.below (B := b + 1) ⟨hg.os, hg.tape, hg.output, hg.size, fun k hk => hg.block k (by have := h.lt; omega) (fun e => by have := hr k e.symm; omega)⟩ (Nat.lt_succ_self b)
theorem SrcAt.alloc {b : Nat} {bs : List Int} {N : Int} {W : World} (h : SrcAt b bs N W) (o : Obj) : SrcAt b bs N (W.alloc o) := h.below ((Below.refl _ _).alloc (Nat.le_refl _) o) h.lt
end Go.Proofs.YtaajkmjilcamgaaGreatDoor
