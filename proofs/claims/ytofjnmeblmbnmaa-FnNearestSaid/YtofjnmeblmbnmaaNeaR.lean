/-
  Words without a ring, and the worst one. Plain lemmas.
-/
import Derived.Test.YtofjnmeblmbnmaaNeaQ
namespace Go.Proofs.Ytofjnmeblmbnmaa
open Go.RowKit
theorem chr_list (s : ByteArray) (i : Nat) : chr s i = (((s.data.toList[i]?).getD 0).toNat : Int) := by
  unfold chr
  have e1 : s.get! i = s.data[i]! := rfl
  rw [e1, Array.getElem!_eq_getD, Array.getD_eq_getD_getElem?, ← Array.getElem?_toList]
  rfl
def cutB (r : Nat) (s : ByteArray) : ByteArray := s.extract 0 r ++ s.extract (r + 1) s.size
theorem cutB_list (r : Nat) (s : ByteArray) : (cutB r s).data.toList = s.data.toList.take r ++ s.data.toList.drop (r + 1) := by
  unfold cutB
  rw [ByteArray.data_append, Array.toList_append, ByteArray.data_extract, ByteArray.data_extract, Array.toList_extract, Array.toList_extract]
  have e : s.size = s.data.toList.length := rfl
  congr 1
  rw [List.extract_eq_take_drop, List.take_of_length_le (by rw [List.length_drop, e]; exact Nat.le_refl _)]
theorem cutB_size {r : Nat} {s : ByteArray} (h : r < s.size) : (cutB r s).size = s.size - 1 := by
  have h1 : (cutB r s).size = (cutB r s).data.toList.length := rfl
  have h2 : s.size = s.data.toList.length := rfl
  rw [h1, cutB_list, List.length_append, List.length_take, List.length_drop]
  omega
theorem cutB_chr {r : Nat} {s : ByteArray} (h : r < s.size) (i : Nat) : chr (cutB r s) i = if i < r then chr s i else chr s (i + 1) := by
  have h2 : s.size = s.data.toList.length := rfl
  rw [chr_list, cutB_list]
  by_cases hi : i < r
  · rw [if_pos hi, chr_list, List.getElem?_append_left (by rw [List.length_take]; omega), List.getElem?_take, if_pos hi]
  · rw [if_neg hi, chr_list, List.getElem?_append_right (by rw [List.length_take]; omega), List.length_take, List.getElem?_drop]
    rw [show r + 1 + (i - min r s.data.toList.length) = i + 1 by omega]
theorem farN_split (a b : ByteArray) : ∀ m n i, farN a b i (m + n) = farN a b i m + farN a b (i + m) n := by
  intro m
  induction m with
  | zero => intro n i; simp [farN]
  | succ m ih =>
    intro n i
    rw [show m + 1 + n = (m + n) + 1 by omega, farN, farN, ih n (i + 1), show i + 1 + m = i + (m + 1) by omega]
    omega
theorem farN_congr {a b a' b' : ByteArray} : ∀ m i i', (∀ k, k < m → chr a (i + k) = chr a' (i' + k) ∧ chr b (i + k) = chr b' (i' + k)) → farN a b i m = farN a' b' i' m := by
  intro m
  induction m with
  | zero => intro i i' _; rfl
  | succ m ih =>
    intro i i' h
    obtain ⟨h1, h2⟩ := h 0 (by omega)
    rw [Nat.add_zero, Nat.add_zero] at h1 h2
    rw [farN, farN, h1, h2, ih (i + 1) (i' + 1) fun k hk => by
      have := h (k + 1) (by omega)
      rw [show i + 1 + k = i + (k + 1) by omega, show i' + 1 + k = i' + (k + 1) by omega]
      exact this]
theorem far_cut {r : Nat} {s t : ByteArray} (h : r < s.size) (hs : s.size = t.size) : farB (cutB r s) (cutB r t) = farW (r : Int) s t := by
  unfold farW farB
  rw [cutB_size h, show s.size - 1 = r + (s.size - 1 - r) by omega, farN_split]
  have e1 : farN (cutB r s) (cutB r t) 0 r = farN s t 0 r := farN_congr r 0 0 fun k hk => by
    rw [cutB_chr h, cutB_chr (hs ▸ h), Nat.zero_add, if_pos hk, if_pos hk]; exact ⟨rfl, rfl⟩
  have e2 : farN (cutB r s) (cutB r t) (0 + r) (s.size - 1 - r) = farN s t (r + 1) (s.size - 1 - r) := farN_congr _ _ _ fun k hk => by
    rw [cutB_chr h, cutB_chr (hs ▸ h), Nat.zero_add, if_neg (by omega), if_neg (by omega), show r + k + 1 = r + 1 + k by omega]; exact ⟨rfl, rfl⟩
  have e3 : farN s t 0 s.size = farN s t 0 r + ((if chr s r = chr t r then 0 else 1) + farN s t (r + 1) (s.size - 1 - r)) := by
    have := farN_split s t r ((s.size - 1 - r) + 1) 0
    rw [show r + ((s.size - 1 - r) + 1) = s.size by omega, Nat.zero_add, farN] at this
    exact this
  rw [e1, e2, e3, Int.toNat_natCast]
  by_cases hc : chr s r = chr t r
  · rw [if_pos hc, if_neg (fun e => e.2 hc)]; omega
  · rw [if_neg hc, if_pos ⟨by omega, hc⟩]; omega
theorem lpI_cut {r : Nat} {x : ByteArray} (hx : r < x.size) : ∀ (ys : List ByteArray) (m : Int), (∀ y ∈ ys, x.size = y.size) → lpI farB (cutB r x) (ys.map (cutB r)) m = lpI (farW (r : Int)) x ys m := by
  intro ys
  induction ys with
  | nil => intro m _; rfl
  | cons y ys ih =>
    intro m h
    rw [List.map_cons, lpI, lpI, far_cut hx (h y (List.mem_cons_self ..))]
    exact ih _ fun z hz => h z (List.mem_cons_of_mem _ hz)
theorem txt_map {ws : List ByteArray} {i : Nat} (f : ByteArray → ByteArray) (h : i < ws.length) : txt (ws.map f) i = f (txt ws i) := by
  apply txt_get
  rw [List.getElem?_map, txt_mem h]
  rfl
theorem lpO_cut {r z : Nat} {ws : List ByteArray} (hr : r < z) (h : ∀ s ∈ ws, s.size = z) : ∀ c i m, i + c ≤ ws.length → lpO farB (ws.map (cutB r)) i c m = lpO (farW (r : Int)) ws i c m := by
  intro c
  induction c with
  | zero => intro i m _; rfl
  | succ c ih =>
    intro i m hi
    have hz : (txt ws i).size = z := h _ (List.mem_of_getElem? (txt_mem (ws := ws) (i := i) (by omega)))
    rw [lpO, lpO, txt_map _ (by omega), ← List.map_take, lpI_cut (by omega) _ _ fun y hy => by rw [hz, h y (List.take_subset _ _ hy)]]
    exact ih _ _ (by omega)
theorem least_cut {r z : Nat} {ws : List ByteArray} (hr : r < z) (h : ∀ s ∈ ws, s.size = z) : leastA farB (ws.map (cutB r)) = leastA (farW (r : Int)) ws := by
  unfold leastA
  rw [List.length_map]
  exact lpO_cut hr h _ _ _ (by omega)
theorem pairs_le (ws : List ByteArray) (z : Nat) (h : ∀ s ∈ ws, s.size ≤ z) : ∀ c i, i + c ≤ ws.length → ∀ v ∈ pairs ws i c, v ≤ z := by
  intro c
  induction c with
  | zero => intro i _ v hv; cases hv
  | succ c ih =>
    intro i hi v hv
    rcases List.mem_append.1 hv with hv | hv
    · obtain ⟨y, _, rfl⟩ := List.mem_map.1 hv
      have h1 := (farB_bd (txt ws i) y).2
      have h2 := h _ (List.mem_of_getElem? (txt_mem (ws := ws) (i := i) (by omega)))
      omega
    · exact ih (i + 1) (by omega) v hv
/-- The least distance of words without the ring r. -/
def wrL (ws : List ByteArray) (r : Nat) : Int := leastA (farW (r : Int)) ws
theorem wrL_le {ws : List ByteArray} {z r : Nat} (h2 : 2 ≤ ws.length) (hr : r < z) (h : ∀ s ∈ ws, s.size = z) (hz : z ≤ 8) : 0 ≤ wrL ws r ∧ wrL ws r ≤ 8 := by
  unfold wrL
  rw [← least_cut hr h]
  have h3 := least_in (ws := ws.map (cutB r)) (by rw [List.length_map]; exact h2)
  have h4 := pairs_pos _ _ _ _ h3
  have h5 := pairs_le (ws.map (cutB r)) 8 (fun s hs => by
    obtain ⟨t, ht, rfl⟩ := List.mem_map.1 hs
    rw [cutB_size (by rw [h t ht]; exact hr), h t ht]; omega) _ _ (by omega) _ h3
  omega
def worstN (L : Nat → Int) : Nat → Nat → Nat → Nat
  | _, 0, b => b
  | r, m + 1, b => worstN L (r + 1) m (if L r < L b then r else b)
theorem worstN_yes {L : Nat → Int} {r m b : Nat} (h : L r < L b) : worstN L r (m + 1) b = worstN L (r + 1) m r := by rw [worstN, if_pos h]
theorem worstN_no {L : Nat → Int} {r m b : Nat} (h : ¬ L r < L b) : worstN L r (m + 1) b = worstN L (r + 1) m b := by rw [worstN, if_neg h]
def worstR (n : Int) (ws : List ByteArray) : Int × Int := if pcode n ws = 0 then ((worstN (wrL ws) 0 (txt ws 0).size 0 : Nat), 0) else (0, pcode n ws)
end Go.Proofs.Ytofjnmeblmbnmaa
