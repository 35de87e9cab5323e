/-
  The nearest address, in the program.
  The nearest address, in the reference.
  Words for which another one can be misread, in the program.
  Words for which another one can be misread, in the reference.
  The law of the nearest address. Plain lemmas.
  Words without a ring, and the worst one. Plain lemmas.
  The worst ring, in both packages.
  The worst ring, in the reference.
  Drawn words.
  Drawn signs and addresses.
-/
import Derived.Test.YtaajkmjilcamgaaGreatDoorQWays9
import Derived.Test.YtaajkmjilcamgaaGreatDoorQWays4
import Derived.Test.YtaajkmjilcamgaaGreatDoorQWays5
import Derived.Test.YtaajkmjilcamgaaGreatDoorQWays8
namespace Go.Proofs.YtaajkmjilcamgaaGreatDoor
open Go.RowKit
def nst (i : Nat) (own : Int) (s : Nat × Int × Bool) : Nat × Int × Bool := if s.2.1 < 0 ∨ own < s.2.1 then (i, own, false) else if own = s.2.1 then (s.1, s.2.1, true) else s
def nearN (seen : ByteArray) (ws : List ByteArray) : Nat → Nat → Nat × Int × Bool → Nat × Int × Bool
  | _, 0, s => s
  | i, m + 1, s => nearN seen ws (i + 1) m (nst i (farB (txt ws i) seen) s)
def nearF (seen : ByteArray) (ws : List ByteArray) : Nat × Int × Bool := nearN seen ws 0 ws.length (0, -1, false)
def nearR (n : Int) (ws : List ByteArray) (seen : ByteArray) : Int × Int × Int :=
  if addrs n ws = false then (0, 0, 1) else if wordB n seen = false then (0, 0, 2) else if ws.length = 0 then (0, 0, 3) else if seen.size ≠ (txt ws 0).size then (0, 0, 8) else if (nearF seen ws).2.2 = true then (0, 0, 9) else (((nearF seen ws).1 : Int), (nearF seen ws).2.1, 0)
theorem nearR_1 {n : Int} {ws : List ByteArray} {seen : ByteArray} (h : addrs n ws = false) : nearR n ws seen = (0, 0, 1) := by unfold nearR; rw [if_pos h]
theorem nearR_2 {n : Int} {ws : List ByteArray} {seen : ByteArray} (h : addrs n ws = true) (h2 : wordB n seen = false) : nearR n ws seen = (0, 0, 2) := by unfold nearR; rw [if_neg (by rw [h]; decide), if_pos h2]
theorem nearR_3 {n : Int} {ws : List ByteArray} {seen : ByteArray} (h : addrs n ws = true) (h2 : wordB n seen = true) (h3 : ws.length = 0) : nearR n ws seen = (0, 0, 3) := by unfold nearR; rw [if_neg (by rw [h]; decide), if_neg (by rw [h2]; decide), if_pos h3]
theorem nearR_8 {n : Int} {ws : List ByteArray} {seen : ByteArray} (h : addrs n ws = true) (h2 : wordB n seen = true) (h3 : ¬ ws.length = 0) (h4 : seen.size ≠ (txt ws 0).size) : nearR n ws seen = (0, 0, 8) := by unfold nearR; rw [if_neg (by rw [h]; decide), if_neg (by rw [h2]; decide), if_neg h3, if_pos h4]
theorem nearR_9 {n : Int} {ws : List ByteArray} {seen : ByteArray} (h : addrs n ws = true) (h2 : wordB n seen = true) (h3 : ¬ ws.length = 0) (h4 : seen.size = (txt ws 0).size) (h5 : (nearF seen ws).2.2 = true) : nearR n ws seen = (0, 0, 9) := by unfold nearR; rw [if_neg (by rw [h]; decide), if_neg (by rw [h2]; decide), if_neg h3, if_neg (fun e => e h4), if_pos h5]
theorem nearR_0 {n : Int} {ws : List ByteArray} {seen : ByteArray} (h : addrs n ws = true) (h2 : wordB n seen = true) (h3 : ¬ ws.length = 0) (h4 : seen.size = (txt ws 0).size) (h5 : (nearF seen ws).2.2 = false) : nearR n ws seen = (((nearF seen ws).1 : Int), (nearF seen ws).2.1, 0) := by unfold nearR; rw [if_neg (by rw [h]; decide), if_neg (by rw [h2]; decide), if_neg h3, if_neg (fun e => e h4), if_neg (by rw [h5]; decide)]
end Go.Proofs.YtaajkmjilcamgaaGreatDoor
namespace Go.Proofs.YtaajkmjilcamgaaGreatDoor
open Go.RowKit
/-- The reference's best word and how many are as near, beside the program's state. -/
def NearI (seen : ByteArray) (ws : List ByteArray) (j bn mn : Nat) (lv : Int) (sb : Bool) : Prop := (j = 0 ∧ bn = 0 ∧ mn = 0 ∧ lv = -1 ∧ sb = false) ∨ (1 ≤ j ∧ bn < ws.length ∧ lv = farB (txt ws bn) seen ∧ ((sb = false ∧ mn = 1) ∨ (sb = true ∧ 2 ≤ mn ∧ mn ≤ j)))
theorem NearI.lt {seen : ByteArray} {ws : List ByteArray} {j bn mn : Nat} {lv : Int} {sb : Bool} (h : NearI seen ws j bn mn lv sb) (hl : 0 < ws.length) : bn < ws.length := by
  rcases h with h | h
  · omega
  · exact h.2.1
theorem NearI.mn {seen : ByteArray} {ws : List ByteArray} {j bn mn : Nat} {lv : Int} {sb : Bool} (h : NearI seen ws j bn mn lv sb) : mn ≤ j := by
  rcases h with h | ⟨h1, _, _, h | h⟩ <;> omega
theorem NearI.less {seen : ByteArray} {ws : List ByteArray} {j bn mn : Nat} {lv : Int} {sb : Bool} (h : NearI seen ws j bn mn lv sb) (hj : j < ws.length) (hd : farB (txt ws j) seen < farB (txt ws bn) seen) : nst j (farB (txt ws j) seen) (bn, lv, sb) = (j, farB (txt ws j) seen, false) ∧ NearI seen ws (j + 1) j 1 (farB (txt ws j) seen) false := by
  rcases h with ⟨h1, h2, _⟩ | ⟨h1, h2, h3, h4⟩
  · subst h1; subst h2; omega
  · refine ⟨?_, .inr ⟨by omega, hj, rfl, .inl ⟨rfl, rfl⟩⟩⟩
    unfold nst
    rw [if_pos (.inr (by dsimp only; omega))]
theorem NearI.same {seen : ByteArray} {ws : List ByteArray} {j bn mn : Nat} {lv : Int} {sb : Bool} (h : NearI seen ws j bn mn lv sb) (hj : j < ws.length) (hd : farB (txt ws j) seen = farB (txt ws bn) seen) : ∃ lv' sb', nst j (farB (txt ws j) seen) (bn, lv, sb) = (bn, lv', sb') ∧ NearI seen ws (j + 1) bn (mn + 1) lv' sb' := by
  rcases h with ⟨h1, h2, h3, h4, h5⟩ | ⟨h1, h2, h3, h4⟩
  · subst h1; subst h2; subst h3; subst h4; subst h5
    exact ⟨farB (txt ws 0) seen, false, by unfold nst; rw [if_pos (.inl (by decide))], .inr ⟨by omega, hj, rfl, .inl ⟨rfl, rfl⟩⟩⟩
  · have h0 := (farB_bd (txt ws bn) seen).1
    refine ⟨lv, true, ?_, .inr ⟨by omega, h2, h3, .inr ⟨rfl, by omega, by omega⟩⟩⟩
    unfold nst
    rw [if_neg (fun e => by dsimp only at e; omega), if_pos (by dsimp only; omega)]
theorem NearI.more {seen : ByteArray} {ws : List ByteArray} {j bn mn : Nat} {lv : Int} {sb : Bool} (h : NearI seen ws j bn mn lv sb) (hd : farB (txt ws bn) seen < farB (txt ws j) seen) : nst j (farB (txt ws j) seen) (bn, lv, sb) = (bn, lv, sb) ∧ NearI seen ws (j + 1) bn mn lv sb := by
  rcases h with ⟨h1, h2, h3, h4, h5⟩ | ⟨h1, h2, h3, h4⟩
  · subst h1; subst h2; omega
  · have h0 := (farB_bd (txt ws bn) seen).1
    refine ⟨?_, .inr ⟨by omega, h2, h3, by rcases h4 with h4 | h4; exact .inl h4; exact .inr ⟨h4.1, h4.2.1, by omega⟩⟩⟩
    unfold nst
    rw [if_neg (fun e => by dsimp only at e; omega), if_neg (by dsimp only; omega)]
theorem NearI.end_ {seen : ByteArray} {ws : List ByteArray} {bn mn : Nat} {lv : Int} {sb : Bool} (h : NearI seen ws ws.length bn mn lv sb) (hl : 0 < ws.length) : (sb = false ∧ mn = 1 ∧ lv = farB (txt ws bn) seen) ∨ (sb = true ∧ 2 ≤ mn) := by
  rcases h with h | ⟨_, _, h3, h | h⟩
  · omega
  · exact .inl ⟨h.1, h.2, h3⟩
  · exact .inr ⟨h.1, h.2.1⟩
end Go.Proofs.YtaajkmjilcamgaaGreatDoor
namespace Go.Proofs.YtaajkmjilcamgaaGreatDoor
open Go.RowKit
def misN (ws : List ByteArray) (tk : ByteArray) (k rings : Int) : Nat → Nat → List Int
  | _, 0 => []
  | i, m + 1 => (if (i : Int) ≠ k ∧ farB (txt ws i) tk ≤ rings then [(i : Int)] else []) ++ misN ws tk k rings (i + 1) m
def misCode (n : Int) (ws : List ByteArray) (k rings : Int) : Int := if addrs n ws = false then 1 else if (0 ≤ k ∧ k ≤ (ws.length : Int) - 1) ∧ 0 ≤ rings ∧ rings ≤ 8 then 0 else 2
def misL (n : Int) (ws : List ByteArray) (k rings : Int) : List Int := if misCode n ws k rings = 0 then misN ws (txt ws k.toNat) k rings 0 ws.length else []
theorem misN_no {ws : List ByteArray} {tk : ByteArray} {k rings : Int} {i m : Nat} (h : ¬ ((i : Int) ≠ k ∧ farB (txt ws i) tk ≤ rings)) : misN ws tk k rings i (m + 1) = misN ws tk k rings (i + 1) m := by rw [misN, if_neg h]; rfl
theorem misN_yes {ws : List ByteArray} {tk : ByteArray} {k rings : Int} {i m : Nat} (h : (i : Int) ≠ k ∧ farB (txt ws i) tk ≤ rings) : misN ws tk k rings i (m + 1) = (i : Int) :: misN ws tk k rings (i + 1) m := by rw [misN, if_pos h]; rfl
end Go.Proofs.YtaajkmjilcamgaaGreatDoor
namespace Go.Proofs.YtaajkmjilcamgaaGreatDoor
open Go.RowKit
theorem misN_len (ws : List ByteArray) (tk : ByteArray) (k rings : Int) : ∀ m i, (misN ws tk k rings i m).length ≤ m := by
  intro m
  induction m with
  | zero => intro i; exact Nat.le_refl _
  | succ m ih =>
    intro i
    have := ih (i + 1)
    rw [misN, List.length_append]
    split
    · rw [List.length_singleton]; omega
    · rw [List.length_nil]; omega
theorem misL_len (n : Int) (ws : List ByteArray) (k rings : Int) : (misL n ws k rings).length ≤ ws.length := by
  unfold misL
  split
  · exact misN_len _ _ _ _ _ _
  · exact Nat.zero_le _
end Go.Proofs.YtaajkmjilcamgaaGreatDoor
namespace Go.Proofs.YtaajkmjilcamgaaGreatDoor
open Go.RowKit
theorem chr_ext {a b : ByteArray} (hs : a.size = b.size) (h : ∀ i, i < a.size → chr a i = chr b i) : a = b := by
  apply ByteArray.ext
  apply Array.ext hs
  intro i h1 h2
  have h3 := h i h1
  unfold chr at h3
  have e1 : a.get! i = a.data[i] := by
    show a.data[i]! = _
    rw [getElem!_pos]
  have e2 : b.get! i = b.data[i] := by
    show b.data[i]! = _
    rw [getElem!_pos]
  rw [e1, e2] at h3
  exact UInt8.toNat_inj.1 (by omega)
theorem farN_zero {a b : ByteArray} : ∀ m i, farN a b i m = 0 → ∀ k, i ≤ k → k < i + m → chr a k = chr b k := by
  intro m
  induction m with
  | zero => intro i _ k h1 h2; omega
  | succ m ih =>
    intro i h k h1 h2
    rw [farN] at h
    have hb := (farN_bd a b m (i + 1)).1
    by_cases hc : chr a i = chr b i
    · rw [if_pos hc] at h
      by_cases hk : k = i
      · rw [hk]; exact hc
      · exact ih (i + 1) (by omega) k (by omega) (by omega)
    · rw [if_neg hc] at h; omega
theorem far_pos {a b : ByteArray} (hs : a.size = b.size) (h : a ≠ b) : 1 ≤ farB a b := by
  have h0 := (farB_bd a b).1
  by_cases hz : farB a b = 0
  · exact absurd (chr_ext hs fun i hi => farN_zero a.size 0 hz i (by omega) (by omega)) h
  · omega
/-- The least of some numbers, -1 if there is none. -/
def MinOf (L : List Int) (r : Int) : Prop := (L = [] ∧ r = -1) ∨ (r ∈ L ∧ ∀ v ∈ L, r ≤ v)
theorem MinOf.step {L : List Int} {r v : Int} (h : MinOf L r) (h0 : ∀ v ∈ L, 0 ≤ v) : MinOf (L ++ [v]) (if r < 0 ∨ v < r then v else r) := by
  rcases h with ⟨rfl, rfl⟩ | ⟨h1, h2⟩
  · rw [if_pos (.inl (by decide))]; exact .inr ⟨by simp, by simp⟩
  · have := h0 r h1
    by_cases hv : v < r
    · rw [if_pos (.inr hv)]
      refine .inr ⟨by simp, fun u hu => ?_⟩
      rcases List.mem_append.1 hu with hu | hu
      · have := h2 u hu; omega
      · rw [List.mem_singleton] at hu; omega
    · rw [if_neg (by omega)]
      refine .inr ⟨List.mem_append_left _ h1, fun u hu => ?_⟩
      rcases List.mem_append.1 hu with hu | hu
      · exact h2 u hu
      · rw [List.mem_singleton] at hu; omega
theorem lpI_min {x : ByteArray} : ∀ (ys : List ByteArray) (L : List Int) (m : Int), MinOf L m → (∀ v ∈ L, 0 ≤ v) → MinOf (L ++ ys.map (farB x)) (lpI farB x ys m) := by
  intro ys
  induction ys with
  | nil => intro L m h _; simpa [lpI] using h
  | cons y ys ih =>
    intro L m h h0
    rw [lpI]
    have := ih (L ++ [farB x y]) _ (h.step (v := farB x y) h0) (fun v hv => by
      rcases List.mem_append.1 hv with hv | hv
      · exact h0 v hv
      · rw [List.mem_singleton] at hv; rw [hv]; exact (farB_bd x y).1)
    rw [List.append_assoc] at this
    exact this
/-- The distances of the words i, i + 1 .. (c of them) from those before them. -/
def pairs (ws : List ByteArray) : Nat → Nat → List Int
  | _, 0 => []
  | i, c + 1 => (ws.take i).map (farB (txt ws i)) ++ pairs ws (i + 1) c
theorem pairs_snoc (ws : List ByteArray) : ∀ c i, pairs ws i (c + 1) = pairs ws i c ++ (ws.take (i + c)).map (farB (txt ws (i + c))) := by
  intro c
  induction c with
  | zero => intro i; simp [pairs]
  | succ c ih =>
    intro i
    rw [pairs, ih (i + 1), pairs, List.append_assoc, show i + 1 + c = i + (c + 1) by omega]
theorem pairs_pos (ws : List ByteArray) : ∀ c i, ∀ v ∈ pairs ws i c, 0 ≤ v := by
  intro c
  induction c with
  | zero => intro i v h; cases h
  | succ c ih =>
    intro i v h
    rcases List.mem_append.1 h with h | h
    · obtain ⟨y, _, rfl⟩ := List.mem_map.1 h; exact (farB_bd _ y).1
    · exact ih (i + 1) v h
theorem lpO_min (ws : List ByteArray) : ∀ (c i : Nat) (L : List Int) (m : Int), MinOf L m → (∀ v ∈ L, 0 ≤ v) → MinOf (L ++ pairs ws i c) (lpO farB ws i c m) := by
  intro c
  induction c with
  | zero => intro i L m h _; simpa [pairs, lpO] using h
  | succ c ih =>
    intro i L m h h0
    rw [lpO, pairs, ← List.append_assoc]
    refine ih (i + 1) _ _ (lpI_min _ _ _ h h0) (fun v hv => ?_)
    rcases List.mem_append.1 hv with hv | hv
    · exact h0 v hv
    · obtain ⟨y, _, rfl⟩ := List.mem_map.1 hv; exact (farB_bd _ y).1
theorem least_min (ws : List ByteArray) : MinOf (pairs ws 0 ws.length) (leastA farB ws) := by
  have := lpO_min ws ws.length 0 [] (-1) (.inl ⟨rfl, rfl⟩) (fun v hv => by cases hv)
  simpa [leastA] using this
theorem mem_pairs {ws : List ByteArray} : ∀ {c i k j : Nat}, i ≤ k → k < i + c → j < k → k < ws.length → farB (txt ws k) (txt ws j) ∈ pairs ws i c := by
  intro c
  induction c with
  | zero => intro i k j h1 h2; omega
  | succ c ih =>
    intro i k j h1 h2 h3 h4
    rw [pairs]
    by_cases hk : k = i
    · subst hk
      refine List.mem_append_left _ (List.mem_map.2 ⟨txt ws j, ?_, rfl⟩)
      have hj : ws[j]? = some ws[j] := List.getElem?_eq_getElem (by omega)
      rw [txt_get hj]
      exact List.mem_of_getElem? (i := j) (by rw [List.getElem?_take, if_pos h3]; exact hj)
    · exact List.mem_append_right _ (ih (by omega) (by omega) h3 h4)
theorem least_le {ws : List ByteArray} {k j : Nat} (h : j < k) (hk : k < ws.length) : leastA farB ws ≤ farB (txt ws k) (txt ws j) := by
  have hm := mem_pairs (ws := ws) (c := ws.length) (i := 0) (Nat.zero_le k) (by omega) h hk
  rcases least_min ws with ⟨h1, _⟩ | ⟨_, h2⟩
  · rw [h1] at hm; cases hm
  · exact h2 _ hm
theorem least_in {ws : List ByteArray} (h : 2 ≤ ws.length) : leastA farB ws ∈ pairs ws 0 ws.length := by
  rcases least_min ws with ⟨h1, _⟩ | ⟨h2, _⟩
  · have hm := mem_pairs (ws := ws) (c := ws.length) (i := 0) (k := 1) (j := 0) (by omega) (by omega) (by omega) (by omega)
    rw [h1] at hm; cases hm
  · exact h2
theorem txt_mem {ws : List ByteArray} {i : Nat} (h : i < ws.length) : ws[i]? = some (txt ws i) := by
  have hj : ws[i]? = some ws[i] := List.getElem?_eq_getElem h
  rw [txt_get hj]; exact hj
theorem pairs_ge1 {n : Int} {ws : List ByteArray} (h : addrs n ws = true) : ∀ c i, i + c ≤ ws.length → ∀ v ∈ pairs ws i c, 1 ≤ v := by
  intro c
  induction c with
  | zero => intro i _ v hv; cases hv
  | succ c ih =>
    intro i hi v hv
    rcases List.mem_append.1 hv with hv | hv
    · obtain ⟨y, hy, rfl⟩ := List.mem_map.1 hv
      have ha := addrs_at h (txt_mem (ws := ws) (i := i) (by omega))
      have hyw : y ∈ ws := List.take_subset _ _ hy
      refine far_pos (by rw [ha.2.1, (addrs_size h y hyw).1]) (fun e => ?_)
      have := ha.2.2
      unfold hasS at this
      rw [List.any_eq_false] at this
      exact this y hy (by simp [e])
    · exact ih (i + 1) (by omega) v hv
theorem least_ge1 {n : Int} {ws : List ByteArray} (h : addrs n ws = true) (h2 : 2 ≤ ws.length) : 1 ≤ leastA farB ws := pairs_ge1 h ws.length 0 (by omega) _ (least_in h2)
theorem letN_mono {n m : Int} (h : n ≤ m) {s : ByteArray} : ∀ c i, letN n s i c = true → letN m s i c = true := by
  intro c
  induction c with
  | zero => intro i _; rfl
  | succ c ih =>
    intro i hl
    rw [letN, Bool.and_eq_true, decide_eq_true_eq] at hl
    rw [letN, Bool.and_eq_true, decide_eq_true_eq]
    exact ⟨by omega, ih _ hl.2⟩
theorem wordB_mono {n m : Int} (h : n ≤ m) {s : ByteArray} (hw : wordB n s = true) : wordB m s = true := by
  unfold wordB at *
  rw [Bool.and_eq_true] at *
  exact ⟨letN_mono h _ _ hw.1, hw.2⟩
/-- The state of the search for the nearest one. -/
def NearS (seen : ByteArray) (ws : List ByteArray) (j : Nat) (s : Nat × Int × Bool) : Prop := (j = 0 ∧ s.2.1 = -1 ∧ s.2.2 = false) ∨ (s.1 < j ∧ s.2.1 = farB (txt ws s.1) seen ∧ (∀ i, i < j → s.2.1 ≤ farB (txt ws i) seen) ∧ (s.2.2 = false → ∀ i, i < j → i ≠ s.1 → s.2.1 < farB (txt ws i) seen))
theorem NearS.step {seen : ByteArray} {ws : List ByteArray} {j : Nat} {s : Nat × Int × Bool} (h : NearS seen ws j s) : NearS seen ws (j + 1) (nst j (farB (txt ws j) seen) s) := by
  unfold nst
  have h0 := (farB_bd (txt ws j) seen).1
  rcases h with ⟨h1, h2, h3⟩ | ⟨h1, h2, h3, h4⟩
  · rw [if_pos (.inl (by omega))]
    subst h1
    exact .inr ⟨by dsimp only; omega, rfl, fun i hi => by obtain rfl : i = 0 := by omega
                                                          exact Int.le_refl _, fun _ i hi hn => by dsimp only at hn; omega⟩
  · have hb := (farB_bd (txt ws s.1) seen).1
    by_cases hlt : farB (txt ws j) seen < s.2.1
    · rw [if_pos (.inr hlt)]
      refine .inr ⟨by dsimp only; omega, rfl, fun i hi => ?_, fun _ i hi hn => ?_⟩
      · dsimp only
        by_cases hj : i = j
        · rw [hj]; exact Int.le_refl _
        · have := h3 i (by omega); omega
      · dsimp only at hn ⊢
        have := h3 i (by omega); omega
    · rw [if_neg (by omega)]
      by_cases he : farB (txt ws j) seen = s.2.1
      · rw [if_pos he]
        refine .inr ⟨by dsimp only; omega, h2, fun i hi => ?_, fun hf => by cases hf⟩
        by_cases hj : i = j
        · rw [hj]; dsimp only; omega
        · exact h3 i (by omega)
      · rw [if_neg he]
        refine .inr ⟨by omega, h2, fun i hi => ?_, fun hf i hi hn => ?_⟩
        · by_cases hj : i = j
          · rw [hj]; omega
          · exact h3 i (by omega)
        · by_cases hj : i = j
          · rw [hj]; omega
          · exact h4 hf i (by omega) hn
theorem nearN_st {seen : ByteArray} {ws : List ByteArray} : ∀ m j s, NearS seen ws j s → NearS seen ws (j + m) (nearN seen ws j m s) := by
  intro m
  induction m with
  | zero => intro j s h; exact h
  | succ m ih =>
    intro j s h
    rw [nearN, show j + (m + 1) = j + 1 + m by omega]
    exact ih _ _ h.step
/-- What a nearest address is. -/
structure Near0 (n : Int) (ws : List ByteArray) (seen : ByteArray) (a d : Int) : Prop where
  ok : addrs n ws = true
  word : wordB n seen = true
  size : seen.size = (txt ws 0).size
  only : ∀ i, i < ws.length → (i : Int) ≠ a → d < farB (txt ws i) seen
theorem near_only {n : Int} {ws : List ByteArray} {seen : ByteArray} (h : (nearR n ws seen).2.2 = 0) : Near0 n ws seen (nearR n ws seen).1 (nearR n ws seen).2.1 := by
  by_cases h1 : addrs n ws = true
  case neg => rw [nearR_1 (by simpa using h1)] at h; cases h
  by_cases h2 : wordB n seen = true
  case neg => rw [nearR_2 h1 (by simpa using h2)] at h; cases h
  by_cases h3 : ws.length = 0
  · rw [nearR_3 h1 h2 h3] at h; cases h
  by_cases h4 : seen.size = (txt ws 0).size
  case neg => rw [nearR_8 h1 h2 h3 h4] at h; cases h
  by_cases h5 : (nearF seen ws).2.2 = true
  · rw [nearR_9 h1 h2 h3 h4 h5] at h; cases h
  have h5' : (nearF seen ws).2.2 = false := by simpa using h5
  rw [nearR_0 h1 h2 h3 h4 h5']
  refine ⟨h1, h2, h4, fun i hi hn => ?_⟩
  have hs : NearS seen ws ws.length (nearF seen ws) := by
    have := nearN_st (seen := seen) (ws := ws) ws.length 0 (0, -1, false) (.inl ⟨rfl, rfl, rfl⟩)
    rw [Nat.zero_add] at this
    exact this
  rcases hs with hs | hs
  · omega
  · exact hs.2.2.2 h5' i hi (by dsimp only at hn; omega)
/-- Among the words so far there is a pair with the distance x. -/
def hasD (x : Int) (L : List Int) : Bool := L.any fun z => decide (z = x)
theorem hasD_app (x : Int) (L M : List Int) : hasD x (L ++ M) = (hasD x L || hasD x M) := by unfold hasD; rw [List.any_append]
theorem hasD_in {x : Int} {L : List Int} (h : x ∈ L) : hasD x L = true := by unfold hasD; rw [List.any_eq_true]; exact ⟨x, h, by simp⟩
theorem corr_ok {l : Int} (h : 1 ≤ l) : 2 * (l - 1).tdiv 2 < l ∧ l ≤ 2 * (l - 1).tdiv 2 + 2 ∧ 0 ≤ (l - 1).tdiv 2 := by
  rw [Int.tdiv_eq_ediv_of_nonneg (by omega)]
  omega
end Go.Proofs.YtaajkmjilcamgaaGreatDoor
namespace Go.Proofs.YtaajkmjilcamgaaGreatDoor
open Go.RowKit
theorem chr_list (s : ByteArray) (i : Nat) : chr s i = (((s.data.toList[i]?).getD 0).toNat : Int) := by
  unfold chr
  have e1 : s.get! i = s.data[i]! := rfl
  rw [e1, Array.getElem!_eq_getD, Array.getD_eq_getD_getElem?, ← Array.getElem?_toList]
  rfl
def cutB (r : Nat) (s : ByteArray) : ByteArray := s.extract 0 r ++ s.extract (r + 1) s.size
theorem cutB_list (r : Nat) (s : ByteArray) : (cutB r s).data.toList = s.data.toList.take r ++ s.data.toList.drop (r + 1) := by
  unfold cutB
  rw [ByteArray.data_append, Array.toList_append, ByteArray.data_extract, ByteArray.data_extract, Array.toList_extract, Array.toList_extract]
  have e : s.size = s.data.toList.length := rfl
  congr 1
  rw [List.extract_eq_take_drop, List.take_of_length_le (by rw [List.length_drop, e]; exact Nat.le_refl _)]
theorem cutB_size {r : Nat} {s : ByteArray} (h : r < s.size) : (cutB r s).size = s.size - 1 := by
  have h1 : (cutB r s).size = (cutB r s).data.toList.length := rfl
  have h2 : s.size = s.data.toList.length := rfl
  rw [h1, cutB_list, List.length_append, List.length_take, List.length_drop]
  omega
theorem cutB_chr {r : Nat} {s : ByteArray} (h : r < s.size) (i : Nat) : chr (cutB r s) i = if i < r then chr s i else chr s (i + 1) := by
  have h2 : s.size = s.data.toList.length := rfl
  rw [chr_list, cutB_list]
  by_cases hi : i < r
  · rw [if_pos hi, chr_list, List.getElem?_append_left (by rw [List.length_take]; omega), List.getElem?_take, if_pos hi]
  · rw [if_neg hi, chr_list, List.getElem?_append_right (by rw [List.length_take]; omega), List.length_take, List.getElem?_drop]
    rw [show r + 1 + (i - min r s.data.toList.length) = i + 1 by omega]
theorem farN_split (a b : ByteArray) : ∀ m n i, farN a b i (m + n) = farN a b i m + farN a b (i + m) n := by
  intro m
  induction m with
  | zero => intro n i; simp [farN]
  | succ m ih =>
    intro n i
    rw [show m + 1 + n = (m + n) + 1 by omega, farN, farN, ih n (i + 1), show i + 1 + m = i + (m + 1) by omega]
    omega
theorem farN_congr {a b a' b' : ByteArray} : ∀ m i i', (∀ k, k < m → chr a (i + k) = chr a' (i' + k) ∧ chr b (i + k) = chr b' (i' + k)) → farN a b i m = farN a' b' i' m := by
  intro m
  induction m with
  | zero => intro i i' _; rfl
  | succ m ih =>
    intro i i' h
    obtain ⟨h1, h2⟩ := h 0 (by omega)
    rw [Nat.add_zero, Nat.add_zero] at h1 h2
    rw [farN, farN, h1, h2, ih (i + 1) (i' + 1) fun k hk => by
      have := h (k + 1) (by omega)
      rw [show i + 1 + k = i + (k + 1) by omega, show i' + 1 + k = i' + (k + 1) by omega]
      exact this]
theorem far_cut {r : Nat} {s t : ByteArray} (h : r < s.size) (hs : s.size = t.size) : farB (cutB r s) (cutB r t) = farW (r : Int) s t := by
  unfold farW farB
  rw [cutB_size h, show s.size - 1 = r + (s.size - 1 - r) by omega, farN_split]
  have e1 : farN (cutB r s) (cutB r t) 0 r = farN s t 0 r := farN_congr r 0 0 fun k hk => by
    rw [cutB_chr h, cutB_chr (hs ▸ h), Nat.zero_add, if_pos hk, if_pos hk]; exact ⟨rfl, rfl⟩
  have e2 : farN (cutB r s) (cutB r t) (0 + r) (s.size - 1 - r) = farN s t (r + 1) (s.size - 1 - r) := farN_congr _ _ _ fun k hk => by
    rw [cutB_chr h, cutB_chr (hs ▸ h), Nat.zero_add, if_neg (by omega), if_neg (by omega), show r + k + 1 = r + 1 + k by omega]; exact ⟨rfl, rfl⟩
  have e3 : farN s t 0 s.size = farN s t 0 r + ((if chr s r = chr t r then 0 else 1) + farN s t (r + 1) (s.size - 1 - r)) := by
    have := farN_split s t r ((s.size - 1 - r) + 1) 0
    rw [show r + ((s.size - 1 - r) + 1) = s.size by omega, Nat.zero_add, farN] at this
    exact this
  rw [e1, e2, e3, Int.toNat_natCast]
  by_cases hc : chr s r = chr t r
  · rw [if_pos hc, if_neg (fun e => e.2 hc)]; omega
  · rw [if_neg hc, if_pos ⟨by omega, hc⟩]; omega
theorem lpI_cut {r : Nat} {x : ByteArray} (hx : r < x.size) : ∀ (ys : List ByteArray) (m : Int), (∀ y ∈ ys, x.size = y.size) → lpI farB (cutB r x) (ys.map (cutB r)) m = lpI (farW (r : Int)) x ys m := by
  intro ys
  induction ys with
  | nil => intro m _; rfl
  | cons y ys ih =>
    intro m h
    rw [List.map_cons, lpI, lpI, far_cut hx (h y (List.mem_cons_self ..))]
    exact ih _ fun z hz => h z (List.mem_cons_of_mem _ hz)
theorem txt_map {ws : List ByteArray} {i : Nat} (f : ByteArray → ByteArray) (h : i < ws.length) : txt (ws.map f) i = f (txt ws i) := by
  apply txt_get
  rw [List.getElem?_map, txt_mem h]
  rfl
theorem lpO_cut {r z : Nat} {ws : List ByteArray} (hr : r < z) (h : ∀ s ∈ ws, s.size = z) : ∀ c i m, i + c ≤ ws.length → lpO farB (ws.map (cutB r)) i c m = lpO (farW (r : Int)) ws i c m := by
  intro c
  induction c with
  | zero => intro i m _; rfl
  | succ c ih =>
    intro i m hi
    have hz : (txt ws i).size = z := h _ (List.mem_of_getElem? (txt_mem (ws := ws) (i := i) (by omega)))
    rw [lpO, lpO, txt_map _ (by omega), ← List.map_take, lpI_cut (by omega) _ _ fun y hy => by rw [hz, h y (List.take_subset _ _ hy)]]
    exact ih _ _ (by omega)
theorem least_cut {r z : Nat} {ws : List ByteArray} (hr : r < z) (h : ∀ s ∈ ws, s.size = z) : leastA farB (ws.map (cutB r)) = leastA (farW (r : Int)) ws := by
  unfold leastA
  rw [List.length_map]
  exact lpO_cut hr h _ _ _ (by omega)
theorem pairs_le (ws : List ByteArray) (z : Nat) (h : ∀ s ∈ ws, s.size ≤ z) : ∀ c i, i + c ≤ ws.length → ∀ v ∈ pairs ws i c, v ≤ z := by
  intro c
  induction c with
  | zero => intro i _ v hv; cases hv
  | succ c ih =>
    intro i hi v hv
    rcases List.mem_append.1 hv with hv | hv
    · obtain ⟨y, _, rfl⟩ := List.mem_map.1 hv
      have h1 := (farB_bd (txt ws i) y).2
      have h2 := h _ (List.mem_of_getElem? (txt_mem (ws := ws) (i := i) (by omega)))
      omega
    · exact ih (i + 1) (by omega) v hv
/-- The least distance of words without the ring r. -/
def wrL (ws : List ByteArray) (r : Nat) : Int := leastA (farW (r : Int)) ws
theorem wrL_le {ws : List ByteArray} {z r : Nat} (h2 : 2 ≤ ws.length) (hr : r < z) (h : ∀ s ∈ ws, s.size = z) (hz : z ≤ 8) : 0 ≤ wrL ws r ∧ wrL ws r ≤ 8 := by
  unfold wrL
  rw [← least_cut hr h]
  have h3 := least_in (ws := ws.map (cutB r)) (by rw [List.length_map]; exact h2)
  have h4 := pairs_pos _ _ _ _ h3
  have h5 := pairs_le (ws.map (cutB r)) 8 (fun s hs => by
    obtain ⟨t, ht, rfl⟩ := List.mem_map.1 hs
    rw [cutB_size (by rw [h t ht]; exact hr), h t ht]; omega) _ _ (by omega) _ h3
  omega
def worstN (L : Nat → Int) : Nat → Nat → Nat → Nat
  | _, 0, b => b
  | r, m + 1, b => worstN L (r + 1) m (if L r < L b then r else b)
theorem worstN_yes {L : Nat → Int} {r m b : Nat} (h : L r < L b) : worstN L r (m + 1) b = worstN L (r + 1) m r := by rw [worstN, if_pos h]
theorem worstN_no {L : Nat → Int} {r m b : Nat} (h : ¬ L r < L b) : worstN L r (m + 1) b = worstN L (r + 1) m b := by rw [worstN, if_neg h]
def worstR (n : Int) (ws : List ByteArray) : Int × Int := if pcode n ws = 0 then ((worstN (wrL ws) 0 (txt ws 0).size 0 : Nat), 0) else (0, pcode n ws)
end Go.Proofs.YtaajkmjilcamgaaGreatDoor
namespace Go.Proofs.YtaajkmjilcamgaaGreatDoor
open Go.RowKit
theorem RdS.of_own {w : World} {base : Nat} {e : TypeId} {A : Option Addr} {n c : Nat} {xs : List ByteArray} (h : w.ownsRow base e 1 (.slice A n c) n (xs.map Value.string)) : RdS w w.heap.size A xs := Rd.of_own h
theorem str_one (s : ByteArray) : ∀ u ∈ [Value.string s], u.oneCell' = true := by intro u hu; simp at hu; subst hu; rfl
theorem string_inf : (Tryz.prog.info? 9).map (fun i => (i.zero, i.size, i.bytes)) = some (some (.string ByteArray.empty), 1, 16) := by kernel_rfl
theorem worstR_no {n : Int} {ws : List ByteArray} {q : Int} (h : pcode n ws = q) (h0 : q ≠ 0) : worstR n ws = (0, q) := by unfold worstR; rw [h, if_neg h0]
theorem worstR_ok {n : Int} {ws : List ByteArray} (h : pcode n ws = 0) : worstR n ws = (((worstN (wrL ws) 0 (txt ws 0).size 0 : Nat) : Int), 0) := by unfold worstR; rw [if_pos h]
theorem pcode_1 {n : Int} {ws : List ByteArray} (h : addrs n ws = false) : pcode n ws = 1 := by unfold pcode; rw [if_pos h]
theorem pcode_3 {n : Int} {ws : List ByteArray} (h : addrs n ws = true) (hl : ws.length < 2) : pcode n ws = 3 := by unfold pcode; rw [if_neg (by rw [h]; decide), if_pos hl]
theorem pcode_0 {n : Int} {ws : List ByteArray} (h : addrs n ws = true) (hl : ¬ ws.length < 2) : pcode n ws = 0 := by unfold pcode; rw [if_neg (by rw [h]; decide), if_neg hl]
end Go.Proofs.YtaajkmjilcamgaaGreatDoor
namespace Go.Proofs.YtaajkmjilcamgaaGreatDoor
open Go.RowKit
theorem map_take_snoc {ws : List ByteArray} {k : Nat} {s : ByteArray} (f : ByteArray → ByteArray) (h : ws[k]? = some s) : ((ws.take (k + 1)).map f).map Value.string = ((ws.take k).map f).map Value.string ++ [.string (f s)] := by
  rw [List.take_add_one, h]
  simp
end Go.Proofs.YtaajkmjilcamgaaGreatDoor
namespace Go.Proofs.YtaajkmjilcamgaaGreatDoor
open Go.RowKit
set_option maxRecDepth 100000 in
set_option maxHeartbeats 1000000 in
theorem textS_any (b : Nat) (bs : List Int) (N : Int) (g o c : Nat) (xs : List ByteArray) (w : World) (hbs : BsOk bs) (hN : N ≤ 1099511000000) (h : SrcAt b bs N w) (hg : g ≠ b) (hgl : g < w.heap.size) (hx0 : 1 ≤ xs.length) (hx1 : xs.length ≤ 1000) (hr : ∀ j z, xs[j]? = some z → w.cell? ⟨g, o + j, none⟩ = some (.string z)) :
    Calls Tryz.prog 92 #[.pointer (some ⟨b, 0, none⟩), .slice (some ⟨g, o, none⟩) xs.length c] w fun e w' => ∃ z, e = .returned (.string z) ∧ z ∈ xs ∧ SrcAt b bs (N + 2) w' ∧ Only b (b + 1) w w' := by
  have HC := hide (pick_any b bs N (xs.length : Int) w hbs hN h)
  have HR := hide hr
  clear h hr
  go_enter Tryz.func92, Tryz.ntmps92
  go_wp2_with (go_at_call 68; refine (HC.out).mono ?_; rintro e w1 ⟨z, rfl, ⟨hz0, hz1, _⟩, hs1, ho1⟩; have hz9 := hz1 (by omega); obtain ⟨j, rfl⟩ := Int.eq_ofNat_of_zero_le hz0; have hj : j < xs.length := (by omega); have hej := List.getElem?_eq_getElem hj; have hcj := (ho1.cell' (p := ⟨g, o + j, none⟩) hgl (by dsimp only; omega)).trans (HR.out j _ hej); have HEJ := hide hej; clear hej)
  go_ret
  exact ⟨_, rfl, List.mem_of_getElem? HEJ.out, hs1, ho1⟩
end Go.Proofs.YtaajkmjilcamgaaGreatDoor
namespace Go.Proofs.YtaajkmjilcamgaaGreatDoor
open Go.RowKit
theorem row_belowS {w w' : World} {base : Nat} {e : TypeId} {s n : Nat} {v : Value} {xs : List Value} (h : w.ownsRow base e s v n xs) (k : Below w.heap.size w w') : w'.ownsRow base e s v n xs := by
  refine ⟨h.1, ?_⟩
  rcases h.2 with h0 | ⟨g, cap, cur, he, hb, hg, rest⟩
  · exact .inl h0
  · exact .inr ⟨g, cap, cur, he, hb, (k.block g (lt_of_block hg)).trans hg, rest⟩
theorem strs_one (xs : List ByteArray) : ∀ u ∈ xs.map Value.string, u.oneCell' = true := by
  intro u hu
  obtain ⟨s, _, rfl⟩ := List.mem_map.1 hu
  rfl
/-- The words that are drawn so far. -/
structure WdSt (b : Nat) (bs : List Int) (N : Int) (w wr : World) (gb cb : Nat) (ws : List ByteArray) : Prop where
  row : wr.ownsRow w.heap.size 9 1 (.slice (some ⟨gb, 0, none⟩) ws.length cb) ws.length (ws.map Value.string)
  src : SrcAt b bs N wr
  only : Only b (b + 1) w wr
  small : ∀ s ∈ ws, s.size ≤ 9
theorem WdSt.far {b : Nat} {bs : List Int} {N : Int} {w wr w' : World} {gb cb : Nat} {ws : List ByteArray} (h : WdSt b bs N w wr gb cb ws) (hbl : b < w.heap.size) (k : Below wr.heap.size wr w') : WdSt b bs N w w' gb cb ws :=
  ⟨row_belowS h.row k, h.src.below k h.src.lt, only_trans h.only (only_of_below k), h.small⟩
theorem WdSt.src2 {b : Nat} {bs : List Int} {N N' : Int} {w wr w' : World} {gb cb : Nat} {ws : List ByteArray} (h : WdSt b bs N w wr gb cb ws) (hbl : b < w.heap.size) (hs : SrcAt b bs N' w') (k : Only b (b + 1) wr w') : WdSt b bs N' w w' gb cb ws :=
  ⟨row_only h.row k (by omega), hs, only_trans h.only k, h.small⟩
theorem WdSt.more {b : Nat} {bs : List Int} {N N' : Int} {w wr : World} {gb cb : Nat} {ws : List ByteArray} (h : WdSt b bs N w wr gb cb ws) (hN : N ≤ N') : WdSt b bs N' w wr gb cb ws := ⟨h.row, h.src.more hN, h.only, h.small⟩
theorem WdSt.push {b : Nat} {bs : List Int} {N : Int} {w wr w' : World} {gb cb : Nat} {ws : List ByteArray} {s : ByteArray} {v : Value} (h : WdSt b bs N w wr gb cb ws) (hbl : b < w.heap.size) (hs : s.size ≤ 9)
    (ho : w'.ownsRow w.heap.size 9 1 v (ws.length + 1) (ws.map Value.string ++ [.string s])) (hg : wr.grownBy w' (Value.slice (some ⟨gb, 0, none⟩) ws.length cb).ownBlock) :
    ∃ g c, v = .slice (some ⟨g, 0, none⟩) (ws ++ [s]).length c ∧ WdSt b bs N w w' g c (ws ++ [s]) := by
  obtain ⟨A9, c9, rfl, _⟩ := own_shape ho
  obtain ⟨g9, rfl, _, _⟩ : ∃ g, A9 = some ⟨g, 0, none⟩ ∧ w.heap.size ≤ g ∧ g < w'.heap.size := by
    rcases own_block ho with ⟨_, h0, _⟩ | h0
    · omega
    · exact h0
  refine ⟨g9, c9, by rw [List.length_append]; rfl, ?_, h.src.grown hg (fun g e => by have := (h.row.lt g e).1; omega), only_app h.only h.row hg (Nat.le_refl _), ?_⟩
  · rw [List.length_append, List.map_append]; exact ho
  · intro t ht
    rcases List.mem_append.1 ht with ht | ht
    · exact h.small t ht
    · rw [List.mem_singleton] at ht; rw [ht]; exact hs
theorem amongLit_any (b : Nat) (bs : List Int) (N : Int) (xs : List Int) (w : World) (hbs : BsOk bs) (hN : N ≤ 1099511000000) (h : SrcAt b bs N w) (hx0 : 1 ≤ xs.length) (hx1 : xs.length ≤ 1000) :
    Calls Tryz.prog 111 #[.pointer (some ⟨b, 0, none⟩), .slice (some ⟨w.heap.size, 0, none⟩) xs.length xs.length] (w.alloc (.cells (xs.map (Value.int .i64)).toArray 2)) fun e w' => ∃ z, e = .returned (.int .i64 z) ∧ z ∈ xs ∧ SrcAt b bs (N + 2) w' ∧ Only b (b + 1) w w' := by
  have hbl := h.lt
  refine (among_any b bs N w.heap.size 0 xs.length xs _ hbs hN (h.alloc _) (by omega) (by simp) hx0 hx1 (fun j z hj => ?_)).mono ?_
  · rw [cell_of_row _ w.heap.size (0 + j) _ _ _ (heap_alloc_new w (.cells (xs.map (Value.int .i64)).toArray 2))]
    simp [hj]
  · rintro e w' ⟨z, he, hz, hs, ho⟩
    exact ⟨z, he, hz, hs, only_trans (only_of_below ((Below.refl _ _).alloc (Nat.le_refl _) _)) ho⟩
theorem textLit_any (b : Nat) (bs : List Int) (N : Int) (xs : List ByteArray) (w : World) (hbs : BsOk bs) (hN : N ≤ 1099511000000) (h : SrcAt b bs N w) (hx0 : 1 ≤ xs.length) (hx1 : xs.length ≤ 1000) :
    Calls Tryz.prog 92 #[.pointer (some ⟨b, 0, none⟩), .slice (some ⟨w.heap.size, 0, none⟩) xs.length xs.length] (w.alloc (.cells (xs.map Value.string).toArray 9)) fun e w' => ∃ z, e = .returned (.string z) ∧ z ∈ xs ∧ SrcAt b bs (N + 2) w' ∧ Only b (b + 1) w w' := by
  have hbl := h.lt
  refine (textS_any b bs N w.heap.size 0 xs.length xs _ hbs hN (h.alloc _) (by omega) (by simp) hx0 hx1 (fun j z hj => ?_)).mono ?_
  · rw [cell_of_row _ w.heap.size (0 + j) _ _ _ (heap_alloc_new w (.cells (xs.map Value.string).toArray 9))]
    simp [hj]
  · rintro e w' ⟨z, he, hz, hs, ho⟩
    exact ⟨z, he, hz, hs, only_trans (only_of_below ((Below.refl _ _).alloc (Nat.le_refl _) _)) ho⟩
end Go.Proofs.YtaajkmjilcamgaaGreatDoor
