/-
  Orders and plans, the plain laws: sorted orders are orders and sorted; a plan begins each run at its earliest start; no order is better than the best one.
-/
import Derived.Test.YtfhociekhffjhaaOrdP
import Derived.Test.YtfhociekhffjhaaRunW
namespace Go.Proofs.Ytfhociekhffjhaa

/-! ### sorted orders -/
def ltK (ks : List Int) (x y : Int) : Prop := keyOf ks x < keyOf ks y ∨ (keyOf ks x = keyOf ks y ∧ x < y)
theorem posGo_spec (ks out : List Int) (i : Int) : ∀ k, posGo ks out i k ≤ k ∧ (∀ j, posGo ks out i k ≤ j → j < k → keyOf ks i < keyOf ks (outAt out j)) ∧ (posGo ks out i k = 0 ∨ ¬ keyOf ks i < keyOf ks (outAt out (posGo ks out i k - 1))) := by
  intro k
  induction k with
  | zero => exact ⟨Nat.le_refl _, fun j h1 h2 => by omega, .inl rfl⟩
  | succ k ih =>
    rw [posGo]
    by_cases h : keyOf ks i < keyOf ks (outAt out k)
    · rw [if_pos h]
      refine ⟨by omega, fun j h1 h2 => ?_, ih.2.2⟩
      rcases Nat.lt_or_ge j k with hj | hj
      · exact ih.2.1 j h1 hj
      · obtain rfl : j = k := by omega
        exact h
    · rw [if_neg h]
      exact ⟨Nat.le_refl _, fun j h1 h2 => by omega, .inr (by simpa using h)⟩
theorem outAt_get {out : List Int} {j : Nat} {x : Int} (h : out[j]? = some x) : outAt out j = x := by simp [outAt, h]
theorem ins_sorted {ks out : List Int} {n : Nat} (h : out.Pairwise (ltK ks)) (hb : ∀ z ∈ out, z < (n : Int)) : (insK ks out n).Pairwise (ltK ks) := by
  obtain ⟨h1, h2, h3⟩ := posGo_spec ks out n out.length
  unfold insK
  generalize posGo ks out n out.length = p at *
  rw [List.pairwise_append]
  refine ⟨h.sublist (List.take_sublist ..), ?_, ?_⟩
  · rw [List.pairwise_cons]
    refine ⟨fun y hy => ?_, h.sublist (List.drop_sublist ..)⟩
    obtain ⟨j, hj⟩ := List.getElem?_of_mem hy
    rw [List.getElem?_drop] at hj
    have := h2 (p + j) (by omega) (lt_of_get hj)
    rw [outAt_get hj] at this
    exact .inl this
  · intro x hx y hy
    have hxn : ltK ks x n := by
      obtain ⟨j, hj⟩ := List.getElem?_of_mem hx
      have hjp : j < p := by have := lt_of_get hj; rw [List.length_take] at this; omega
      rw [List.getElem?_take_of_lt hjp] at hj
      have hxl := hb x (List.mem_of_getElem? hj)
      rcases h3 with h3 | h3
      · omega
      · have hq := List.getElem?_eq_getElem (show p - 1 < out.length by omega)
        rw [outAt_get hq] at h3
        rcases Nat.lt_or_ge j (p - 1) with hjq | hjq
        · have hR := (List.pairwise_iff_getElem.1 h) j (p - 1) (lt_of_get hj) (by omega) hjq
          have hxe : out[j]'(lt_of_get hj) = x := by have := List.getElem?_eq_getElem (lt_of_get hj); rw [this] at hj; exact Option.some.inj hj
          rw [hxe] at hR
          rcases hR with hR | hR
          · rcases Int.lt_or_le (keyOf ks x) (keyOf ks n) with h4 | h4
            · exact .inl h4
            · omega
          · rcases Int.lt_or_le (keyOf ks x) (keyOf ks n) with h4 | h4
            · exact .inl h4
            · exact .inr ⟨by omega, hxl⟩
        · obtain rfl : j = p - 1 := by omega
          rw [hq] at hj
          injection hj with hj
          rw [hj] at h3
          rcases Int.lt_or_le (keyOf ks x) (keyOf ks n) with h4 | h4
          · exact .inl h4
          · exact .inr ⟨by omega, hxl⟩
    rcases List.mem_cons.1 hy with rfl | hy
    · exact hxn
    · obtain ⟨j, hj⟩ := List.getElem?_of_mem hy
      rw [List.getElem?_drop] at hj
      have h4 := h2 (p + j) (by omega) (lt_of_get hj)
      rw [outAt_get hj] at h4
      rcases hxn with h5 | h5
      · exact .inl (by omega)
      · exact .inl (by omega)
theorem sortK_sorted (ks : List Int) : ∀ n, (sortK ks n).Pairwise (ltK ks) := by
  intro n
  induction n with
  | zero => exact List.Pairwise.nil
  | succ n ih => exact ins_sorted ih fun z hz => (sortK_in ks n z hz).2
theorem sortK_all (ks : List Int) : ∀ n (i : Nat), i < n → (i : Int) ∈ sortK ks n := by
  intro n
  induction n with
  | zero => intro i h; omega
  | succ n ih =>
    intro i h
    rw [sortK, insK]
    by_cases hi : i = n
    · subst hi; exact List.mem_append.2 (.inr (List.mem_cons_self ..))
    · have := ih i (by omega)
      rw [← List.take_append_drop (posGo ks (sortK ks n) n (sortK ks n).length) (sortK ks n)] at this
      rcases List.mem_append.1 this with h1 | h1
      · exact List.mem_append.2 (.inl h1)
      · exact List.mem_append.2 (.inr (List.mem_cons_of_mem _ h1))
theorem sortK_nodup (ks : List Int) (n : Nat) : (sortK ks n).Nodup :=
  (sortK_sorted ks n).imp fun {a b} h e => by subst e; rcases h with h | h <;> omega
theorem sortK_good (ks : List Int) (n : Nat) : GoodO n (sortK ks n) := ⟨fun z hz => by have := sortK_in ks n z hz; omega, sortK_nodup ks n⟩
theorem sortK_next {ks : List Int} {n i : Nat} {x y : Int} (hx : (sortK ks n)[i]? = some x) (hy : (sortK ks n)[i + 1]? = some y) : ltK ks x y := by
  have h := (List.pairwise_iff_getElem.1 (sortK_sorted ks n)) i (i + 1) (lt_of_get hx) (lt_of_get hy) (by omega)
  have h1 : (sortK ks n)[i]'(lt_of_get hx) = x := Option.some.inj ((List.getElem?_eq_getElem (lt_of_get hx)).symm.trans hx)
  have h2 : (sortK ks n)[i + 1]'(lt_of_get hy) = y := Option.some.inj ((List.getElem?_eq_getElem (lt_of_get hy)).symm.trans hy)
  rw [h1, h2] at h; exact h
/-! ### plans -/
def dnGo (ts : List Int) (l : List TN) : List Int → List TN → List TN
  | [], d => d
  | k :: r, d => dnGo ts l r (d ++ [⟨(wishAt l k).way, startOf ts l d k, 0⟩])
theorem dnGo_snoc (ts : List Int) (l : List TN) (k : Int) : ∀ (o : List Int) (d : List TN), dnGo ts l (o ++ [k]) d = dnGo ts l o d ++ [⟨(wishAt l k).way, startOf ts l (dnGo ts l o d) k, 0⟩] := by
  intro o
  induction o with
  | nil => intro d; rfl
  | cons a o ih => intro d; rw [List.cons_append, dnGo, ih]; rfl
theorem planGo_keep (ts : List Int) (l : List TN) : ∀ (order : List Int) (done : List TN) (out : List Int) (j : Nat), (∀ k ∈ order, k.toNat ≠ j) → (planGo ts l order done out)[j]? = out[j]? := by
  intro order
  induction order with
  | nil => intro done out j _; rfl
  | cons k r ih =>
    intro done out j h
    rw [planGo, ih _ _ j (fun k' hk' => h k' (List.mem_cons_of_mem _ hk')), List.getElem?_set_ne (h k (List.mem_cons_self ..))]
theorem planGo_at (ts : List Int) (l : List TN) : ∀ (order : List Int) (done : List TN) (out : List Int) (i : Nat) (k : Int), (∀ z ∈ order, 0 ≤ z ∧ z.toNat < out.length) → order.Nodup → order[i]? = some k → (planGo ts l order done out)[k.toNat]? = some (startOf ts l (dnGo ts l (order.take i) done) k) := by
  intro order
  induction order with
  | nil => intro done out i k _ _ h; simp at h
  | cons a r ih =>
    intro done out i k hb hn h
    rw [List.nodup_cons] at hn
    cases i with
    | zero =>
      simp at h; subst h
      rw [planGo, planGo_keep ts l r _ _ _ (fun z hz e => by
        have h1 := hb z (List.mem_cons_of_mem _ hz)
        have h2 := hb a (List.mem_cons_self ..)
        exact hn.1 (by rw [show a = z by omega]; exact hz))]
      rw [List.getElem?_set_self (hb a (List.mem_cons_self ..)).2]
      rfl
    | succ i =>
      rw [planGo, List.take_succ_cons, dnGo]
      exact ih _ _ i k (fun z hz => by rw [List.length_set]; exact hb z (List.mem_cons_of_mem _ hz)) hn.2 (by simpa using h)
theorem code_good {ts : List Int} {l : List TN} {order : List Int} (h : codeO ts l order = 0) : order.Nodup := by
  unfold codeO at h
  split at h
  · split at h
    · rename_i ho
      unfold ordOk at ho
      simp only [Bool.and_eq_true] at ho
      exact (ordGo_nodup ho.1).1
    · omega
  · omega
theorem plan_at {ts : List Int} {l : List TN} {order : List Int} (h : codeO ts l order = 0) {i : Nat} {k : Int} (hk : order[i]? = some k) : (plan ts l order)[k.toNat]? = some (startOf ts l (dnGo ts l (order.take i) []) k) := by
  unfold plan
  exact planGo_at ts l order _ _ i k (fun z hz => by have := (codeO_ok h).2.2 z hz; rw [List.length_replicate]; omega) (code_good h) hk
theorem plan_ge {ts : List Int} {l : List TN} {order : List Int} (h : codeO ts l order = 0) {i : Nat} {z : Int} (hz : (plan ts l order)[i]? = some z) : (wishAt l i).p ≤ z := by
  have hi : i < l.length := by have := lt_of_get hz; rw [plan_len] at this; exact this
  obtain ⟨j, hj⟩ := List.getElem?_of_mem (order_all h hi)
  have hp := plan_at h hj
  rw [Int.toNat_natCast, hz] at hp
  injection hp with hp
  rw [hp]
  obtain ⟨⟨hts, _, hlo⟩, _, _⟩ := codeO_ok h
  have hw : OkWish ts (wishAt l i) := by
    have := List.getElem?_eq_getElem hi
    rw [wishAt_get this]
    exact hlo _ (List.mem_of_getElem? this)
  exact (est_spec hts hw.1.2 (wishAt l i).p).1
theorem dlGo_ge (l : List TN) : ∀ (xs : List Int) (k : Nat), (∀ i z, xs[i]? = some z → (wishAt l ((k + i : Nat) : Int)).p ≤ z) → 0 ≤ dlGo l xs k := by
  intro xs
  induction xs with
  | nil => intro k _; exact Int.le_refl _
  | cons z xs ih =>
    intro k h
    rw [dlGo]
    have h1 := h 0 z rfl
    have h2 := ih (k + 1) (fun i u hu => by have := h (i + 1) u (by simpa using hu); rw [show k + (i + 1) = k + 1 + i by omega] at this; exact this)
    rw [Nat.add_zero] at h1
    omega
theorem valO_ge {late : Bool} {ts : List Int} {l : List TN} {order : List Int} (h : codeO ts l order = 0) : 0 ≤ valO late ts l order := by
  unfold valO
  split
  · omega
  · exact dlGo_ge l _ 0 fun i z hz => by rw [Nat.zero_add]; exact plan_ge h hz
/-! ### the best order -/
theorem foldB_mono {f : List Int × Int → Nat → List Int × Int} : ∀ (L : List Nat) (s : List Int × Int), (∀ k ∈ L, ∀ s : List Int × Int, 0 ≤ s.2 → 0 ≤ (f s k).2 ∧ (f s k).2 ≤ s.2) → 0 ≤ s.2 → 0 ≤ (L.foldl f s).2 ∧ (L.foldl f s).2 ≤ s.2 := by
  intro L
  induction L with
  | nil => intro s _ h; exact ⟨h, Int.le_refl _⟩
  | cons k L ih =>
    intro s hf h
    rw [List.foldl_cons]
    obtain ⟨h1, h2⟩ := hf k (List.mem_cons_self ..) s h
    obtain ⟨h3, h4⟩ := ih (f s k) (fun k' hk' => hf k' (List.mem_cons_of_mem _ hk')) h1
    exact ⟨h3, by omega⟩
theorem foldB_hit {f : List Int × Int → Nat → List Int × Int} {t : Int} {k0 : Nat} : ∀ (L : List Nat) (s : List Int × Int), (∀ k ∈ L, ∀ s : List Int × Int, 0 ≤ s.2 → 0 ≤ (f s k).2 ∧ (f s k).2 ≤ s.2) → (∀ s, 0 ≤ (f s k0).2 ∧ (f s k0).2 ≤ t) → k0 ∈ L → 0 ≤ (L.foldl f s).2 ∧ (L.foldl f s).2 ≤ t := by
  intro L
  induction L with
  | nil => intro s _ _ h; cases h
  | cons k L ih =>
    intro s hf h0 hm
    rw [List.foldl_cons]
    have hf' := fun k' hk' => hf k' (List.mem_cons_of_mem _ hk')
    rcases List.mem_cons.1 hm with rfl | hm
    · obtain ⟨h1, h2⟩ := h0 s
      obtain ⟨h3, h4⟩ := foldB_mono L (f s k0) hf' h1
      exact ⟨h3, by omega⟩
    · exact ih (f s k) hf' h0 hm
theorem ordGoF_mono {v : List Int → Int} {n : Nat} (hv : ∀ o, GoodO n o → o.length = n → 0 ≤ v o) : ∀ (m : Nat) (done : List Int) (s : List Int × Int), GoodO n done → done.length + m = n → 0 ≤ s.2 → 0 ≤ (ordGoF v n m done s).2 ∧ (ordGoF v n m done s).2 ≤ s.2 := by
  intro m
  induction m with
  | zero =>
    intro done s hg hl h
    rw [ordGoF, best1]
    have := hv done hg (by omega)
    split
    · dsimp only; omega
    · exact ⟨h, Int.le_refl _⟩
  | succ m ih =>
    intro done s hg hl h
    rw [ordGoF]
    refine foldB_mono _ s (fun k hk s hs => ?_) h
    by_cases hh : hasI done k = true
    · rw [if_pos hh]; exact ⟨hs, Int.le_refl _⟩
    · rw [if_neg hh]
      exact ih _ s (hg.snoc (List.mem_range.1 hk) (by simpa using hh)) (by simp; omega) hs
theorem ordGoF_hit {v : List Int → Int} {n : Nat} (hv : ∀ o, GoodO n o → o.length = n → 0 ≤ v o) : ∀ (m : Nat) (done r : List Int) (s : List Int × Int), r.length = m → done.length + m = n → GoodO n (done ++ r) → 0 ≤ (ordGoF v n m done s).2 ∧ (ordGoF v n m done s).2 ≤ v (done ++ r) := by
  intro m
  induction m with
  | zero =>
    intro done r s hr hl hg
    obtain rfl : r = [] := List.eq_nil_of_length_eq_zero hr
    rw [List.append_nil] at hg ⊢
    rw [ordGoF, best1]
    have := hv done hg (by omega)
    split
    · dsimp only; omega
    · rename_i h; omega
  | succ m ih =>
    intro done r s hr hl hg
    match r, hr, hg with
    | k :: r, hr, hg =>
    have hpre : GoodO n done := ⟨fun z hz => hg.1 z (List.mem_append.2 (.inl hz)), (List.nodup_append.1 hg.2).1⟩
    have hk := hg.1 k (List.mem_append.2 (.inr (List.mem_cons_self ..)))
    have hkn : k ∉ done := fun hm => (List.nodup_append.1 hg.2).2.2 k hm k (List.mem_cons_self ..) rfl
    rw [ordGoF]
    refine foldB_hit (k0 := k.toNat) _ s (fun j hj s hs => ?_) (fun s => ?_) (List.mem_range.2 (by omega))
    · by_cases hh : hasI done j = true
      · rw [if_pos hh]; exact ⟨hs, Int.le_refl _⟩
      · rw [if_neg hh]
        exact ordGoF_mono hv m _ s (hpre.snoc (List.mem_range.1 hj) (by simpa using hh)) (by simp; omega) hs
    · have hkk : ((k.toNat : Nat) : Int) = k := by omega
      rw [hkk]
      have hh : hasI done k = false := by
        cases hh : hasI done k
        · rfl
        · exact absurd (hasI_iff.1 hh) hkn
      rw [hh, if_neg (by simp)]
      have h := ih (done ++ [k]) r s (by simpa using hr) (by simp; omega) (by rw [List.append_assoc]; exact hg)
      rw [List.append_assoc] at h
      exact h
theorem best_le {late : Bool} {ts : List Int} {l : List TN} {o : List Int} (hv : vWishes ts l = true) (hg : GoodO l.length o) (hl : o.length = l.length) : 0 ≤ (bestO late ts l).2.1 ∧ (bestO late ts l).2.1 ≤ valO late ts l o := by
  unfold bestO
  rw [if_pos hv]
  exact ordGoF_hit (fun o' hg' hl' => valO_ge (hg'.code hv hl')) l.length [] o ([], -1) hl (by simp) hg
end Go.Proofs.Ytfhociekhffjhaa
