/-
  Networks, plain laws: ways, least lengths by rounds of relaxing, and what they say of ways.
  Contracts: a stock is valid, in the program and in the reference.
  Networks in the program: what is a network, and its codes.
  Drawn moves.
-/
import Derived.Test.YtlkccijlbeibjaaQPlaces0
import Derived.Test.YtlkccijlbeibjaaQPlaces1
import Derived.Test.YtlkccijlbeibjaaQPlaces2
import Derived.Test.YtlkccijlbeibjaaQPlaces3
import Derived.Deep.DeepCutAuto
import Derived.Test.YtlkccijlbeibjaaQPlaces11
namespace Go.Proofs.Ytlkccijlbeibjaa
open Go.RowKit

/-- Tubes: from a, to b, c long. A way avoids the tube 'wo'. -/
def wk (tb : List T3) (wo : Int) : List Int → Int → Int → Prop
  | [], v, u => v = u
  | i :: r, v, u => 0 ≤ i ∧ i ≠ wo ∧ ∃ t, tb[i.toNat]? = some t ∧ t.a = v ∧ wk tb wo r t.b u
def tubeAt (tb : List T3) (i : Int) : T3 := (tb[i.toNat]?).getD ⟨0, 0, 0⟩
def lenW (tb : List T3) : List Int → Int
  | [] => 0
  | i :: r => (tubeAt tb i).c + lenW tb r
def OkTubes (n : Nat) (tb : List T3) : Prop := ∀ t ∈ tb, (0 ≤ t.a ∧ t.a < n) ∧ (0 ≤ t.b ∧ t.b < n) ∧ (1 ≤ t.c ∧ t.c ≤ 2000)
theorem tubeAt_get {tb : List T3} {i : Int} {t : T3} (h : tb[i.toNat]? = some t) : tubeAt tb i = t := by simp [tubeAt, h]
theorem wk_append {tb : List T3} {wo : Int} : ∀ {p q : List Int} {v u : Int}, wk tb wo (p ++ q) v u ↔ ∃ x, wk tb wo p v x ∧ wk tb wo q x u := by
  intro p
  induction p with
  | nil => intro q v u; constructor
           · intro h; exact ⟨v, rfl, h⟩
           · rintro ⟨x, rfl, h⟩; exact h
  | cons i p ih =>
    intro q v u
    rw [List.cons_append]
    constructor
    · rintro ⟨h0, h1, t, ht, ha, h⟩
      obtain ⟨x, h2, h3⟩ := ih.1 h
      exact ⟨x, ⟨h0, h1, t, ht, ha, h2⟩, h3⟩
    · rintro ⟨x, ⟨h0, h1, t, ht, ha, h2⟩, h3⟩
      exact ⟨h0, h1, t, ht, ha, ih.2 ⟨x, h2, h3⟩⟩
theorem lenW_append (tb : List T3) : ∀ p q : List Int, lenW tb (p ++ q) = lenW tb p + lenW tb q := by
  intro p
  induction p with
  | nil => intro q; simp [lenW]
  | cons i p ih => intro q; rw [List.cons_append, lenW, lenW, ih]; omega
theorem lenW_nonneg {n : Nat} {tb : List T3} (hok : OkTubes n tb) {wo : Int} : ∀ {p : List Int} {v u : Int}, wk tb wo p v u → 0 ≤ lenW tb p := by
  intro p
  induction p with
  | nil => intro v u _; exact Int.le_refl _
  | cons i p ih =>
    rintro v u ⟨h0, h1, t, ht, ha, h⟩
    have h2 := ih h
    have h3 := (hok t (List.mem_of_getElem? ht)).2.2
    rw [lenW, tubeAt_get ht]; omega
/-- The stations at which the tubes of a way begin. -/
def begins (tb : List T3) (p : List Int) : List Int := p.map fun i => (tubeAt tb i).a
theorem begins_in {n : Nat} {tb : List T3} (hok : OkTubes n tb) {wo : Int} : ∀ {p : List Int} {v u : Int}, wk tb wo p v u → ∀ x ∈ begins tb p, 0 ≤ x ∧ x < n := by
  intro p
  induction p with
  | nil => intro v u _ x hx; cases hx
  | cons i p ih =>
    rintro v u ⟨h0, h1, t, ht, ha, h⟩ x hx
    rw [begins, List.map_cons, tubeAt_get ht] at hx
    rcases List.mem_cons.1 hx with rfl | hx
    · exact (hok t (List.mem_of_getElem? ht)).1
    · exact ih h x hx
theorem wk_start {tb : List T3} {wo : Int} {p : List Int} {v u i : Int} (h : wk tb wo (i :: p) v u) : v = (tubeAt tb i).a := by
  obtain ⟨_, _, t, ht, ha, _⟩ := h
  rw [tubeAt_get ht, ha]
theorem range_nodup (n : Nat) : ((List.range n).map fun (j : Nat) => (j : Int)).Nodup :=
  List.pairwise_map.2 ((List.nodup_range (n := n)).imp fun {a b} hab e => hab (by omega))
theorem nodup_len {n : Nat} {xs : List Int} (h : xs.Nodup) (hb : ∀ x ∈ xs, 0 ≤ x ∧ x < n) : xs.length ≤ n := by
  have := h.length_le_of_subset (l₂ := (List.range n).map fun (j : Nat) => (j : Int)) fun z hz => by
    have := hb z hz
    exact List.mem_map.2 ⟨z.toNat, List.mem_range.2 (by omega), by omega⟩
  simpa using this
/-- A list of more than n of n things has one of them twice. -/
theorem twice {n : Nat} {xs : List Int} (hl : n < xs.length) (hb : ∀ x ∈ xs, 0 ≤ x ∧ x < n) : ∃ (p q r : List Int) (a : Int), xs = p ++ a :: q ++ a :: r := by
  have h : ¬ xs.Nodup := fun h => by have := nodup_len h hb; omega
  clear hl
  induction xs with
  | nil => exact absurd List.nodup_nil h
  | cons x xs ih =>
    by_cases hm : x ∈ xs
    · obtain ⟨q, r, e⟩ := List.append_of_mem hm
      exact ⟨[], q, r, x, by rw [e]; rfl⟩
    · have h' : ¬ xs.Nodup := fun h2 => h (List.nodup_cons.2 ⟨hm, h2⟩)
      obtain ⟨p, q, r, a, e⟩ := ih (fun z hz => hb z (List.mem_cons_of_mem _ hz)) h'
      exact ⟨x :: p, q, r, a, by rw [e]; rfl⟩
/-- A way of more than n tubes can be made shorter. -/
theorem cut_way {n : Nat} {tb : List T3} (hok : OkTubes n tb) {wo : Int} {p : List Int} {v u : Int} (h : wk tb wo p v u) (hl : n < p.length) : ∃ p', wk tb wo p' v u ∧ p'.length < p.length ∧ lenW tb p' ≤ lenW tb p := by
  obtain ⟨b1, b2, b3, a, e⟩ := twice (xs := begins tb p) (by simpa [begins] using hl) (begins_in hok h)
  unfold begins at e
  rw [List.append_assoc] at e
  obtain ⟨x, y, rfl, hx, hy⟩ := List.map_eq_append_iff.1 e
  rw [List.cons_append] at hy
  obtain ⟨i, z, rfl, hi, hz⟩ := List.map_eq_cons_iff.1 hy
  obtain ⟨z1, z2, rfl, hz1, hz2⟩ := List.map_eq_append_iff.1 hz
  obtain ⟨j, z3, rfl, hj, _⟩ := List.map_eq_cons_iff.1 hz2
  obtain ⟨s, w1, w2⟩ := wk_append.1 h
  have hs := wk_start w2
  have w2' : wk tb wo ((i :: z1) ++ (j :: z3)) s u := w2
  obtain ⟨s', w3, w4⟩ := wk_append.1 w2'
  have hs' := wk_start w4
  have hss : s = s' := by rw [hs, hs', hi, hj]
  subst hss
  refine ⟨x ++ j :: z3, wk_append.2 ⟨s, w1, w4⟩, by simp; omega, ?_⟩
  have := lenW_nonneg hok w3
  rw [lenW_append, lenW_append, show i :: (z1 ++ j :: z3) = (i :: z1) ++ (j :: z3) from rfl, lenW_append]
  omega
theorem short_way {n : Nat} {tb : List T3} (hok : OkTubes n tb) {wo : Int} : ∀ (k : Nat) {p : List Int} {v u : Int}, p.length ≤ k → wk tb wo p v u → ∃ p', wk tb wo p' v u ∧ p'.length ≤ n ∧ lenW tb p' ≤ lenW tb p := by
  intro k
  induction k with
  | zero => intro p v u hk h; exact ⟨p, h, by omega, Int.le_refl _⟩
  | succ k ih =>
    intro p v u hk h
    by_cases hn : p.length ≤ n
    · exact ⟨p, h, hn, Int.le_refl _⟩
    · obtain ⟨p1, h1, h2, h3⟩ := cut_way hok h (by omega)
      obtain ⟨p2, h4, h5, h6⟩ := ih (by omega) h1
      exact ⟨p2, h4, h5, by omega⟩
/-! ### relaxing -/
def dAt (d : List Int) (v : Int) : Int := (d[v.toNat]?).getD (-1)
def relax1 (wo : Int) (i : Int) (t : T3) (d : List Int) : List Int :=
  if i = wo ∨ dAt d t.b < 0 then d else if dAt d t.a < 0 ∨ dAt d t.b + t.c < dAt d t.a then d.set t.a.toNat (dAt d t.b + t.c) else d
def relaxGo (wo : Int) : List T3 → Int → List Int → List Int
  | [], _, d => d
  | t :: r, i, d => relaxGo wo r (i + 1) (relax1 wo i t d)
def rounds (wo : Int) (tb : List T3) : Nat → List Int → List Int
  | 0, d => d
  | k + 1, d => rounds wo tb k (relaxGo wo tb 0 d)
def dist0 (n : Nat) (to : Int) : List Int := (List.replicate n (-1)).set to.toNat 0
def dist (n : Nat) (tb : List T3) (to wo : Int) : List Int := rounds wo tb n (dist0 n to)
theorem relax1_len (wo i : Int) (t : T3) (d : List Int) : (relax1 wo i t d).length = d.length := by
  unfold relax1; split
  · rfl
  · split
    · exact List.length_set ..
    · rfl
theorem relaxGo_len (wo : Int) : ∀ (tb : List T3) (i : Int) (d : List Int), (relaxGo wo tb i d).length = d.length := by
  intro tb
  induction tb with
  | nil => intro i d; rfl
  | cons t r ih => intro i d; rw [relaxGo, ih, relax1_len]
theorem rounds_len (wo : Int) (tb : List T3) : ∀ (k : Nat) (d : List Int), (rounds wo tb k d).length = d.length := by
  intro k
  induction k with
  | zero => intro d; rfl
  | succ k ih => intro d; rw [rounds, ih, relaxGo_len]
theorem dist_len (n : Nat) (tb : List T3) (to wo : Int) : (dist n tb to wo).length = n := by unfold dist dist0; rw [rounds_len, List.length_set, List.length_replicate]
theorem dAt_set {d : List Int} {v u x : Int} (hv : 0 ≤ v) (hu : 0 ≤ u) (hl : u < d.length) : dAt (d.set u.toNat x) v = if v = u then x else dAt d v := by
  unfold dAt
  by_cases h : v = u
  · subst h
    rw [if_pos rfl, List.getElem?_set_self (by omega)]; rfl
  · rw [if_neg h, List.getElem?_set_ne (by omega)]
theorem dAt_neg {d : List Int} {v : Int} (h : (d.length : Int) ≤ v) (hv : 0 ≤ v) : dAt d v = -1 := by
  unfold dAt; rw [List.getElem?_eq_none (by omega)]; rfl
/-- Values are -1 or the lengths of ways. -/
def Sound (tb : List T3) (wo to : Int) (d : List Int) : Prop := ∀ v, 0 ≤ v → (dAt d v = -1 ∨ (0 ≤ dAt d v ∧ ∃ p, wk tb wo p v to ∧ lenW tb p = dAt d v))
theorem relax1_sound {n : Nat} {tb : List T3} (hok : OkTubes n tb) {wo to i : Int} {t : T3} {d : List Int} (hd : d.length = n) (hi : 0 ≤ i) (ht : tb[i.toNat]? = some t) (h : Sound tb wo to d) : Sound tb wo to (relax1 wo i t d) := by
  obtain ⟨⟨ha0, han⟩, ⟨hb0, hbn⟩, hc⟩ := hok t (List.mem_of_getElem? ht)
  unfold relax1
  split
  · exact h
  · rename_i h1
    split
    · intro v hv
      rw [dAt_set hv ha0 (by omega)]
      split
      · rename_i hva
        subst hva
        rcases h t.b hb0 with h3 | ⟨h3, p, h4, h5⟩
        · omega
        · refine .inr ⟨by omega, i :: p, ⟨hi, fun e => h1 (.inl e), t, ht, rfl, h4⟩, ?_⟩
          rw [lenW, tubeAt_get ht, h5]; omega
      · exact h v hv
    · exact h
theorem relaxGo_sound {n : Nat} {tb : List T3} (hok : OkTubes n tb) {wo to : Int} : ∀ (r : List T3) (k : Nat) (d : List Int), d.length = n → r = tb.drop k → Sound tb wo to d → Sound tb wo to (relaxGo wo r k d) := by
  intro r
  induction r with
  | nil => intro k d _ _ h; exact h
  | cons t r ih =>
    intro k d hd hr h
    have hk : tb[k]? = some t := by
      have := congrArg (·[0]?) hr
      simp only [List.getElem?_cons_zero, List.getElem?_drop, Nat.add_zero] at this
      exact this.symm
    rw [relaxGo, show (k : Int) + 1 = ((k + 1 : Nat) : Int) by omega]
    refine ih (k + 1) _ (by rw [relax1_len, hd]) ?_ (relax1_sound hok hd (by omega) (by simpa using hk) h)
    have := congrArg List.tail hr
    simpa using this
theorem rounds_sound {n : Nat} {tb : List T3} (hok : OkTubes n tb) {wo to : Int} : ∀ (k : Nat) (d : List Int), d.length = n → Sound tb wo to d → Sound tb wo to (rounds wo tb k d) := by
  intro k
  induction k with
  | zero => intro d _ h; exact h
  | succ k ih => intro d hd h; rw [rounds]; exact ih _ (by rw [relaxGo_len, hd]) (relaxGo_sound hok tb 0 d hd rfl h)
theorem dist0_sound {n : Nat} {tb : List T3} {wo to : Int} (h0 : 0 ≤ to) (hn : to < n) : Sound tb wo to (dist0 n to) := by
  intro v hv
  unfold dist0
  rw [dAt_set hv h0 (by simpa using hn)]
  split
  · rename_i h; subst h; exact .inr ⟨Int.le_refl _, [], rfl, rfl⟩
  · left
    unfold dAt
    rw [List.getElem?_replicate]
    split <;> rfl
theorem dist_sound {n : Nat} {tb : List T3} (hok : OkTubes n tb) {wo to : Int} (h0 : 0 ≤ to) (hn : to < n) : Sound tb wo to (dist n tb to wo) :=
  rounds_sound hok n _ (by unfold dist0; simp) (dist0_sound h0 hn)
/-- One list of values is no worse than another. -/
def LeD (d e : List Int) : Prop := ∀ v, 0 ≤ v → 0 ≤ dAt e v → 0 ≤ dAt d v ∧ dAt d v ≤ dAt e v
theorem LeD.refl (d : List Int) : LeD d d := fun v _ h => ⟨h, Int.le_refl _⟩
theorem LeD.trans {a b c : List Int} (h : LeD a b) (k : LeD b c) : LeD a c := fun v hv hc => by
  have h1 := k v hv hc; have h2 := h v hv h1.1; omega
theorem relax1_le {n : Nat} {tb : List T3} (hok : OkTubes n tb) {wo i : Int} {t : T3} {d : List Int} (hd : d.length = n) (ht : t ∈ tb) : LeD (relax1 wo i t d) d := by
  obtain ⟨⟨ha0, han⟩, ⟨hb0, hbn⟩, hc⟩ := hok t ht
  unfold relax1
  split
  · exact LeD.refl _
  · split
    · intro v hv hdv
      rw [dAt_set hv ha0 (by omega)]
      split
      · rename_i h; subst h; omega
      · exact ⟨hdv, Int.le_refl _⟩
    · exact LeD.refl _
theorem relaxGo_le {n : Nat} {tb : List T3} (hok : OkTubes n tb) {wo : Int} : ∀ (r : List T3) (i : Int) (d : List Int), d.length = n → (∀ t ∈ r, t ∈ tb) → LeD (relaxGo wo r i d) d := by
  intro r
  induction r with
  | nil => intro i d _ _; exact LeD.refl _
  | cons t r ih =>
    intro i d hd hr
    rw [relaxGo]
    exact (ih (i + 1) _ (by rw [relax1_len, hd]) fun s hs => hr s (List.mem_cons_of_mem _ hs)).trans (relax1_le hok hd (hr t (List.mem_cons_self ..)))
/-- After a round each tube has been looked at. -/
theorem relax1_hit {n : Nat} {tb : List T3} (hok : OkTubes n tb) {wo i : Int} {t : T3} {d : List Int} (hd : d.length = n) (ht : t ∈ tb) (hi : i ≠ wo) (hb : 0 ≤ dAt d t.b) : 0 ≤ dAt (relax1 wo i t d) t.a ∧ dAt (relax1 wo i t d) t.a ≤ dAt d t.b + t.c := by
  obtain ⟨⟨ha0, han⟩, ⟨hb0, hbn⟩, hc⟩ := hok t ht
  unfold relax1
  rw [if_neg (by omega)]
  split
  · rw [dAt_set ha0 ha0 (by omega), if_pos rfl]; omega
  · omega
theorem relaxGo_hit {n : Nat} {tb : List T3} (hok : OkTubes n tb) {wo : Int} : ∀ (r : List T3) (i : Int) (d : List Int) (j : Nat) (t : T3), d.length = n → (∀ t ∈ r, t ∈ tb) → r[j]? = some t → i + j ≠ wo → 0 ≤ dAt d t.b → 0 ≤ dAt (relaxGo wo r i d) t.a ∧ dAt (relaxGo wo r i d) t.a ≤ dAt d t.b + t.c := by
  intro r
  induction r with
  | nil => intro i d j t _ _ h; simp at h
  | cons s r ih =>
    intro i d j t hd hr hj hi hb
    have hs := hr s (List.mem_cons_self ..)
    have hr' : ∀ t ∈ r, t ∈ tb := fun t ht => hr t (List.mem_cons_of_mem _ ht)
    have hd' : (relax1 wo i s d).length = n := by rw [relax1_len, hd]
    rw [relaxGo]
    cases j with
    | zero =>
      simp at hj; subst hj
      obtain ⟨h1, h2⟩ := relax1_hit (wo := wo) (i := i) hok hd hs (by simpa using hi) hb
      have h3 := relaxGo_le (wo := wo) hok r (i + 1) _ hd' hr' s.a (hok s hs).1.1 h1
      omega
    | succ j =>
      have ht : t ∈ tb := hr' t (List.mem_of_getElem? (by simpa using hj))
      have h1 := relax1_le (wo := wo) (i := i) hok hd hs t.b (hok t ht).2.1.1 hb
      have := ih (i + 1) _ j t hd' hr' (by simpa using hj) (by omega) h1.1
      omega
theorem rounds_le {n : Nat} {tb : List T3} (hok : OkTubes n tb) {wo : Int} : ∀ (k : Nat) (d : List Int), d.length = n → LeD (rounds wo tb k d) d := by
  intro k
  induction k with
  | zero => intro d _; exact LeD.refl _
  | succ k ih => intro d hd; rw [rounds]; exact (ih _ (by rw [relaxGo_len, hd])).trans (relaxGo_le hok tb 0 d hd fun _ h => h)
theorem rounds_snoc (wo : Int) (tb : List T3) : ∀ (k : Nat) (d : List Int), rounds wo tb (k + 1) d = relaxGo wo tb 0 (rounds wo tb k d) := by
  intro k
  induction k with
  | zero => intro d; rfl
  | succ k ih => intro d; rw [rounds, ih]; rfl
/-- After k rounds: no way of at most k tubes is shorter. -/
theorem rounds_opt {n : Nat} {tb : List T3} (hok : OkTubes n tb) {wo to : Int} (h0 : 0 ≤ to) (hn : to < n) : ∀ (k : Nat) (p : List Int) (v : Int), p.length ≤ k → 0 ≤ v → wk tb wo p v to → 0 ≤ dAt (rounds wo tb k (dist0 n to)) v ∧ dAt (rounds wo tb k (dist0 n to)) v ≤ lenW tb p := by
  intro k
  have hd0 : (dist0 n to).length = n := by unfold dist0; simp
  have hbase : 0 ≤ dAt (dist0 n to) to ∧ dAt (dist0 n to) to ≤ 0 := by
    unfold dist0; rw [dAt_set h0 h0 (by simpa using hn), if_pos rfl]; omega
  induction k with
  | zero =>
    intro p v hl hv hw
    obtain rfl : p = [] := List.eq_nil_of_length_eq_zero (by omega)
    obtain rfl : v = to := hw
    exact hbase
  | succ k ih =>
    intro p v hl hv hw
    have hdk : (rounds wo tb k (dist0 n to)).length = n := by rw [rounds_len, hd0]
    match p, hl, hw with
    | [], _, hw =>
      obtain rfl : v = to := hw
      have := rounds_le (wo := wo) hok (k + 1) (dist0 n v) hd0 v hv hbase.1
      simp only [lenW]; omega
    | i :: p, hl, ⟨hi0, hiw, t, ht, ha, hw'⟩ =>
      have htm := List.mem_of_getElem? ht
      have h1 := ih p t.b (by simpa using hl) (hok t htm).2.1.1 hw'
      have h2 := relaxGo_hit (wo := wo) hok tb 0 _ i.toNat t hdk (fun _ h => h) ht (by omega) h1.1
      rw [rounds_snoc, lenW, tubeAt_get ht, ← ha]
      omega
/-- The least lengths are the least lengths of ways. -/
theorem dist_opt {n : Nat} {tb : List T3} (hok : OkTubes n tb) {wo to : Int} (h0 : 0 ≤ to) (hn : to < n) {p : List Int} {v : Int} (hv : 0 ≤ v) (hw : wk tb wo p v to) : 0 ≤ dAt (dist n tb to wo) v ∧ dAt (dist n tb to wo) v ≤ lenW tb p := by
  obtain ⟨p', h1, h2, h3⟩ := short_way hok p.length (Nat.le_refl _) hw
  have := rounds_opt hok h0 hn n p' v h2 hv h1
  unfold dist; omega
theorem dist_way {n : Nat} {tb : List T3} (hok : OkTubes n tb) {wo to : Int} (h0 : 0 ≤ to) (hn : to < n) {v : Int} (hv : 0 ≤ v) (hd : 0 ≤ dAt (dist n tb to wo) v) : ∃ p, wk tb wo p v to ∧ lenW tb p = dAt (dist n tb to wo) v := by
  rcases dist_sound hok (wo := wo) h0 hn v hv with h | ⟨_, h⟩
  · omega
  · exact h
theorem dist_iff {n : Nat} {tb : List T3} (hok : OkTubes n tb) {wo to : Int} (h0 : 0 ≤ to) (hn : to < n) {v : Int} (hv : 0 ≤ v) : 0 ≤ dAt (dist n tb to wo) v ↔ ∃ p, wk tb wo p v to :=
  ⟨fun h => by obtain ⟨p, hp, _⟩ := dist_way hok h0 hn hv h; exact ⟨p, hp⟩, fun ⟨p, hp⟩ => (dist_opt hok h0 hn hv hp).1⟩
theorem dist_neg {n : Nat} {tb : List T3} (hok : OkTubes n tb) {wo to : Int} (h0 : 0 ≤ to) (hn : to < n) {v : Int} (hv : 0 ≤ v) (h : dAt (dist n tb to wo) v < 0) : dAt (dist n tb to wo) v = -1 := by
  rcases dist_sound hok (wo := wo) h0 hn v hv with h | ⟨h, _⟩ <;> omega
/-- Values stay within the lengths of ways of n tubes. -/
theorem dist_bd {n : Nat} {tb : List T3} (hok : OkTubes n tb) {wo : Int} : ∀ {p : List Int} {v u : Int}, wk tb wo p v u → lenW tb p ≤ 2000 * p.length := by
  intro p
  induction p with
  | nil => intro v u _; simp [lenW]
  | cons i p ih =>
    rintro v u ⟨h0, h1, t, ht, ha, h⟩
    have h2 := ih h
    have h3 := (hok t (List.mem_of_getElem? ht)).2.2
    rw [lenW, tubeAt_get ht, List.length_cons]; omega
end Go.Proofs.Ytlkccijlbeibjaa
namespace Go.Proofs.Ytlkccijlbeibjaa
open Go.RowKit

/-- A valid stock. -/
def vStock (zs : List Int) : Bool := zs.all (inB 0 200) && (inB 2 10 zs.length && decide (zs.sum ≤ 200))

end Go.Proofs.Ytlkccijlbeibjaa
namespace Go.Proofs.Ytlkccijlbeibjaa
open Go.RowKit

/-- A tube of a valid network of n stations. -/
def OkTube (n : Int) (t : T3) : Prop := (0 ≤ t.a ∧ t.a ≤ n - 1) ∧ (0 ≤ t.b ∧ t.b ≤ n - 1) ∧ t.a ≠ t.b ∧ (1 ≤ t.c ∧ t.c ≤ 2000)
/-- A valid network. -/
def OkNet (n : Int) (tb : List T3) : Prop := (2 ≤ n ∧ n ≤ 10) ∧ tb.length ≤ 24 ∧ ∀ t ∈ tb, OkTube n t
def okTubeB (n : Int) (t : T3) : Bool := inB 0 (n - 1) t.a && inB 0 (n - 1) t.b && !(t.a == t.b) && inB 1 2000 t.c
theorem okTubeB_ok {n : Int} {t : T3} (h : OkTube n t) : okTubeB n t = true := by
  obtain ⟨h1, h2, h3, h4⟩ := h
  simp [okTubeB, inB_t h1, inB_t h2, inB_t h4, h3]
set_option maxRecDepth 100000 in
set_option maxHeartbeats 1000000 in
theorem isStation_any (n z : Int) (A : Option Addr) (m c : Nat) (w : World) (hn : 1 ≤ n ∧ n ≤ 10) :
    Calls Try.prog 171 #[.agg #[.int .i64 n, .slice A m c], .int .i64 z] w fun e w' => e = .returned (.bool (inB 0 (n - 1) z)) ∧ Below w.heap.size w w' := by
  obtain ⟨hn0, hn1⟩ := hn
  by_cases hz : 0 ≤ z ∧ z ≤ n - 1
  · rw [inB_t hz]
    obtain ⟨hz0, hz1⟩ := hz
    go_enter Try.func171, Try.ntmps171
    go_wp2_with (go_at_call 115; first | (refine (within_t _ _ _ _ (by omega)).mono ?_; rintro e w' ⟨rfl, rfl⟩) | (refine (within_f _ _ _ _ (by omega)).mono ?_; rintro e w' ⟨rfl, rfl⟩))
    go_ret
    exact ⟨rfl, (by repeat (first | exact Below.refl _ _ | assumption | (refine Below.alloc ?_ (by simp <;> omega) _) | refine Below.drew ?_ | refine bdn ?_ _))⟩
  · rw [inB_f (by omega)]
    have hz1 : z < 0 ∨ n - 1 < z := by omega
    clear hz
    go_enter Try.func171, Try.ntmps171
    go_wp2_with (go_at_call 115; first | (refine (within_t _ _ _ _ (by omega)).mono ?_; rintro e w' ⟨rfl, rfl⟩) | (refine (within_f _ _ _ _ (by omega)).mono ?_; rintro e w' ⟨rfl, rfl⟩))
    go_ret
    exact ⟨rfl, (by repeat (first | exact Below.refl _ _ | assumption | (refine Below.alloc ?_ (by simp <;> omega) _) | refine Below.drew ?_ | refine bdn ?_ _))⟩
set_option maxRecDepth 100000 in
set_option maxHeartbeats 2000000 in
theorem isTube_any (n : Int) (t : T3) (A : Option Addr) (m c : Nat) (w : World) (hn : 1 ≤ n ∧ n ≤ 10) :
    Calls Try.prog 152 #[.agg #[.int .i64 n, .slice A m c], .agg #[.int .i64 t.a, .int .i64 t.b, .int .i64 t.c]] w fun e w' => e = .returned (.bool (okTubeB n t)) ∧ Below w.heap.size w w' := by
  have HSA := hide fun W => isStation_any n t.a A m c W hn
  have HSB := hide fun W => isStation_any n t.b A m c W hn
  have b0 : Below w.heap.size w ((w.alloc (.cells #[.int .i64 n, .slice A m c] 44)).alloc (.cells #[.int .i64 t.a, .int .i64 t.b, .int .i64 t.c] 111)) := (by repeat (first | exact Below.refl _ _ | assumption | (refine Below.alloc ?_ (by simp <;> omega) _) | refine Below.drew ?_ | refine bdn ?_ _))
  have kn0 : ((w.alloc (.cells #[.int .i64 n, .slice A m c] 44)).alloc (.cells #[.int .i64 t.a, .int .i64 t.b, .int .i64 t.c] 111)).cell? ⟨w.heap.size, 0, none⟩ = some (.int .i64 n) := by simp [go_sem]
  have kn1 : ((w.alloc (.cells #[.int .i64 n, .slice A m c] 44)).alloc (.cells #[.int .i64 t.a, .int .i64 t.b, .int .i64 t.c] 111)).cell? ⟨w.heap.size, 1, none⟩ = some (.slice A m c) := by simp [go_sem]
  have kt0 : ((w.alloc (.cells #[.int .i64 n, .slice A m c] 44)).alloc (.cells #[.int .i64 t.a, .int .i64 t.b, .int .i64 t.c] 111)).cell? ⟨w.heap.size + 1, 0, none⟩ = some (.int .i64 t.a) := by simp [go_sem]
  have kt1 : ((w.alloc (.cells #[.int .i64 n, .slice A m c] 44)).alloc (.cells #[.int .i64 t.a, .int .i64 t.b, .int .i64 t.c] 111)).cell? ⟨w.heap.size + 1, 1, none⟩ = some (.int .i64 t.b) := by simp [go_sem]
  have kt2 : ((w.alloc (.cells #[.int .i64 n, .slice A m c] 44)).alloc (.cells #[.int .i64 t.a, .int .i64 t.b, .int .i64 t.c] 111)).cell? ⟨w.heap.size + 1, 2, none⟩ = some (.int .i64 t.c) := by simp [go_sem]
  have z0 : w.heap.size + 2 ≤ ((w.alloc (.cells #[.int .i64 n, .slice A m c] 44)).alloc (.cells #[.int .i64 t.a, .int .i64 t.b, .int .i64 t.c] 111)).heap.size := by simp
  clear hn
  by_cases h1 : 0 ≤ t.a ∧ t.a ≤ n - 1
  case neg =>
    have HR := hide (show okTubeB n t = false by simp [okTubeB, inB_f (show t.a < 0 ∨ n - 1 < t.a by omega)])
    rw [inB_f (show t.a < 0 ∨ n - 1 < t.a by omega)] at HSA
    clear h1
    go_enter Try.func152, Try.ntmps152
    go_upto_region 1 with fail
    generalize (w.alloc (.cells #[.int .i64 n, .slice A m c] 44)).alloc (.cells #[.int .i64 t.a, .int .i64 t.b, .int .i64 t.c] 111) = w0 at *
    go_wp2_with (first
      | (go_at_call 171; (with_reducible refine (HSA.out w0).mono ?_); rintro e w1 ⟨rfl, b1⟩; have q1 := (b1.cell (p := ⟨w.heap.size, 0, none⟩) (by dsimp only; omega)).trans kn0; have q2 := (b1.cell (p := ⟨w.heap.size, 1, none⟩) (by dsimp only; omega)).trans kn1; have q3 := (b1.cell (p := ⟨w.heap.size + 1, 0, none⟩) (by dsimp only; omega)).trans kt0; have q4 := (b1.cell (p := ⟨w.heap.size + 1, 1, none⟩) (by dsimp only; omega)).trans kt1; have q5 := (b1.cell (p := ⟨w.heap.size + 1, 2, none⟩) (by dsimp only; omega)).trans kt2; have z1 := b1.size)
      | (go_at_call 171; (with_reducible refine (HSB.out w1).mono ?_); rintro e w2 ⟨rfl, b2⟩; have r3 := (b2.cell (p := ⟨w.heap.size + 1, 0, none⟩) (by dsimp only; omega)).trans q3; have r4 := (b2.cell (p := ⟨w.heap.size + 1, 1, none⟩) (by dsimp only; omega)).trans q4; have r5 := (b2.cell (p := ⟨w.heap.size + 1, 2, none⟩) (by dsimp only; omega)).trans q5)
      | (go_at_call 115; first | (refine (within_t _ _ _ _ (by omega)).mono ?_; rintro e w' ⟨rfl, rfl⟩) | (refine (within_f _ _ _ _ (by omega)).mono ?_; rintro e w' ⟨rfl, rfl⟩)))
    go_ret
    have b1' := b0.trans (b1.mono b0.size)
    exact ⟨ret_b HR.out.symm, b1'⟩
  by_cases h2 : 0 ≤ t.b ∧ t.b ≤ n - 1
  case neg =>
    have HR := hide (show okTubeB n t = false by simp [okTubeB, inB_f (show t.b < 0 ∨ n - 1 < t.b by omega)])
    rw [inB_t h1] at HSA
    rw [inB_f (show t.b < 0 ∨ n - 1 < t.b by omega)] at HSB
    clear h1 h2
    go_enter Try.func152, Try.ntmps152
    go_upto_region 1 with fail
    generalize (w.alloc (.cells #[.int .i64 n, .slice A m c] 44)).alloc (.cells #[.int .i64 t.a, .int .i64 t.b, .int .i64 t.c] 111) = w0 at *
    go_wp2_with (first
      | (go_at_call 171; (with_reducible refine (HSA.out w0).mono ?_); rintro e w1 ⟨rfl, b1⟩; have q1 := (b1.cell (p := ⟨w.heap.size, 0, none⟩) (by dsimp only; omega)).trans kn0; have q2 := (b1.cell (p := ⟨w.heap.size, 1, none⟩) (by dsimp only; omega)).trans kn1; have q3 := (b1.cell (p := ⟨w.heap.size + 1, 0, none⟩) (by dsimp only; omega)).trans kt0; have q4 := (b1.cell (p := ⟨w.heap.size + 1, 1, none⟩) (by dsimp only; omega)).trans kt1; have q5 := (b1.cell (p := ⟨w.heap.size + 1, 2, none⟩) (by dsimp only; omega)).trans kt2; have z1 := b1.size)
      | (go_at_call 171; (with_reducible refine (HSB.out w1).mono ?_); rintro e w2 ⟨rfl, b2⟩; have r3 := (b2.cell (p := ⟨w.heap.size + 1, 0, none⟩) (by dsimp only; omega)).trans q3; have r4 := (b2.cell (p := ⟨w.heap.size + 1, 1, none⟩) (by dsimp only; omega)).trans q4; have r5 := (b2.cell (p := ⟨w.heap.size + 1, 2, none⟩) (by dsimp only; omega)).trans q5)
      | (go_at_call 115; first | (refine (within_t _ _ _ _ (by omega)).mono ?_; rintro e w' ⟨rfl, rfl⟩) | (refine (within_f _ _ _ _ (by omega)).mono ?_; rintro e w' ⟨rfl, rfl⟩)))
    go_ret
    have b1' := b0.trans (b1.mono b0.size)
    exact ⟨ret_b HR.out.symm, b1'.trans (b2.mono b1'.size)⟩
  rw [inB_t h1] at HSA
  rw [inB_t h2] at HSB
  by_cases h3 : t.a = t.b
  case pos =>
    have HR := hide (show okTubeB n t = false by simp [okTubeB, h3])
    have hB : (t.a != t.b) = false := by simp [h3]
    clear h1 h2 h3
    go_enter Try.func152, Try.ntmps152
    go_upto_region 1 with fail
    generalize (w.alloc (.cells #[.int .i64 n, .slice A m c] 44)).alloc (.cells #[.int .i64 t.a, .int .i64 t.b, .int .i64 t.c] 111) = w0 at *
    go_wp2_with (first
      | (go_at_call 171; (with_reducible refine (HSA.out w0).mono ?_); rintro e w1 ⟨rfl, b1⟩; have q1 := (b1.cell (p := ⟨w.heap.size, 0, none⟩) (by dsimp only; omega)).trans kn0; have q2 := (b1.cell (p := ⟨w.heap.size, 1, none⟩) (by dsimp only; omega)).trans kn1; have q3 := (b1.cell (p := ⟨w.heap.size + 1, 0, none⟩) (by dsimp only; omega)).trans kt0; have q4 := (b1.cell (p := ⟨w.heap.size + 1, 1, none⟩) (by dsimp only; omega)).trans kt1; have q5 := (b1.cell (p := ⟨w.heap.size + 1, 2, none⟩) (by dsimp only; omega)).trans kt2; have z1 := b1.size)
      | (go_at_call 171; (with_reducible refine (HSB.out w1).mono ?_); rintro e w2 ⟨rfl, b2⟩; have r3 := (b2.cell (p := ⟨w.heap.size + 1, 0, none⟩) (by dsimp only; omega)).trans q3; have r4 := (b2.cell (p := ⟨w.heap.size + 1, 1, none⟩) (by dsimp only; omega)).trans q4; have r5 := (b2.cell (p := ⟨w.heap.size + 1, 2, none⟩) (by dsimp only; omega)).trans q5)
      | (go_at_call 115; first | (refine (within_t _ _ _ _ (by omega)).mono ?_; rintro e w' ⟨rfl, rfl⟩) | (refine (within_f _ _ _ _ (by omega)).mono ?_; rintro e w' ⟨rfl, rfl⟩)))
    go_ret
    have b1' := b0.trans (b1.mono b0.size)
    exact ⟨ret_b HR.out.symm, b1'.trans (b2.mono b1'.size)⟩
  have hB : (t.a != t.b) = true := by simp [h3]
  by_cases h4 : 1 ≤ t.c ∧ t.c ≤ 2000
  case neg =>
    have HR := hide (show okTubeB n t = false by simp [okTubeB, inB_f (show t.c < 1 ∨ 2000 < t.c by omega)])
    have h5 : t.c < 1 ∨ 2000 < t.c := by omega
    clear h1 h2 h3 h4
    go_enter Try.func152, Try.ntmps152
    go_upto_region 1 with fail
    generalize (w.alloc (.cells #[.int .i64 n, .slice A m c] 44)).alloc (.cells #[.int .i64 t.a, .int .i64 t.b, .int .i64 t.c] 111) = w0 at *
    go_wp2_with (first
      | (go_at_call 171; (with_reducible refine (HSA.out w0).mono ?_); rintro e w1 ⟨rfl, b1⟩; have q1 := (b1.cell (p := ⟨w.heap.size, 0, none⟩) (by dsimp only; omega)).trans kn0; have q2 := (b1.cell (p := ⟨w.heap.size, 1, none⟩) (by dsimp only; omega)).trans kn1; have q3 := (b1.cell (p := ⟨w.heap.size + 1, 0, none⟩) (by dsimp only; omega)).trans kt0; have q4 := (b1.cell (p := ⟨w.heap.size + 1, 1, none⟩) (by dsimp only; omega)).trans kt1; have q5 := (b1.cell (p := ⟨w.heap.size + 1, 2, none⟩) (by dsimp only; omega)).trans kt2; have z1 := b1.size)
      | (go_at_call 171; (with_reducible refine (HSB.out w1).mono ?_); rintro e w2 ⟨rfl, b2⟩; have r3 := (b2.cell (p := ⟨w.heap.size + 1, 0, none⟩) (by dsimp only; omega)).trans q3; have r4 := (b2.cell (p := ⟨w.heap.size + 1, 1, none⟩) (by dsimp only; omega)).trans q4; have r5 := (b2.cell (p := ⟨w.heap.size + 1, 2, none⟩) (by dsimp only; omega)).trans q5)
      | (go_at_call 115; first | (refine (within_t _ _ _ _ (by omega)).mono ?_; rintro e w' ⟨rfl, rfl⟩) | (refine (within_f _ _ _ _ (by omega)).mono ?_; rintro e w' ⟨rfl, rfl⟩)))
    go_ret
    have b1' := b0.trans (b1.mono b0.size)
    exact ⟨ret_b HR.out.symm, b1'.trans (b2.mono b1'.size)⟩
  case pos =>
    have HR := hide (okTubeB_ok ⟨h1, h2, h3, h4⟩)
    obtain ⟨h5, h6⟩ := h4
    clear h1 h2 h3
    go_enter Try.func152, Try.ntmps152
    go_upto_region 1 with fail
    generalize (w.alloc (.cells #[.int .i64 n, .slice A m c] 44)).alloc (.cells #[.int .i64 t.a, .int .i64 t.b, .int .i64 t.c] 111) = w0 at *
    go_wp2_with (first
      | (go_at_call 171; (with_reducible refine (HSA.out w0).mono ?_); rintro e w1 ⟨rfl, b1⟩; have q1 := (b1.cell (p := ⟨w.heap.size, 0, none⟩) (by dsimp only; omega)).trans kn0; have q2 := (b1.cell (p := ⟨w.heap.size, 1, none⟩) (by dsimp only; omega)).trans kn1; have q3 := (b1.cell (p := ⟨w.heap.size + 1, 0, none⟩) (by dsimp only; omega)).trans kt0; have q4 := (b1.cell (p := ⟨w.heap.size + 1, 1, none⟩) (by dsimp only; omega)).trans kt1; have q5 := (b1.cell (p := ⟨w.heap.size + 1, 2, none⟩) (by dsimp only; omega)).trans kt2; have z1 := b1.size)
      | (go_at_call 171; (with_reducible refine (HSB.out w1).mono ?_); rintro e w2 ⟨rfl, b2⟩; have r3 := (b2.cell (p := ⟨w.heap.size + 1, 0, none⟩) (by dsimp only; omega)).trans q3; have r4 := (b2.cell (p := ⟨w.heap.size + 1, 1, none⟩) (by dsimp only; omega)).trans q4; have r5 := (b2.cell (p := ⟨w.heap.size + 1, 2, none⟩) (by dsimp only; omega)).trans q5)
      | (go_at_call 115; first | (refine (within_t _ _ _ _ (by omega)).mono ?_; rintro e w' ⟨rfl, rfl⟩) | (refine (within_f _ _ _ _ (by omega)).mono ?_; rintro e w' ⟨rfl, rfl⟩)))
    go_ret
    have b1' := b0.trans (b1.mono b0.size)
    exact ⟨ret_b HR.out.symm, b1'.trans (b2.mono b1'.size)⟩
set_option maxRecDepth 100000 in
set_option maxHeartbeats 1000000 in
theorem validNet1_any (n : Int) (t : T3) (A : Option Addr) (m c b : Nat) (w : World) (hn : 1 ≤ n ∧ n ≤ 10) (k0 : w.cell? ⟨b, 0, none⟩ = some (.int .i64 n)) (k1 : w.cell? ⟨b, 1, none⟩ = some (.slice A m c)) :
    Calls Try.prog 151 #[.agg #[.int .i64 t.a, .int .i64 t.b, .int .i64 t.c], .pointer (some ⟨b, 0, none⟩)] w fun e w' => e = .returned (.bool (!okTubeB n t)) ∧ Below w.heap.size w w' := by
  have hbl := World.block_lt_of_cell? w _ k0
  have b0 : Below w.heap.size w (w.alloc (.cells #[.int .i64 t.a, .int .i64 t.b, .int .i64 t.c] 111)) := (by repeat (first | exact Below.refl _ _ | assumption | (refine Below.alloc ?_ (by simp <;> omega) _) | refine Below.drew ?_ | refine bdn ?_ _))
  have HC := hide (isTube_any n t A m c (w.alloc (.cells #[.int .i64 t.a, .int .i64 t.b, .int .i64 t.c] 111)) hn)
  clear hn
  dsimp only at hbl
  go_enter Try.func151, Try.ntmps151
  go_wp2_with (go_at_call 152; refine (HC.out).mono ?_; rintro e w1 ⟨rfl, b1⟩)
  go_ret
  exact ⟨rfl, b0.trans (b1.mono b0.size)⟩
set_option maxRecDepth 100000 in
set_option maxHeartbeats 1000000 in
theorem validNet_any (n : Int) (tb : List T3) (A : Option Addr) (c : Nat) (w : World) (h : OkNet n tb) (hr : Rd3 w w.heap.size A tb) :
    Calls Try.prog 96 #[.agg #[.int .i64 n, .slice A tb.length c]] w fun e w' => e = .returned (.bool true) ∧ Below w.heap.size w w' := by
  obtain ⟨⟨hn0, hn1⟩, hl, ht⟩ := h
  have hcf := callFunc_gen (P := Try.prog) (F := 151) Try.func151 (by kernel_rfl) (by kernel_rfl)
  have b0 : Below w.heap.size w (w.alloc (.cells #[.int .i64 n, .slice A tb.length c] 44)) := (by repeat (first | exact Below.refl _ _ | assumption | (refine Below.alloc ?_ (by simp <;> omega) _) | refine Below.drew ?_ | refine bdn ?_ _))
  have k0 : (w.alloc (.cells #[.int .i64 n, .slice A tb.length c] 44)).cell? ⟨w.heap.size, 0, none⟩ = some (.int .i64 n) := by simp [go_sem]
  have k1 : (w.alloc (.cells #[.int .i64 n, .slice A tb.length c] 44)).cell? ⟨w.heap.size, 1, none⟩ = some (.slice A tb.length c) := by simp [go_sem]
  have z0 : w.heap.size < (w.alloc (.cells #[.int .i64 n, .slice A tb.length c] 44)).heap.size := by simp
  have hany : tb.any (fun t => !okTubeB n t) = false := by
    rw [List.any_eq_false]; intro t ht'; rw [okTubeB_ok (ht t ht')]; simp
  have HC := hide (containsFuncTube_any (fun t => !okTubeB n t) 151 #[.pointer (some ⟨w.heap.size, 0, none⟩)] tb A c (w.alloc (.cells #[.int .i64 n, .slice A tb.length c] 44)) (by omega) hcf ((hr.below b0).more b0.size) (fun t W hW => validNet1_any n t A tb.length c w.heap.size W (by omega) ((hW.cell z0).trans k0) ((hW.cell z0).trans k1)))
  rw [hany] at HC
  clear hany ht hr hcf
  go_enter Try.func96, Try.ntmps96
  go_upto_region 1 with fail
  generalize (w.alloc (.cells #[.int .i64 n, .slice A tb.length c] 44)) = w0 at *
  go_wp2_with (first | (go_at_call 115; first | (refine (within_t _ _ _ _ (by omega)).mono ?_; rintro e w' ⟨rfl, rfl⟩) | (refine (within_f _ _ _ _ (by omega)).mono ?_; rintro e w' ⟨rfl, rfl⟩)) | (go_at_call 150; refine (HC.out).mono ?_; rintro e w1 ⟨rfl, b1⟩))
  go_ret
  exact ⟨rfl, b0.trans (b1.mono b0.size)⟩
set_option maxRecDepth 100000 in
set_option maxHeartbeats 1000000 in
theorem netCode_any (n : Int) (tb : List T3) (zs : List Int) (A Az : Option Addr) (c cz : Nat) (w : World) (h : OkNet n tb) (hr : Rd3 w w.heap.size A tb) (hz : ∀ z ∈ zs, 0 ≤ z ∧ z ≤ n - 1) (hzl : zs.length ≤ 100) (hrz : RdI w w.heap.size Az zs) :
    Calls Try.prog 90 #[.agg #[.int .i64 n, .slice A tb.length c], .slice Az zs.length cz] w fun e w' => e = .returned (.int .i64 0) ∧ Below w.heap.size w w' := by
  obtain ⟨hn0, hn1⟩ := h.1
  have b0 : Below w.heap.size w (w.alloc (.cells #[.int .i64 n, .slice A tb.length c] 44)) := (by repeat (first | exact Below.refl _ _ | assumption | (refine Below.alloc ?_ (by simp <;> omega) _) | refine Below.drew ?_ | refine bdn ?_ _))
  have k0 : (w.alloc (.cells #[.int .i64 n, .slice A tb.length c] 44)).cell? ⟨w.heap.size, 0, none⟩ = some (.int .i64 n) := by simp [go_sem]
  have k1 : (w.alloc (.cells #[.int .i64 n, .slice A tb.length c] 44)).cell? ⟨w.heap.size, 1, none⟩ = some (.slice A tb.length c) := by simp [go_sem]
  have z0 : w.heap.size < (w.alloc (.cells #[.int .i64 n, .slice A tb.length c] 44)).heap.size := by simp
  have HV := hide (validNet_any n tb A c (w.alloc (.cells #[.int .i64 n, .slice A tb.length c] 44)) h ((hr.below b0).more b0.size))
  have HO := hide fun W (hW : Below w.heap.size w W) => outside_any zs 0 (n - 1) Az cz W (by omega) ((hrz.below hW).more hW.size)
  have hany : (zs.any fun z => !inB 0 (n - 1) z) = false := by
    rw [List.any_eq_false]; intro z hz'; rw [inB_t (hz z hz')]; simp
  clear h hr hz hrz
  go_enter Try.func90, Try.ntmps90
  go_upto_region 1 with fail
  generalize (w.alloc (.cells #[.int .i64 n, .slice A tb.length c] 44)) = w0 at *
  go_wp2_with (first
    | (go_at_call 96; (with_reducible refine (HV.out).mono ?_); rintro e w1 ⟨rfl, b1⟩; have q0 := (b1.cell (p := ⟨w.heap.size, 0, none⟩) z0).trans k0; have q1 := (b1.cell (p := ⟨w.heap.size, 1, none⟩) z0).trans k1; have bw1 := b0.trans (b1.mono b0.size))
    | (go_at_call 137; (with_reducible refine (HO.out _ bw1).mono ?_); rintro e w2 ⟨rfl, b2⟩; rw [hany]))
  go_ret
  exact ⟨rfl, bw1.trans (b2.mono bw1.size)⟩
end Go.Proofs.Ytlkccijlbeibjaa
namespace Go.Proofs.Ytlkccijlbeibjaa
open Go.RowKit
theorem BoxN.c3 {w : World} {b : Nat} {x y z : Value} {e : TypeId} (h : BoxN w b #[x, y, z] e) : w.cell? ⟨b, 0, none⟩ = some x ∧ w.cell? ⟨b, 1, none⟩ = some y ∧ w.cell? ⟨b, 2, none⟩ = some z := ⟨h.cell 0, h.cell 1, h.cell 2⟩
def MvOk (n : Int) (m : T3) : Prop := (0 ≤ m.a ∧ m.a < n) ∧ (-1 ≤ m.b ∧ m.b ≤ n) ∧ -1 ≤ m.c ∧ m.c ≤ 201
end Go.Proofs.Ytlkccijlbeibjaa
