/-
  Networks, plain laws: ways, least lengths by rounds of relaxing, and what they say of ways.
  Contracts of the laws' own helpers over slices of records: copies, comparisons, sizes, marks. Printed by gen_rec.py.
-/
import Derived.Test.YtlkccijlbeibjaaQTurns0
import Derived.Test.YtlkccijlbeibjaaProg
import Derived.WalkKit
import Derived.BigQuiet
import Derived.Deep.QuietTactic
import Derived.Deep.LoopGhost
import Derived.StillTailTactics
namespace Go.Proofs.Ytlkccijlbeibjaa
open Go.RowKit

/-- Tubes: from a, to b, c long. A way avoids the tube 'wo'. -/
def wk (tb : List T3) (wo : Int) : List Int → Int → Int → Prop
  | [], v, u => v = u
  | i :: r, v, u => 0 ≤ i ∧ i ≠ wo ∧ ∃ t, tb[i.toNat]? = some t ∧ t.a = v ∧ wk tb wo r t.b u
def tubeAt (tb : List T3) (i : Int) : T3 := (tb[i.toNat]?).getD ⟨0, 0, 0⟩
def lenW (tb : List T3) : List Int → Int
  | [] => 0
  | i :: r => (tubeAt tb i).c + lenW tb r
def OkTubes (n : Nat) (tb : List T3) : Prop := ∀ t ∈ tb, (0 ≤ t.a ∧ t.a < n) ∧ (0 ≤ t.b ∧ t.b < n) ∧ (1 ≤ t.c ∧ t.c ≤ 2000)
theorem tubeAt_get {tb : List T3} {i : Int} {t : T3} (h : tb[i.toNat]? = some t) : tubeAt tb i = t := by simp [tubeAt, h]
theorem wk_append {tb : List T3} {wo : Int} : ∀ {p q : List Int} {v u : Int}, wk tb wo (p ++ q) v u ↔ ∃ x, wk tb wo p v x ∧ wk tb wo q x u := by
  intro p
  induction p with
  | nil => intro q v u; constructor
           · intro h; exact ⟨v, rfl, h⟩
           · rintro ⟨x, rfl, h⟩; exact h
  | cons i p ih =>
    intro q v u
    rw [List.cons_append]
    constructor
    · rintro ⟨h0, h1, t, ht, ha, h⟩
      obtain ⟨x, h2, h3⟩ := ih.1 h
      exact ⟨x, ⟨h0, h1, t, ht, ha, h2⟩, h3⟩
    · rintro ⟨x, ⟨h0, h1, t, ht, ha, h2⟩, h3⟩
      exact ⟨h0, h1, t, ht, ha, ih.2 ⟨x, h2, h3⟩⟩
theorem lenW_append (tb : List T3) : ∀ p q : List Int, lenW tb (p ++ q) = lenW tb p + lenW tb q := by
  intro p
  induction p with
  | nil => intro q; simp [lenW]
  | cons i p ih => intro q; rw [List.cons_append, lenW, lenW, ih]; omega
theorem lenW_nonneg {n : Nat} {tb : List T3} (hok : OkTubes n tb) {wo : Int} : ∀ {p : List Int} {v u : Int}, wk tb wo p v u → 0 ≤ lenW tb p := by
  intro p
  induction p with
  | nil => intro v u _; exact Int.le_refl _
  | cons i p ih =>
    rintro v u ⟨h0, h1, t, ht, ha, h⟩
    have h2 := ih h
    have h3 := (hok t (List.mem_of_getElem? ht)).2.2
    rw [lenW, tubeAt_get ht]; omega
/-- The stations at which the tubes of a way begin. -/
def begins (tb : List T3) (p : List Int) : List Int := p.map fun i => (tubeAt tb i).a
theorem begins_in {n : Nat} {tb : List T3} (hok : OkTubes n tb) {wo : Int} : ∀ {p : List Int} {v u : Int}, wk tb wo p v u → ∀ x ∈ begins tb p, 0 ≤ x ∧ x < n := by
  intro p
  induction p with
  | nil => intro v u _ x hx; cases hx
  | cons i p ih =>
    rintro v u ⟨h0, h1, t, ht, ha, h⟩ x hx
    rw [begins, List.map_cons, tubeAt_get ht] at hx
    rcases List.mem_cons.1 hx with rfl | hx
    · exact (hok t (List.mem_of_getElem? ht)).1
    · exact ih h x hx
theorem wk_start {tb : List T3} {wo : Int} {p : List Int} {v u i : Int} (h : wk tb wo (i :: p) v u) : v = (tubeAt tb i).a := by
  obtain ⟨_, _, t, ht, ha, _⟩ := h
  rw [tubeAt_get ht, ha]
theorem range_nodup (n : Nat) : ((List.range n).map fun (j : Nat) => (j : Int)).Nodup :=
  List.pairwise_map.2 ((List.nodup_range (n := n)).imp fun {a b} hab e => hab (by omega))
theorem nodup_len {n : Nat} {xs : List Int} (h : xs.Nodup) (hb : ∀ x ∈ xs, 0 ≤ x ∧ x < n) : xs.length ≤ n := by
  have := h.length_le_of_subset (l₂ := (List.range n).map fun (j : Nat) => (j : Int)) fun z hz => by
    have := hb z hz
    exact List.mem_map.2 ⟨z.toNat, List.mem_range.2 (by omega), by omega⟩
  simpa using this
/-- A list of more than n of n things has one of them twice. -/
theorem twice {n : Nat} {xs : List Int} (hl : n < xs.length) (hb : ∀ x ∈ xs, 0 ≤ x ∧ x < n) : ∃ (p q r : List Int) (a : Int), xs = p ++ a :: q ++ a :: r := by
  have h : ¬ xs.Nodup := fun h => by have := nodup_len h hb; omega
  clear hl
  induction xs with
  | nil => exact absurd List.nodup_nil h
  | cons x xs ih =>
    by_cases hm : x ∈ xs
    · obtain ⟨q, r, e⟩ := List.append_of_mem hm
      exact ⟨[], q, r, x, by rw [e]; rfl⟩
    · have h' : ¬ xs.Nodup := fun h2 => h (List.nodup_cons.2 ⟨hm, h2⟩)
      obtain ⟨p, q, r, a, e⟩ := ih (fun z hz => hb z (List.mem_cons_of_mem _ hz)) h'
      exact ⟨x :: p, q, r, a, by rw [e]; rfl⟩
/-- A way of more than n tubes can be made shorter. -/
theorem cut_way {n : Nat} {tb : List T3} (hok : OkTubes n tb) {wo : Int} {p : List Int} {v u : Int} (h : wk tb wo p v u) (hl : n < p.length) : ∃ p', wk tb wo p' v u ∧ p'.length < p.length ∧ lenW tb p' ≤ lenW tb p := by
  obtain ⟨b1, b2, b3, a, e⟩ := twice (xs := begins tb p) (by simpa [begins] using hl) (begins_in hok h)
  unfold begins at e
  rw [List.append_assoc] at e
  obtain ⟨x, y, rfl, hx, hy⟩ := List.map_eq_append_iff.1 e
  rw [List.cons_append] at hy
  obtain ⟨i, z, rfl, hi, hz⟩ := List.map_eq_cons_iff.1 hy
  obtain ⟨z1, z2, rfl, hz1, hz2⟩ := List.map_eq_append_iff.1 hz
  obtain ⟨j, z3, rfl, hj, _⟩ := List.map_eq_cons_iff.1 hz2
  obtain ⟨s, w1, w2⟩ := wk_append.1 h
  have hs := wk_start w2
  have w2' : wk tb wo ((i :: z1) ++ (j :: z3)) s u := w2
  obtain ⟨s', w3, w4⟩ := wk_append.1 w2'
  have hs' := wk_start w4
  have hss : s = s' := by rw [hs, hs', hi, hj]
  subst hss
  refine ⟨x ++ j :: z3, wk_append.2 ⟨s, w1, w4⟩, by simp; omega, ?_⟩
  have := lenW_nonneg hok w3
  rw [lenW_append, lenW_append, show i :: (z1 ++ j :: z3) = (i :: z1) ++ (j :: z3) from rfl, lenW_append]
  omega
theorem short_way {n : Nat} {tb : List T3} (hok : OkTubes n tb) {wo : Int} : ∀ (k : Nat) {p : List Int} {v u : Int}, p.length ≤ k → wk tb wo p v u → ∃ p', wk tb wo p' v u ∧ p'.length ≤ n ∧ lenW tb p' ≤ lenW tb p := by
  intro k
  induction k with
  | zero => intro p v u hk h; exact ⟨p, h, by omega, Int.le_refl _⟩
  | succ k ih =>
    intro p v u hk h
    by_cases hn : p.length ≤ n
    · exact ⟨p, h, hn, Int.le_refl _⟩
    · obtain ⟨p1, h1, h2, h3⟩ := cut_way hok h (by omega)
      obtain ⟨p2, h4, h5, h6⟩ := ih (by omega) h1
      exact ⟨p2, h4, h5, by omega⟩
/-! ### relaxing -/
def dAt (d : List Int) (v : Int) : Int := (d[v.toNat]?).getD (-1)
def relax1 (wo : Int) (i : Int) (t : T3) (d : List Int) : List Int :=
  if i = wo ∨ dAt d t.b < 0 then d else if dAt d t.a < 0 ∨ dAt d t.b + t.c < dAt d t.a then d.set t.a.toNat (dAt d t.b + t.c) else d
def relaxGo (wo : Int) : List T3 → Int → List Int → List Int
  | [], _, d => d
  | t :: r, i, d => relaxGo wo r (i + 1) (relax1 wo i t d)
def rounds (wo : Int) (tb : List T3) : Nat → List Int → List Int
  | 0, d => d
  | k + 1, d => rounds wo tb k (relaxGo wo tb 0 d)
def dist0 (n : Nat) (dst : Int) : List Int := (List.replicate n (-1)).set dst.toNat 0
def dist (n : Nat) (tb : List T3) (dst wo : Int) : List Int := rounds wo tb n (dist0 n dst)
theorem relax1_len (wo i : Int) (t : T3) (d : List Int) : (relax1 wo i t d).length = d.length := by
  unfold relax1; split
  · rfl
  · split
    · exact List.length_set ..
    · rfl
theorem relaxGo_len (wo : Int) : ∀ (tb : List T3) (i : Int) (d : List Int), (relaxGo wo tb i d).length = d.length := by
  intro tb
  induction tb with
  | nil => intro i d; rfl
  | cons t r ih => intro i d; rw [relaxGo, ih, relax1_len]
theorem rounds_len (wo : Int) (tb : List T3) : ∀ (k : Nat) (d : List Int), (rounds wo tb k d).length = d.length := by
  intro k
  induction k with
  | zero => intro d; rfl
  | succ k ih => intro d; rw [rounds, ih, relaxGo_len]
theorem dist_len (n : Nat) (tb : List T3) (dst wo : Int) : (dist n tb dst wo).length = n := by unfold dist dist0; rw [rounds_len, List.length_set, List.length_replicate]
theorem dAt_set {d : List Int} {v u x : Int} (hv : 0 ≤ v) (hu : 0 ≤ u) (hl : u < d.length) : dAt (d.set u.toNat x) v = if v = u then x else dAt d v := by
  unfold dAt
  by_cases h : v = u
  · subst h
    rw [if_pos rfl, List.getElem?_set_self (by omega)]; rfl
  · rw [if_neg h, List.getElem?_set_ne (by omega)]
theorem dAt_neg {d : List Int} {v : Int} (h : (d.length : Int) ≤ v) (hv : 0 ≤ v) : dAt d v = -1 := by
  unfold dAt; rw [List.getElem?_eq_none (by omega)]; rfl
/-- Values are -1 or the lengths of ways. -/
def Sound (tb : List T3) (wo dst : Int) (d : List Int) : Prop := ∀ v, 0 ≤ v → (dAt d v = -1 ∨ (0 ≤ dAt d v ∧ ∃ p, wk tb wo p v dst ∧ lenW tb p = dAt d v))
theorem relax1_sound {n : Nat} {tb : List T3} (hok : OkTubes n tb) {wo dst i : Int} {t : T3} {d : List Int} (hd : d.length = n) (hi : 0 ≤ i) (ht : tb[i.toNat]? = some t) (h : Sound tb wo dst d) : Sound tb wo dst (relax1 wo i t d) := by
  obtain ⟨⟨ha0, han⟩, ⟨hb0, hbn⟩, hc⟩ := hok t (List.mem_of_getElem? ht)
  unfold relax1
  split
  · exact h
  · rename_i h1
    split
    · intro v hv
      rw [dAt_set hv ha0 (by omega)]
      split
      · rename_i hva
        subst hva
        rcases h t.b hb0 with h3 | ⟨h3, p, h4, h5⟩
        · omega
        · refine .inr ⟨by omega, i :: p, ⟨hi, fun e => h1 (.inl e), t, ht, rfl, h4⟩, ?_⟩
          rw [lenW, tubeAt_get ht, h5]; omega
      · exact h v hv
    · exact h
theorem relaxGo_sound {n : Nat} {tb : List T3} (hok : OkTubes n tb) {wo dst : Int} : ∀ (r : List T3) (k : Nat) (d : List Int), d.length = n → r = tb.drop k → Sound tb wo dst d → Sound tb wo dst (relaxGo wo r k d) := by
  intro r
  induction r with
  | nil => intro k d _ _ h; exact h
  | cons t r ih =>
    intro k d hd hr h
    have hk : tb[k]? = some t := by
      have := congrArg (·[0]?) hr
      simp only [List.getElem?_cons_zero, List.getElem?_drop, Nat.add_zero] at this
      exact this.symm
    rw [relaxGo, show (k : Int) + 1 = ((k + 1 : Nat) : Int) by omega]
    refine ih (k + 1) _ (by rw [relax1_len, hd]) ?_ (relax1_sound hok hd (by omega) (by simpa using hk) h)
    have := congrArg List.tail hr
    simpa using this
theorem rounds_sound {n : Nat} {tb : List T3} (hok : OkTubes n tb) {wo dst : Int} : ∀ (k : Nat) (d : List Int), d.length = n → Sound tb wo dst d → Sound tb wo dst (rounds wo tb k d) := by
  intro k
  induction k with
  | zero => intro d _ h; exact h
  | succ k ih => intro d hd h; rw [rounds]; exact ih _ (by rw [relaxGo_len, hd]) (relaxGo_sound hok tb 0 d hd rfl h)
theorem dist0_sound {n : Nat} {tb : List T3} {wo dst : Int} (h0 : 0 ≤ dst) (hn : dst < n) : Sound tb wo dst (dist0 n dst) := by
  intro v hv
  unfold dist0
  rw [dAt_set hv h0 (by simpa using hn)]
  split
  · rename_i h; subst h; exact .inr ⟨Int.le_refl _, [], rfl, rfl⟩
  · left
    unfold dAt
    rw [List.getElem?_replicate]
    split <;> rfl
theorem dist_sound {n : Nat} {tb : List T3} (hok : OkTubes n tb) {wo dst : Int} (h0 : 0 ≤ dst) (hn : dst < n) : Sound tb wo dst (dist n tb dst wo) :=
  rounds_sound hok n _ (by unfold dist0; simp) (dist0_sound h0 hn)
/-- One list of values is no worse than another. -/
def LeD (d e : List Int) : Prop := ∀ v, 0 ≤ v → 0 ≤ dAt e v → 0 ≤ dAt d v ∧ dAt d v ≤ dAt e v
theorem LeD.refl (d : List Int) : LeD d d := fun v _ h => ⟨h, Int.le_refl _⟩
theorem LeD.trans {a b c : List Int} (h : LeD a b) (k : LeD b c) : LeD a c := fun v hv hc => by
  have h1 := k v hv hc; have h2 := h v hv h1.1; omega
theorem relax1_le {n : Nat} {tb : List T3} (hok : OkTubes n tb) {wo i : Int} {t : T3} {d : List Int} (hd : d.length = n) (ht : t ∈ tb) : LeD (relax1 wo i t d) d := by
  obtain ⟨⟨ha0, han⟩, ⟨hb0, hbn⟩, hc⟩ := hok t ht
  unfold relax1
  split
  · exact LeD.refl _
  · split
    · intro v hv hdv
      rw [dAt_set hv ha0 (by omega)]
      split
      · rename_i h; subst h; omega
      · exact ⟨hdv, Int.le_refl _⟩
    · exact LeD.refl _
theorem relaxGo_le {n : Nat} {tb : List T3} (hok : OkTubes n tb) {wo : Int} : ∀ (r : List T3) (i : Int) (d : List Int), d.length = n → (∀ t ∈ r, t ∈ tb) → LeD (relaxGo wo r i d) d := by
  intro r
  induction r with
  | nil => intro i d _ _; exact LeD.refl _
  | cons t r ih =>
    intro i d hd hr
    rw [relaxGo]
    exact (ih (i + 1) _ (by rw [relax1_len, hd]) fun s hs => hr s (List.mem_cons_of_mem _ hs)).trans (relax1_le hok hd (hr t (List.mem_cons_self ..)))
/-- After a round each tube has been looked at. -/
theorem relax1_hit {n : Nat} {tb : List T3} (hok : OkTubes n tb) {wo i : Int} {t : T3} {d : List Int} (hd : d.length = n) (ht : t ∈ tb) (hi : i ≠ wo) (hb : 0 ≤ dAt d t.b) : 0 ≤ dAt (relax1 wo i t d) t.a ∧ dAt (relax1 wo i t d) t.a ≤ dAt d t.b + t.c := by
  obtain ⟨⟨ha0, han⟩, ⟨hb0, hbn⟩, hc⟩ := hok t ht
  unfold relax1
  rw [if_neg (by omega)]
  split
  · rw [dAt_set ha0 ha0 (by omega), if_pos rfl]; omega
  · omega
theorem relaxGo_hit {n : Nat} {tb : List T3} (hok : OkTubes n tb) {wo : Int} : ∀ (r : List T3) (i : Int) (d : List Int) (j : Nat) (t : T3), d.length = n → (∀ t ∈ r, t ∈ tb) → r[j]? = some t → i + j ≠ wo → 0 ≤ dAt d t.b → 0 ≤ dAt (relaxGo wo r i d) t.a ∧ dAt (relaxGo wo r i d) t.a ≤ dAt d t.b + t.c := by
  intro r
  induction r with
  | nil => intro i d j t _ _ h; simp at h
  | cons s r ih =>
    intro i d j t hd hr hj hi hb
    have hs := hr s (List.mem_cons_self ..)
    have hr' : ∀ t ∈ r, t ∈ tb := fun t ht => hr t (List.mem_cons_of_mem _ ht)
    have hd' : (relax1 wo i s d).length = n := by rw [relax1_len, hd]
    rw [relaxGo]
    cases j with
    | zero =>
      simp at hj; subst hj
      obtain ⟨h1, h2⟩ := relax1_hit (wo := wo) (i := i) hok hd hs (by simpa using hi) hb
      have h3 := relaxGo_le (wo := wo) hok r (i + 1) _ hd' hr' s.a (hok s hs).1.1 h1
      omega
    | succ j =>
      have ht : t ∈ tb := hr' t (List.mem_of_getElem? (by simpa using hj))
      have h1 := relax1_le (wo := wo) (i := i) hok hd hs t.b (hok t ht).2.1.1 hb
      have := ih (i + 1) _ j t hd' hr' (by simpa using hj) (by omega) h1.1
      omega
theorem rounds_le {n : Nat} {tb : List T3} (hok : OkTubes n tb) {wo : Int} : ∀ (k : Nat) (d : List Int), d.length = n → LeD (rounds wo tb k d) d := by
  intro k
  induction k with
  | zero => intro d _; exact LeD.refl _
  | succ k ih => intro d hd; rw [rounds]; exact (ih _ (by rw [relaxGo_len, hd])).trans (relaxGo_le hok tb 0 d hd fun _ h => h)
theorem rounds_snoc (wo : Int) (tb : List T3) : ∀ (k : Nat) (d : List Int), rounds wo tb (k + 1) d = relaxGo wo tb 0 (rounds wo tb k d) := by
  intro k
  induction k with
  | zero => intro d; rfl
  | succ k ih => intro d; rw [rounds, ih]; rfl
/-- After k rounds: no way of at most k tubes is shorter. -/
theorem rounds_opt {n : Nat} {tb : List T3} (hok : OkTubes n tb) {wo dst : Int} (h0 : 0 ≤ dst) (hn : dst < n) : ∀ (k : Nat) (p : List Int) (v : Int), p.length ≤ k → 0 ≤ v → wk tb wo p v dst → 0 ≤ dAt (rounds wo tb k (dist0 n dst)) v ∧ dAt (rounds wo tb k (dist0 n dst)) v ≤ lenW tb p := by
  intro k
  have hd0 : (dist0 n dst).length = n := by unfold dist0; simp
  have hbase : 0 ≤ dAt (dist0 n dst) dst ∧ dAt (dist0 n dst) dst ≤ 0 := by
    unfold dist0; rw [dAt_set h0 h0 (by simpa using hn), if_pos rfl]; omega
  induction k with
  | zero =>
    intro p v hl hv hw
    obtain rfl : p = [] := List.eq_nil_of_length_eq_zero (by omega)
    obtain rfl : v = dst := hw
    exact hbase
  | succ k ih =>
    intro p v hl hv hw
    have hdk : (rounds wo tb k (dist0 n dst)).length = n := by rw [rounds_len, hd0]
    match p, hl, hw with
    | [], _, hw =>
      obtain rfl : v = dst := hw
      have := rounds_le (wo := wo) hok (k + 1) (dist0 n v) hd0 v hv hbase.1
      simp only [lenW]; omega
    | i :: p, hl, ⟨hi0, hiw, t, ht, ha, hw'⟩ =>
      have htm := List.mem_of_getElem? ht
      have h1 := ih p t.b (by simpa using hl) (hok t htm).2.1.1 hw'
      have h2 := relaxGo_hit (wo := wo) hok tb 0 _ i.toNat t hdk (fun _ h => h) ht (by omega) h1.1
      rw [rounds_snoc, lenW, tubeAt_get ht, ← ha]
      omega
/-- The least lengths are the least lengths of ways. -/
theorem dist_opt {n : Nat} {tb : List T3} (hok : OkTubes n tb) {wo dst : Int} (h0 : 0 ≤ dst) (hn : dst < n) {p : List Int} {v : Int} (hv : 0 ≤ v) (hw : wk tb wo p v dst) : 0 ≤ dAt (dist n tb dst wo) v ∧ dAt (dist n tb dst wo) v ≤ lenW tb p := by
  obtain ⟨p', h1, h2, h3⟩ := short_way hok p.length (Nat.le_refl _) hw
  have := rounds_opt hok h0 hn n p' v h2 hv h1
  unfold dist; omega
theorem dist_way {n : Nat} {tb : List T3} (hok : OkTubes n tb) {wo dst : Int} (h0 : 0 ≤ dst) (hn : dst < n) {v : Int} (hv : 0 ≤ v) (hd : 0 ≤ dAt (dist n tb dst wo) v) : ∃ p, wk tb wo p v dst ∧ lenW tb p = dAt (dist n tb dst wo) v := by
  rcases dist_sound hok (wo := wo) h0 hn v hv with h | ⟨_, h⟩
  · omega
  · exact h
theorem dist_iff {n : Nat} {tb : List T3} (hok : OkTubes n tb) {wo dst : Int} (h0 : 0 ≤ dst) (hn : dst < n) {v : Int} (hv : 0 ≤ v) : 0 ≤ dAt (dist n tb dst wo) v ↔ ∃ p, wk tb wo p v dst :=
  ⟨fun h => by obtain ⟨p, hp, _⟩ := dist_way hok h0 hn hv h; exact ⟨p, hp⟩, fun ⟨p, hp⟩ => (dist_opt hok h0 hn hv hp).1⟩
theorem dist_neg {n : Nat} {tb : List T3} (hok : OkTubes n tb) {wo dst : Int} (h0 : 0 ≤ dst) (hn : dst < n) {v : Int} (hv : 0 ≤ v) (h : dAt (dist n tb dst wo) v < 0) : dAt (dist n tb dst wo) v = -1 := by
  rcases dist_sound hok (wo := wo) h0 hn v hv with h | ⟨h, _⟩ <;> omega
/-- Values stay within the lengths of ways of n tubes. -/
theorem dist_bd {n : Nat} {tb : List T3} (hok : OkTubes n tb) {wo : Int} : ∀ {p : List Int} {v u : Int}, wk tb wo p v u → lenW tb p ≤ 2000 * p.length := by
  intro p
  induction p with
  | nil => intro v u _; simp [lenW]
  | cons i p ih =>
    rintro v u ⟨h0, h1, t, ht, ha, h⟩
    have h2 := ih h
    have h3 := (hok t (List.mem_of_getElem? ht)).2.2
    rw [lenW, tubeAt_get ht, List.length_cons]; omega
end Go.Proofs.Ytlkccijlbeibjaa
namespace Go.Proofs.Ytlkccijlbeibjaa
open Go.RowKit



set_option maxRecDepth 100000 in
set_option maxHeartbeats 1000000 in
theorem indexFuncTube_any (p : T3 → Bool) (F : FuncId) (cap : Array Value) (xs : List T3) (A : Option Addr) (c : Nat) (w : World) (hx : xs.length ≤ 9223372036854775807)
    (hcf : ∀ args w, (callFunc F args).run Try.prog w = .ok (.enter F args) w) (h1 : Rd3 w w.heap.size A xs)
    (hp : ∀ z W, Below w.heap.size w W → Calls Try.prog F (#[.agg #[.int .i64 z.a, .int .i64 z.b, .int .i64 z.c]] ++ cap) W fun e w' => e = .returned (.bool (p z)) ∧ Below W.heap.size W w') :
    Calls Try.prog 170 #[.slice A xs.length c, .func (.func F) #[] cap] w fun e w' => e = .returned (.int .i64 (firstI p xs 0)) ∧ Below w.heap.size w w' := by
  have HP := hide hp; clear hp
  go_enter Try.func170, Try.ntmps170
  go_wp2_with fail
  go_loopg [8] xs.length (fun g i wr => ∃ k : Nat, k ≤ xs.length ∧ Hid (g = xs.length - k) ∧ i = .int .i64 k ∧ Below w.heap.size w wr ∧ Hid (firstI p xs 0 = firstI p (xs.drop k) k))
  case atStart => exact ⟨0, by omega, by simp [Hid], rfl, Below.refl _ _, hide (by simp)⟩
  case round =>
    obtain ⟨k, hk, HG, rfl, hb, HE⟩ := hrel
    by_cases hlt : k < xs.length
    · obtain ⟨b, o, z, rfl, _, hz, hca, hcb, hcc⟩ := (h1.below hb).at_ hlt
      have Z := hide hz; clear hz h1
      have HQ := HP.out z wr hb
      have h := HE.out
      rw [drop_cons Z.out] at h
      cases hpz : p z
      · rw [hpz] at HQ
        have h' := hide (show firstI p xs 0 = firstI p (xs.drop (k + 1)) (k + 1) by simpa [firstI, hpz] using h)
        have HQ' := hide HQ
        clear h HQ hpz HE
        go_wp2_with fail
        refine HQ'.out.mono ?_
        rintro e w1 ⟨rfl, hb1⟩
        go_wp2_with fail
        go_roundg (xs.length - (k + 1))
        case measure => have := HG.out; omega
        case rel => exact ⟨k + 1, by omega, rfl, by go_num, hb.trans (hb1.mono hb.size), h'⟩
      · rw [hpz] at HQ
        have h' := hide (show firstI p xs 0 = k by simpa [firstI, hpz] using h)
        have HQ' := hide HQ
        clear h HQ hpz HE
        go_wp2_with fail
        refine HQ'.out.mono ?_
        rintro e w1 ⟨rfl, hb1⟩
        go_wp2_with fail
        go_ret
        exact ⟨ret_i h'.out.symm, hb.trans (hb1.mono hb.size)⟩
    · go_wp2_with fail
      go_ret
      refine ⟨ret_i ?_, hb⟩
      have h := HE.out
      rw [List.drop_eq_nil_of_le (by omega)] at h
      rw [h]; rfl

set_option maxRecDepth 100000 in
set_option maxHeartbeats 1000000 in
theorem containsFuncTube_any (p : T3 → Bool) (F : FuncId) (cap : Array Value) (xs : List T3) (A : Option Addr) (c : Nat) (w : World) (hx : xs.length ≤ 9223372036854775807)
    (hcf : ∀ args w, (callFunc F args).run Try.prog w = .ok (.enter F args) w) (h1 : Rd3 w w.heap.size A xs)
    (hp : ∀ z W, Below w.heap.size w W → Calls Try.prog F (#[.agg #[.int .i64 z.a, .int .i64 z.b, .int .i64 z.c]] ++ cap) W fun e w' => e = .returned (.bool (p z)) ∧ Below W.heap.size W w') :
    Calls Try.prog 150 #[.slice A xs.length c, .func (.func F) #[] cap] w fun e w' => e = .returned (.bool (xs.any p)) ∧ Below w.heap.size w w' := by
  have HC := hide (indexFuncTube_any p F cap xs A c w hx hcf h1 hp)
  clear hp
  have HE := hide (firstI_ge p xs 0)
  go_enter Try.func150, Try.ntmps150
  go_wp2_with fail
  refine HC.out.mono ?_
  rintro e w1 ⟨rfl, hb⟩
  go_wp2_with fail
  go_ret
  exact ⟨ret_b HE.out, hb⟩


set_option maxRecDepth 100000 in
set_option maxHeartbeats 1000000 in
theorem eqChange_any (x y : T3) (w : World) :
    Calls Try.prog 142 #[.agg #[.int .i64 x.a, .int .i64 x.b, .int .i64 x.c], .agg #[.int .i64 y.a, .int .i64 y.b, .int .i64 y.c]] w fun e w' => e = .returned (.bool (decide (x = y))) ∧ Below w.heap.size w w' := by
  obtain ⟨x0, x1, x2⟩ := x
  obtain ⟨y0, y1, y2⟩ := y
  dsimp only
  have hbel : Below w.heap.size w ((w.alloc (.cells #[.int .i64 x0, .int .i64 x1, .int .i64 x2] 35)).alloc (.cells #[.int .i64 y0, .int .i64 y1, .int .i64 y2] 35)) :=
    ((Below.refl _ _).alloc (Nat.le_refl _) _).alloc (by simp) _
  by_cases h0 : x0 = y0
  case neg =>
    have hB0 : (x0 != y0) = true := by simp [h0]
    have H0 := hide h0; clear h0
    go_enter Try.func142, Try.ntmps142
    go_wp2_with fail
    go_ret
    exact ⟨ret_b (by simp [H0.out]), hbel⟩
  have hB0 : (x0 != y0) = false := by simp [h0]
  have H0 := hide h0; clear h0
  by_cases h1 : x1 = y1
  case neg =>
    have hB1 : (x1 != y1) = true := by simp [h1]
    have H1 := hide h1; clear h1
    go_enter Try.func142, Try.ntmps142
    go_wp2_with fail
    go_ret
    exact ⟨ret_b (by simp [H1.out]), hbel⟩
  have hB1 : (x1 != y1) = false := by simp [h1]
  have H1 := hide h1; clear h1
  by_cases h2 : x2 = y2
  case neg =>
    have hB2 : (x2 != y2) = true := by simp [h2]
    have H2 := hide h2; clear h2
    go_enter Try.func142, Try.ntmps142
    go_wp2_with fail
    go_ret
    exact ⟨ret_b (by simp [H2.out]), hbel⟩
  have hB2 : (x2 != y2) = false := by simp [h2]
  have H2 := hide h2; clear h2
  go_enter Try.func142, Try.ntmps142
  go_wp2_with fail
  go_ret
  exact ⟨ret_b (by simp [H0.out, H1.out, H2.out]), hbel⟩

set_option maxRecDepth 100000 in
set_option maxHeartbeats 1000000 in
theorem eqChangeS_any (xs ys : List T3) (A1 A2 : Option Addr) (c1 c2 : Nat) (w : World) (hx : xs.length ≤ 9223372036854775807) (hy : ys.length ≤ 9223372036854775807)
    (h1 : Rd3 w w.heap.size A1 xs) (h2 : Rd3 w w.heap.size A2 ys) :
    Calls Try.prog 75 #[.slice A1 xs.length c1, .slice A2 ys.length c2] w fun e w' => e = .returned (.bool (decide (xs = ys))) ∧ Below w.heap.size w w' := by
  by_cases hl : xs.length = ys.length
  · have hB : ((xs.length : Int) != ys.length) = false := by simp [hl]
    have HL := hide hl; clear hl
    go_enter Try.func75, Try.ntmps75
    go_wp2_with fail
    go_loopg [5] xs.length (fun g i wr => ∃ k : Nat, k ≤ xs.length ∧ g = xs.length - k ∧ i = .int .i64 k ∧ Below w.heap.size w wr ∧ Hid (xs = ys ↔ xs.drop k = ys.drop k))
    case atStart => exact ⟨0, by omega, by omega, rfl, Below.refl _ _, by simp [Hid]⟩
    case round =>
      obtain ⟨k, hk, hg0, rfl, hb, HE⟩ := hrel
      have hg := hide hg0; clear hg0
      by_cases hlt : k < xs.length
      · have hlt2 : k < ys.length := by have := HL.out; omega
        obtain ⟨b1, o1, z1, rfl, _, hz1, hc1a, hc1b, hc1c⟩ := (h1.below hb).at_ hlt
        obtain ⟨b2, o2, z2, rfl, _, hz2, hc2a, hc2b, hc2c⟩ := (h2.below hb).at_ hlt2
        have Z1 := hide hz1; have Z2 := hide hz2; clear hz1 hz2 h1 h2
        have hE : decide (xs = ys) = (decide (z1 = z2) && decide (xs.drop (k + 1) = ys.drop (k + 1))) := by
          have h := HE.out
          rw [drop_cons Z1.out, drop_cons Z2.out] at h
          rw [Bool.eq_iff_iff]; simpa using h
        have HE' := hide hE
        clear hE
        have HC := hide (eqChange_any z1 z2)
        by_cases he : z1 = z2
        · have hd : decide (z1 = z2) = true := by simpa using he
          rw [hd] at HE' HC
          have HD := hide he; clear he hd
          go_wp2_with fail
          go_still_tail 8, (by kernel_rfl)
          change wpList _ _ _ _ _ wr.drew
          have hb2 : Below w.heap.size w wr.drew := hb.drew
          generalize wr.drew = w2 at hb2 ⊢
          go_wp2_with (go_at_call 142; refine (HC.out _).mono ?_; rintro e w1 ⟨rfl, hb1⟩)
          go_roundg (xs.length - (k + 1))
          case measure => have := hg.out; omega
          case rel => exact ⟨k + 1, by omega, rfl, by go_num, hb2.trans (hb1.mono hb2.size), hide (by have := HE'.out; simpa using this)⟩
        · have hd : decide (z1 = z2) = false := by simpa using he
          rw [hd] at HE' HC
          clear he hd
          go_wp2_with fail
          go_still_tail 8, (by kernel_rfl)
          change wpList _ _ _ _ _ wr.drew
          have hb2 : Below w.heap.size w wr.drew := hb.drew
          generalize wr.drew = w2 at hb2 ⊢
          go_wp2_with (go_at_call 142; refine (HC.out _).mono ?_; rintro e w1 ⟨rfl, hb1⟩)
          go_ret
          exact ⟨ret_b (by have := HE'.out; simpa using this.symm), hb2.trans (hb1.mono hb2.size)⟩
      · go_wp2_with fail
        go_ret
        refine ⟨ret_b ?_, hb⟩
        have h := HE.out
        rw [List.drop_eq_nil_of_le (by omega), List.drop_eq_nil_of_le (by have := HL.out; omega)] at h
        simpa using h
  · have hB : ((xs.length : Int) != ys.length) = true := by simp; omega
    have HL := hide hl; clear hl
    go_enter Try.func75, Try.ntmps75
    go_wp2_with fail
    go_ret
    exact ⟨ret_b (by simp; intro e; exact HL.out (by rw [e])), Below.refl _ _⟩

set_option maxRecDepth 100000 in
set_option maxHeartbeats 1000000 in
theorem toChange_any (x : T3) (w : World) :
    Calls Try.prog 10 #[.agg #[.int .i64 x.a, .int .i64 x.b, .int .i64 x.c]] w fun e w' => e = .returned (.agg #[.int .i64 x.a, .int .i64 x.b, .int .i64 x.c]) ∧ Below w.heap.size w w' := by
  go_enter Try.func10, Try.ntmps10
  go_wp2_with fail
  refine bodyPost_ret (v := .agg #[.int .i64 x.a, .int .i64 x.b, .int .i64 x.c]) (by simp [results, Try.results10, go_sem]) rfl ⟨rfl, ?_⟩
  exact (((Below.refl _ _).alloc (Nat.le_refl _) _).alloc (by simp) _).alloc (by simp; omega) _

set_option maxRecDepth 100000 in
set_option maxHeartbeats 1000000 in
theorem szChangeS_any (A : Option Addr) (n c : Nat) (left : Int) (w : World) (hn : n ≤ 9223372036854775807) (hl : 0 ≤ left) (hl2 : left ≤ 1048576) :
    Calls Try.prog 61 #[.slice A n c, .int .i64 left] w fun e w' => e = .returned (.int .i64 (szF n left)) ∧ w = w' := by
  by_cases h : (n : Int) ≤ left
  · have H := hide (szF_yes h)
    go_enter Try.func61, Try.ntmps61
    go_wp2_with fail
    go_ret
    exact ⟨ret_i H.out.symm, rfl⟩
  · have H := hide (szF_no (n := n) (left := left) (by omega))
    go_enter Try.func61, Try.ntmps61
    go_wp2_with fail
    go_ret
    exact ⟨ret_i H.out.symm, rfl⟩

theorem Change_info : (Try.prog.info? 35).map (fun i => (i.zero, i.size, i.bytes)) = some (some (.agg #[.int .i64 0, .int .i64 0, .int .i64 0]), 3, 24) := by kernel_rfl
set_option maxRecDepth 100000 in
set_option maxHeartbeats 1000000 in
theorem toChangeS_any (xs : List T3) (A : Option Addr) (c : Nat) (w : World) (hx : xs.length ≤ 1048576) (h1 : Rd3 w w.heap.size A xs) :
    Calls Try.prog 66 #[.slice A xs.length c] w fun e w' => ∃ A' c', e = .returned (.slice A' xs.length c') ∧ w'.ownsRow w.heap.size 35 3 (.slice A' xs.length c') xs.length (xs.flatMap T3.cells) ∧ Below w.heap.size w w' := by
  obtain ⟨i0, hi0, hz0, hs0, hb0⟩ := info_parts Change_info
  have HX := hide h1; clear h1
  go_enter Try.func66, Try.ntmps66
  go_wp2_with (refine wpList_make_full _ rfl _ _ _ rfl w.heap.size 35 i0 _ 3 Try.underlying29 hi0 hz0 hs0 .i64 .i64 (xs.length : Int) (xs.length : Int) xs.length rfl rfl rfl rfl (by rw [hb0]; omega) (by unfold maxLen; omega) (Nat.le_refl _) ?_; intro w1 hown1 hgr1)
  have hown2 : w1.ownsRow w.heap.size 35 3 (.slice (some ⟨w.heap.size, 0, none⟩) xs.length xs.length) xs.length ((cp (⟨0, 0, 0⟩ : T3) xs 0).flatMap T3.cells) := by
    rw [cp_zero, ← made_flatMap T3.cells 3 (fun _ => rfl) _ (by omega)]; exact hown1
  have hbel1 : Below w.heap.size w w1 := (Below.refl _ _).grown hgr1 (Nat.le_refl _) (by intro k hk; cases hk)
  clear hown1 hgr1
  go_loopg [4] xs.length (fun g i wr => ∃ k : Nat, k ≤ xs.length ∧ Hid (g = xs.length - k) ∧ i = .int .i64 k ∧ Below w.heap.size w wr ∧
    wr.ownsRow w.heap.size 35 3 (.slice (some ⟨w.heap.size, 0, none⟩) xs.length xs.length) xs.length ((cp (⟨0, 0, 0⟩ : T3) xs k).flatMap T3.cells))
  case atStart => exact ⟨0, by omega, by simp [Hid], rfl, hbel1, hown2⟩
  case round =>
    obtain ⟨k, hk, hg, rfl, hb, hown⟩ := hrel
    clear hown2 hbel1
    by_cases hlt : k < xs.length
    · obtain ⟨b1, o1, z1, rfl, hb1, hz1, hc1a, hc1b, hc1c⟩ := (HX.out.below hb).at_ hlt
      have Z1 := hide hz1; clear hz1
      have hlen := hide (cp_len (⟨0, 0, 0⟩ : T3) xs k (by omega))
      have hgt := hide (cp_get (⟨0, 0, 0⟩ : T3) xs k hlt)
      go_wp2_with (go_at_call 10; refine (toChange_any z1 _).mono ?_; rintro e w2 ⟨rfl, hbw⟩
                   have hownw := own_below hown hbw (Nat.le_refl _)
                   have hq0 : w2.cell? ⟨w.heap.size, k * 3, none⟩ = some (.int .i64 0) := (hownw.cellAt (k * 3) (by omega)).trans (flatMap_get _ 3 (fun _ => rfl) _ k 0 _ hgt.out (by omega))
                   have hf0 := hownw.frozenAt (k * 3)
                   have hq1 : w2.cell? ⟨w.heap.size, k * 3 + 1, none⟩ = some (.int .i64 0) := (hownw.cellAt (k * 3 + 1) (by omega)).trans (flatMap_get _ 3 (fun _ => rfl) _ k 1 _ hgt.out (by omega))
                   have hf1 := hownw.frozenAt (k * 3 + 1)
                   have hq2 : w2.cell? ⟨w.heap.size, k * 3 + 2, none⟩ = some (.int .i64 0) := (hownw.cellAt (k * 3 + 2) (by omega)).trans (flatMap_get _ 3 (fun _ => rfl) _ k 2 _ hgt.out (by omega))
                   have hf2 := hownw.frozenAt (k * 3 + 2))
      have hs0 := hownw.stored (k * 3) (.int .i64 z1.a)
      have hs1 := hs0.1.stored (k * 3 + 1) (.int .i64 z1.b)
      have hs2 := hs1.1.stored (k * 3 + 2) (.int .i64 z1.c)

      have hfin := cp_set (⟨0, 0, 0⟩ : T3) xs k z1 Z1.out
      have hbb := hb.trans (hbw.mono hb.size)
      go_roundg (xs.length - (k + 1))
      case measure => have := hg.out; omega
      case rel =>
        refine ⟨k + 1, by omega, rfl, by go_num, ((hbb.setCell (by simp) _).setCell (by simp) _).setCell (by simp) _, ?_⟩
        rw [← hfin]
        rw [← T3.store _ k z1 (by rw [hlen.out]; exact hlt)]
        exact hs2.1
    · go_wp2_with fail
      go_ret
      obtain rfl : k = xs.length := by omega
      rw [cp_full] at hown
      exact ⟨_, _, rfl, hown, hb⟩

set_option maxRecDepth 100000 in
set_option maxHeartbeats 1000000 in
theorem markChangeS_any (base : Nat) (xs : List T3) (A : Option Addr) (c : Nat) (k0 : Int) (w : World) (hx : xs.length ≤ 1048576) (hk0 : 0 ≤ k0) (hk1 : k0 ≤ 1099511627776)
    (hown0 : w.ownsRow base 35 3 (.slice A xs.length c) xs.length (xs.flatMap T3.cells)) :
    Calls Try.prog 77 #[.slice A xs.length c, .int .i64 k0] w fun e w' => e = .returned (.int .i64 (k0 + 3 * xs.length)) ∧
      w'.ownsRow base 35 3 (.slice A xs.length c) xs.length ((marks (mk3 k0) xs.length).flatMap T3.cells) ∧ w.grownBy w' (Value.slice A xs.length c).ownBlock := by
  have hob := own_block hown0
  go_enter Try.func77, Try.ntmps77
  go_wp2_with fail
  go_loopg [1, 5] xs.length (fun g kk i wr => ∃ k : Nat, k ≤ xs.length ∧ Hid (g = xs.length - k) ∧ i = .int .i64 k ∧ kk = .int .i64 (k0 + 3 * k) ∧ w.grownBy wr (Value.slice A xs.length c).ownBlock ∧
    wr.ownsRow base 35 3 (.slice A xs.length c) xs.length ((mix (mk3 k0) xs k).flatMap T3.cells))
  case atStart => exact ⟨0, by omega, by simp [Hid], rfl, by simp, World.grownBy.refl _ _, by rw [mix_zero]; exact hown0⟩
  case round =>
    obtain ⟨k, hk, hg, rfl, rfl, hb, hown⟩ := hrel
    clear hown0
    by_cases hlt : k < xs.length
    · obtain ⟨g0, rfl, _, _⟩ : ∃ g, A = some ⟨g, 0, none⟩ ∧ base ≤ g ∧ g < w.heap.size := by
        rcases hob with ⟨_, h, _⟩ | h
        · omega
        · exact h
      clear hob
      have hlen := hide (mix_len (mk3 k0) xs k (by omega))
      have hgt := hide (mix_get (mk3 k0) xs k hlt)
      have hq0 : ∃ u, wr.cell? ⟨g0, k * 3, none⟩ = some (.int .i64 u) := ⟨_, (hown.cellAt (k * 3) (by omega)).trans (flatMap_get _ 3 (fun _ => rfl) _ k 0 _ hgt.out (by omega))⟩
      obtain ⟨u0, hq0⟩ := hq0
      have hf0 := hown.frozenAt (k * 3)
      have hq1 : ∃ u, wr.cell? ⟨g0, k * 3 + 1, none⟩ = some (.int .i64 u) := ⟨_, (hown.cellAt (k * 3 + 1) (by omega)).trans (flatMap_get _ 3 (fun _ => rfl) _ k 1 _ hgt.out (by omega))⟩
      obtain ⟨u1, hq1⟩ := hq1
      have hf1 := hown.frozenAt (k * 3 + 1)
      have hq2 : ∃ u, wr.cell? ⟨g0, k * 3 + 2, none⟩ = some (.int .i64 u) := ⟨_, (hown.cellAt (k * 3 + 2) (by omega)).trans (flatMap_get _ 3 (fun _ => rfl) _ k 2 _ hgt.out (by omega))⟩
      obtain ⟨u2, hq2⟩ := hq2
      have hf2 := hown.frozenAt (k * 3 + 2)
      have hs0 := hown.stored (k * 3) (.int .i64 (mk3 k0 k).a)
      have hs1 := hs0.1.stored (k * 3 + 1) (.int .i64 (mk3 k0 k).b)
      have hs2 := hs1.1.stored (k * 3 + 2) (.int .i64 (mk3 k0 k).c)
      have hfin := mix_set (mk3 k0) xs k hlt
      have hend : wr.grownBy (((wr.setCell ⟨g0, k * 3, none⟩ (.int .i64 (mk3 k0 k).a)).setCell ⟨g0, k * 3 + 1, none⟩ (.int .i64 (mk3 k0 k).b)).setCell ⟨g0, k * 3 + 2, none⟩ (.int .i64 (mk3 k0 k).c)) (some g0) ∧ (((wr.setCell ⟨g0, k * 3, none⟩ (.int .i64 (mk3 k0 k).a)).setCell ⟨g0, k * 3 + 1, none⟩ (.int .i64 (mk3 k0 k).b)).setCell ⟨g0, k * 3 + 2, none⟩ (.int .i64 (mk3 k0 k).c)).ownsRow base 35 3 (.slice (some ⟨g0, 0, none⟩) xs.length c) xs.length ((mix (mk3 k0) xs (k + 1)).flatMap T3.cells) := by
        refine ⟨(gtrans (gtrans hs0.2 hs1.2) hs2.2), ?_⟩
        rw [← hfin, ← T3.store _ k (mk3 k0 k) (by rw [hlen.out]; exact hlt)]
        exact hs2.1
      have HEND := hide hend
      clear hs0 hs1 hs2
      clear hend hfin
      go_wp2_with fail
      go_roundg (xs.length - (k + 1))
      case measure => have := hg.out; omega
      case rel =>
        refine ⟨k + 1, by omega, rfl, by go_num, ?_, ?_⟩
        · congr 1; omega
        · have h := HEND.out
          simp only [mk3] at h
          exact ⟨gtrans hb h.1, h.2⟩
    · go_wp2_with fail
      go_ret
      obtain rfl : k = xs.length := by omega
      rw [mix_full] at hown
      exact ⟨rfl, hown, hb⟩

set_option maxRecDepth 100000 in
set_option maxHeartbeats 1000000 in
theorem markChangeS_nil (A : Option Addr) (c : Nat) (k0 : Int) (w : World) (hk0 : 0 ≤ k0) (hk1 : k0 ≤ 1099511627776) :
    Calls Try.prog 77 #[.slice A 0 c, .int .i64 k0] w fun e w' => e = .returned (.int .i64 k0) ∧ w = w' := by
  go_enter Try.func77, Try.ntmps77
  go_wp2_with fail
  refine wp_loop_rounds 1 ?_
  rw [rounds_succ]
  go_wp2_with fail
  go_ret
  exact ⟨rfl, rfl⟩

set_option maxRecDepth 100000 in
set_option maxHeartbeats 1000000 in
theorem heldChangeS_any (n : Nat) (A : Option Addr) (c : Nat) (k0 : Int) (w : World) (hx : n ≤ 1048576) (hk0 : 0 ≤ k0) (hk1 : k0 ≤ 1099511627776)
    (h1 : Rd3 w w.heap.size A (marks (mk3 k0) n)) :
    Calls Try.prog 79 #[.slice A n c, .int .i64 k0] w fun e w' => e = .returned (.int .i64 (k0 + 3 * n)) ∧ Below w.heap.size w w' := by
  have HX := hide h1; clear h1
  go_enter Try.func79, Try.ntmps79
  go_wp2_with fail
  go_loopg [1, 5] n (fun g kk i wr => ∃ k : Nat, k ≤ n ∧ Hid (g = n - k) ∧ i = .int .i64 k ∧ kk = .int .i64 (k0 + 3 * k) ∧ Below w.heap.size w wr)
  case atStart => exact ⟨0, by omega, by simp [Hid], rfl, by simp, Below.refl _ _⟩
  case round =>
    obtain ⟨k, hk, hg, rfl, rfl, hb⟩ := hrel
    by_cases hlt : k < n
    · obtain ⟨b1, o1, z1, rfl, _, hz1, hc1a, hc1b, hc1c⟩ := (HX.out.below hb).at_ (k := k) (by rw [marks_len]; exact hlt)
      rw [marks_get _ _ _ hlt] at hz1
      obtain rfl : mk3 k0 k = z1 := by injection hz1
      clear hz1
      simp only [mk3] at hc1a hc1b hc1c
      have hB0 : ((k0 + 3 * (k : Int)) != (k0 + 3 * (k : Int))) = false := by simp
      have hB1 : ((k0 + 3 * (k : Int) + 1) != (k0 + 3 * (k : Int) + 1)) = false := by simp
      have hB2 : ((k0 + 3 * (k : Int) + 1 + 1) != (k0 + 3 * (k : Int) + 1 + 1)) = false := by simp
      go_wp2_with fail
      go_roundg (n - (k + 1))
      case measure => have := hg.out; omega
      case rel => exact ⟨k + 1, by omega, rfl, by go_num, by congr 1; omega, hb⟩
    · go_wp2_with fail
      go_ret
      obtain rfl : k = n := by omega
      exact ⟨rfl, hb⟩



set_option maxRecDepth 100000 in
set_option maxHeartbeats 1000000 in
theorem indexFuncRide_any (p : T4 → Bool) (F : FuncId) (cap : Array Value) (xs : List T4) (A : Option Addr) (c : Nat) (w : World) (hx : xs.length ≤ 9223372036854775807)
    (hcf : ∀ args w, (callFunc F args).run Try.prog w = .ok (.enter F args) w) (h1 : Rd4 w w.heap.size A xs)
    (hp : ∀ z W, Below w.heap.size w W → Calls Try.prog F (#[.agg #[.int .i64 z.a, .int .i64 z.b, .int .i64 z.c, .int .i64 z.d]] ++ cap) W fun e w' => e = .returned (.bool (p z)) ∧ Below W.heap.size W w') :
    Calls Try.prog 172 #[.slice A xs.length c, .func (.func F) #[] cap] w fun e w' => e = .returned (.int .i64 (firstI p xs 0)) ∧ Below w.heap.size w w' := by
  have HP := hide hp; clear hp
  go_enter Try.func172, Try.ntmps172
  go_wp2_with fail
  go_loopg [8] xs.length (fun g i wr => ∃ k : Nat, k ≤ xs.length ∧ Hid (g = xs.length - k) ∧ i = .int .i64 k ∧ Below w.heap.size w wr ∧ Hid (firstI p xs 0 = firstI p (xs.drop k) k))
  case atStart => exact ⟨0, by omega, by simp [Hid], rfl, Below.refl _ _, hide (by simp)⟩
  case round =>
    obtain ⟨k, hk, HG, rfl, hb, HE⟩ := hrel
    by_cases hlt : k < xs.length
    · obtain ⟨b, o, z, rfl, _, hz, hca, hcb, hcc, hcd⟩ := (h1.below hb).at_ hlt
      have Z := hide hz; clear hz h1
      have HQ := HP.out z wr hb
      have h := HE.out
      rw [drop_cons Z.out] at h
      cases hpz : p z
      · rw [hpz] at HQ
        have h' := hide (show firstI p xs 0 = firstI p (xs.drop (k + 1)) (k + 1) by simpa [firstI, hpz] using h)
        have HQ' := hide HQ
        clear h HQ hpz HE
        go_wp2_with fail
        refine HQ'.out.mono ?_
        rintro e w1 ⟨rfl, hb1⟩
        go_wp2_with fail
        go_roundg (xs.length - (k + 1))
        case measure => have := HG.out; omega
        case rel => exact ⟨k + 1, by omega, rfl, by go_num, hb.trans (hb1.mono hb.size), h'⟩
      · rw [hpz] at HQ
        have h' := hide (show firstI p xs 0 = k by simpa [firstI, hpz] using h)
        have HQ' := hide HQ
        clear h HQ hpz HE
        go_wp2_with fail
        refine HQ'.out.mono ?_
        rintro e w1 ⟨rfl, hb1⟩
        go_wp2_with fail
        go_ret
        exact ⟨ret_i h'.out.symm, hb.trans (hb1.mono hb.size)⟩
    · go_wp2_with fail
      go_ret
      refine ⟨ret_i ?_, hb⟩
      have h := HE.out
      rw [List.drop_eq_nil_of_le (by omega)] at h
      rw [h]; rfl

set_option maxRecDepth 100000 in
set_option maxHeartbeats 1000000 in
theorem containsFuncRide_any (p : T4 → Bool) (F : FuncId) (cap : Array Value) (xs : List T4) (A : Option Addr) (c : Nat) (w : World) (hx : xs.length ≤ 9223372036854775807)
    (hcf : ∀ args w, (callFunc F args).run Try.prog w = .ok (.enter F args) w) (h1 : Rd4 w w.heap.size A xs)
    (hp : ∀ z W, Below w.heap.size w W → Calls Try.prog F (#[.agg #[.int .i64 z.a, .int .i64 z.b, .int .i64 z.c, .int .i64 z.d]] ++ cap) W fun e w' => e = .returned (.bool (p z)) ∧ Below W.heap.size W w') :
    Calls Try.prog 158 #[.slice A xs.length c, .func (.func F) #[] cap] w fun e w' => e = .returned (.bool (xs.any p)) ∧ Below w.heap.size w w' := by
  have HC := hide (indexFuncRide_any p F cap xs A c w hx hcf h1 hp)
  clear hp
  have HE := hide (firstI_ge p xs 0)
  go_enter Try.func158, Try.ntmps158
  go_wp2_with fail
  refine HC.out.mono ?_
  rintro e w1 ⟨rfl, hb⟩
  go_wp2_with fail
  go_ret
  exact ⟨ret_b HE.out, hb⟩



end Go.Proofs.Ytlkccijlbeibjaa
