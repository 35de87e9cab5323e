/-
  Networks, plain laws: ways, least lengths by rounds of relaxing, and what they say of ways.
  Contracts of the laws' own helpers over slices of records: copies, comparisons, sizes, marks. Printed by gen_rec.py.
  Contracts of small functions: the range tests, the copies and comparisons of slices of numbers.
  Contracts of slices.Equal and slices.Clone at the program's element types. Printed by gen_lib.py.
  The words of the exact laws: 'R': a value reads as x; 'O': it is memory of the law's own, in blocks lo .. hi. The helpers' contracts in these words. Printed by gen_law.py.
  Contracts: a stock is valid, in the program and in the reference.
-/
import Derived.Test.YtaajkmjilcamgaaGreatDoorQWays0
import Derived.Test.YtaajkmjilcamgaaGreatDoorProg
import Derived.WalkKit
import Derived.BigQuiet
import Derived.Deep.QuietTactic
import Derived.Deep.LoopGhost
import Derived.StillTailTactics
import Derived.Lib.SliceRun
import Derived.Deep.DeepMust
namespace Go.Proofs.YtaajkmjilcamgaaGreatDoor
open Go.RowKit

/-- Tubes: from a, to b, c long. A way avoids the tube 'wo'. -/
def wk (tb : List T3) (wo : Int) : List Int → Int → Int → Prop
  | [], v, u => v = u
  | i :: r, v, u => 0 ≤ i ∧ i ≠ wo ∧ ∃ t, tb[i.toNat]? = some t ∧ t.a = v ∧ wk tb wo r t.b u
def tubeAt (tb : List T3) (i : Int) : T3 := (tb[i.toNat]?).getD ⟨0, 0, 0⟩
def lenW (tb : List T3) : List Int → Int
  | [] => 0
  | i :: r => (tubeAt tb i).c + lenW tb r
def OkTubes (n : Nat) (tb : List T3) : Prop := ∀ t ∈ tb, (0 ≤ t.a ∧ t.a < n) ∧ (0 ≤ t.b ∧ t.b < n) ∧ (1 ≤ t.c ∧ t.c ≤ 2000)
theorem tubeAt_get {tb : List T3} {i : Int} {t : T3} (h : tb[i.toNat]? = some t) : tubeAt tb i = t := by simp [tubeAt, h]
theorem wk_append {tb : List T3} {wo : Int} : ∀ {p q : List Int} {v u : Int}, wk tb wo (p ++ q) v u ↔ ∃ x, wk tb wo p v x ∧ wk tb wo q x u := by
  intro p
  induction p with
  | nil => intro q v u; constructor
           · intro h; exact ⟨v, rfl, h⟩
           · rintro ⟨x, rfl, h⟩; exact h
  | cons i p ih =>
    intro q v u
    rw [List.cons_append]
    constructor
    · rintro ⟨h0, h1, t, ht, ha, h⟩
      obtain ⟨x, h2, h3⟩ := ih.1 h
      exact ⟨x, ⟨h0, h1, t, ht, ha, h2⟩, h3⟩
    · rintro ⟨x, ⟨h0, h1, t, ht, ha, h2⟩, h3⟩
      exact ⟨h0, h1, t, ht, ha, ih.2 ⟨x, h2, h3⟩⟩
theorem lenW_append (tb : List T3) : ∀ p q : List Int, lenW tb (p ++ q) = lenW tb p + lenW tb q := by
  intro p
  induction p with
  | nil => intro q; simp [lenW]
  | cons i p ih => intro q; rw [List.cons_append, lenW, lenW, ih]; omega
theorem lenW_nonneg {n : Nat} {tb : List T3} (hok : OkTubes n tb) {wo : Int} : ∀ {p : List Int} {v u : Int}, wk tb wo p v u → 0 ≤ lenW tb p := by
  intro p
  induction p with
  | nil => intro v u _; exact Int.le_refl _
  | cons i p ih =>
    rintro v u ⟨h0, h1, t, ht, ha, h⟩
    have h2 := ih h
    have h3 := (hok t (List.mem_of_getElem? ht)).2.2
    rw [lenW, tubeAt_get ht]; omega
/-- The stations at which the tubes of a way begin. -/
def begins (tb : List T3) (p : List Int) : List Int := p.map fun i => (tubeAt tb i).a
theorem begins_in {n : Nat} {tb : List T3} (hok : OkTubes n tb) {wo : Int} : ∀ {p : List Int} {v u : Int}, wk tb wo p v u → ∀ x ∈ begins tb p, 0 ≤ x ∧ x < n := by
  intro p
  induction p with
  | nil => intro v u _ x hx; cases hx
  | cons i p ih =>
    rintro v u ⟨h0, h1, t, ht, ha, h⟩ x hx
    rw [begins, List.map_cons, tubeAt_get ht] at hx
    rcases List.mem_cons.1 hx with rfl | hx
    · exact (hok t (List.mem_of_getElem? ht)).1
    · exact ih h x hx
theorem wk_start {tb : List T3} {wo : Int} {p : List Int} {v u i : Int} (h : wk tb wo (i :: p) v u) : v = (tubeAt tb i).a := by
  obtain ⟨_, _, t, ht, ha, _⟩ := h
  rw [tubeAt_get ht, ha]
theorem range_nodup (n : Nat) : ((List.range n).map fun (j : Nat) => (j : Int)).Nodup :=
  List.pairwise_map.2 ((List.nodup_range (n := n)).imp fun {a b} hab e => hab (by omega))
theorem nodup_len {n : Nat} {xs : List Int} (h : xs.Nodup) (hb : ∀ x ∈ xs, 0 ≤ x ∧ x < n) : xs.length ≤ n := by
  have := h.length_le_of_subset (l₂ := (List.range n).map fun (j : Nat) => (j : Int)) fun z hz => by
    have := hb z hz
    exact List.mem_map.2 ⟨z.toNat, List.mem_range.2 (by omega), by omega⟩
  simpa using this
/-- A list of more than n of n things has one of them twice. -/
theorem twice {n : Nat} {xs : List Int} (hl : n < xs.length) (hb : ∀ x ∈ xs, 0 ≤ x ∧ x < n) : ∃ (p q r : List Int) (a : Int), xs = p ++ a :: q ++ a :: r := by
  have h : ¬ xs.Nodup := fun h => by have := nodup_len h hb; omega
  clear hl
  induction xs with
  | nil => exact absurd List.nodup_nil h
  | cons x xs ih =>
    by_cases hm : x ∈ xs
    · obtain ⟨q, r, e⟩ := List.append_of_mem hm
      exact ⟨[], q, r, x, by rw [e]; rfl⟩
    · have h' : ¬ xs.Nodup := fun h2 => h (List.nodup_cons.2 ⟨hm, h2⟩)
      obtain ⟨p, q, r, a, e⟩ := ih (fun z hz => hb z (List.mem_cons_of_mem _ hz)) h'
      exact ⟨x :: p, q, r, a, by rw [e]; rfl⟩
/-- A way of more than n tubes can be made shorter. -/
theorem cut_way {n : Nat} {tb : List T3} (hok : OkTubes n tb) {wo : Int} {p : List Int} {v u : Int} (h : wk tb wo p v u) (hl : n < p.length) : ∃ p', wk tb wo p' v u ∧ p'.length < p.length ∧ lenW tb p' ≤ lenW tb p := by
  obtain ⟨b1, b2, b3, a, e⟩ := twice (xs := begins tb p) (by simpa [begins] using hl) (begins_in hok h)
  unfold begins at e
  rw [List.append_assoc] at e
  obtain ⟨x, y, rfl, hx, hy⟩ := List.map_eq_append_iff.1 e
  rw [List.cons_append] at hy
  obtain ⟨i, z, rfl, hi, hz⟩ := List.map_eq_cons_iff.1 hy
  obtain ⟨z1, z2, rfl, hz1, hz2⟩ := List.map_eq_append_iff.1 hz
  obtain ⟨j, z3, rfl, hj, _⟩ := List.map_eq_cons_iff.1 hz2
  obtain ⟨s, w1, w2⟩ := wk_append.1 h
  have hs := wk_start w2
  have w2' : wk tb wo ((i :: z1) ++ (j :: z3)) s u := w2
  obtain ⟨s', w3, w4⟩ := wk_append.1 w2'
  have hs' := wk_start w4
  have hss : s = s' := by rw [hs, hs', hi, hj]
  subst hss
  refine ⟨x ++ j :: z3, wk_append.2 ⟨s, w1, w4⟩, by simp; omega, ?_⟩
  have := lenW_nonneg hok w3
  rw [lenW_append, lenW_append, show i :: (z1 ++ j :: z3) = (i :: z1) ++ (j :: z3) from rfl, lenW_append]
  omega
theorem short_way {n : Nat} {tb : List T3} (hok : OkTubes n tb) {wo : Int} : ∀ (k : Nat) {p : List Int} {v u : Int}, p.length ≤ k → wk tb wo p v u → ∃ p', wk tb wo p' v u ∧ p'.length ≤ n ∧ lenW tb p' ≤ lenW tb p := by
  intro k
  induction k with
  | zero => intro p v u hk h; exact ⟨p, h, by omega, Int.le_refl _⟩
  | succ k ih =>
    intro p v u hk h
    by_cases hn : p.length ≤ n
    · exact ⟨p, h, hn, Int.le_refl _⟩
    · obtain ⟨p1, h1, h2, h3⟩ := cut_way hok h (by omega)
      obtain ⟨p2, h4, h5, h6⟩ := ih (by omega) h1
      exact ⟨p2, h4, h5, by omega⟩
/-! ### relaxing -/
def dAt (d : List Int) (v : Int) : Int := (d[v.toNat]?).getD (-1)
def relax1 (wo : Int) (i : Int) (t : T3) (d : List Int) : List Int :=
  if i = wo ∨ dAt d t.b < 0 then d else if dAt d t.a < 0 ∨ dAt d t.b + t.c < dAt d t.a then d.set t.a.toNat (dAt d t.b + t.c) else d
def relaxGo (wo : Int) : List T3 → Int → List Int → List Int
  | [], _, d => d
  | t :: r, i, d => relaxGo wo r (i + 1) (relax1 wo i t d)
def rounds (wo : Int) (tb : List T3) : Nat → List Int → List Int
  | 0, d => d
  | k + 1, d => rounds wo tb k (relaxGo wo tb 0 d)
def dist0 (n : Nat) (dst : Int) : List Int := (List.replicate n (-1)).set dst.toNat 0
def dist (n : Nat) (tb : List T3) (dst wo : Int) : List Int := rounds wo tb n (dist0 n dst)
theorem relax1_len (wo i : Int) (t : T3) (d : List Int) : (relax1 wo i t d).length = d.length := by
  unfold relax1; split
  · rfl
  · split
    · exact List.length_set ..
    · rfl
theorem relaxGo_len (wo : Int) : ∀ (tb : List T3) (i : Int) (d : List Int), (relaxGo wo tb i d).length = d.length := by
  intro tb
  induction tb with
  | nil => intro i d; rfl
  | cons t r ih => intro i d; rw [relaxGo, ih, relax1_len]
theorem rounds_len (wo : Int) (tb : List T3) : ∀ (k : Nat) (d : List Int), (rounds wo tb k d).length = d.length := by
  intro k
  induction k with
  | zero => intro d; rfl
  | succ k ih => intro d; rw [rounds, ih, relaxGo_len]
theorem dist_len (n : Nat) (tb : List T3) (dst wo : Int) : (dist n tb dst wo).length = n := by unfold dist dist0; rw [rounds_len, List.length_set, List.length_replicate]
theorem dAt_set {d : List Int} {v u x : Int} (hv : 0 ≤ v) (hu : 0 ≤ u) (hl : u < d.length) : dAt (d.set u.toNat x) v = if v = u then x else dAt d v := by
  unfold dAt
  by_cases h : v = u
  · subst h
    rw [if_pos rfl, List.getElem?_set_self (by omega)]; rfl
  · rw [if_neg h, List.getElem?_set_ne (by omega)]
theorem dAt_neg {d : List Int} {v : Int} (h : (d.length : Int) ≤ v) (hv : 0 ≤ v) : dAt d v = -1 := by
  unfold dAt; rw [List.getElem?_eq_none (by omega)]; rfl
/-- Values are -1 or the lengths of ways. -/
def Sound (tb : List T3) (wo dst : Int) (d : List Int) : Prop := ∀ v, 0 ≤ v → (dAt d v = -1 ∨ (0 ≤ dAt d v ∧ ∃ p, wk tb wo p v dst ∧ lenW tb p = dAt d v))
theorem relax1_sound {n : Nat} {tb : List T3} (hok : OkTubes n tb) {wo dst i : Int} {t : T3} {d : List Int} (hd : d.length = n) (hi : 0 ≤ i) (ht : tb[i.toNat]? = some t) (h : Sound tb wo dst d) : Sound tb wo dst (relax1 wo i t d) := by
  obtain ⟨⟨ha0, han⟩, ⟨hb0, hbn⟩, hc⟩ := hok t (List.mem_of_getElem? ht)
  unfold relax1
  split
  · exact h
  · rename_i h1
    split
    · intro v hv
      rw [dAt_set hv ha0 (by omega)]
      split
      · rename_i hva
        subst hva
        rcases h t.b hb0 with h3 | ⟨h3, p, h4, h5⟩
        · omega
        · refine .inr ⟨by omega, i :: p, ⟨hi, fun e => h1 (.inl e), t, ht, rfl, h4⟩, ?_⟩
          rw [lenW, tubeAt_get ht, h5]; omega
      · exact h v hv
    · exact h
theorem relaxGo_sound {n : Nat} {tb : List T3} (hok : OkTubes n tb) {wo dst : Int} : ∀ (r : List T3) (k : Nat) (d : List Int), d.length = n → r = tb.drop k → Sound tb wo dst d → Sound tb wo dst (relaxGo wo r k d) := by
  intro r
  induction r with
  | nil => intro k d _ _ h; exact h
  | cons t r ih =>
    intro k d hd hr h
    have hk : tb[k]? = some t := by
      have := congrArg (·[0]?) hr
      simp only [List.getElem?_cons_zero, List.getElem?_drop, Nat.add_zero] at this
      exact this.symm
    rw [relaxGo, show (k : Int) + 1 = ((k + 1 : Nat) : Int) by omega]
    refine ih (k + 1) _ (by rw [relax1_len, hd]) ?_ (relax1_sound hok hd (by omega) (by simpa using hk) h)
    have := congrArg List.tail hr
    simpa using this
theorem rounds_sound {n : Nat} {tb : List T3} (hok : OkTubes n tb) {wo dst : Int} : ∀ (k : Nat) (d : List Int), d.length = n → Sound tb wo dst d → Sound tb wo dst (rounds wo tb k d) := by
  intro k
  induction k with
  | zero => intro d _ h; exact h
  | succ k ih => intro d hd h; rw [rounds]; exact ih _ (by rw [relaxGo_len, hd]) (relaxGo_sound hok tb 0 d hd rfl h)
theorem dist0_sound {n : Nat} {tb : List T3} {wo dst : Int} (h0 : 0 ≤ dst) (hn : dst < n) : Sound tb wo dst (dist0 n dst) := by
  intro v hv
  unfold dist0
  rw [dAt_set hv h0 (by simpa using hn)]
  split
  · rename_i h; subst h; exact .inr ⟨Int.le_refl _, [], rfl, rfl⟩
  · left
    unfold dAt
    rw [List.getElem?_replicate]
    split <;> rfl
theorem dist_sound {n : Nat} {tb : List T3} (hok : OkTubes n tb) {wo dst : Int} (h0 : 0 ≤ dst) (hn : dst < n) : Sound tb wo dst (dist n tb dst wo) :=
  rounds_sound hok n _ (by unfold dist0; simp) (dist0_sound h0 hn)
/-- One list of values is no worse than another. -/
def LeD (d e : List Int) : Prop := ∀ v, 0 ≤ v → 0 ≤ dAt e v → 0 ≤ dAt d v ∧ dAt d v ≤ dAt e v
theorem LeD.refl (d : List Int) : LeD d d := fun v _ h => ⟨h, Int.le_refl _⟩
theorem LeD.trans {a b c : List Int} (h : LeD a b) (k : LeD b c) : LeD a c := fun v hv hc => by
  have h1 := k v hv hc; have h2 := h v hv h1.1; omega
theorem relax1_le {n : Nat} {tb : List T3} (hok : OkTubes n tb) {wo i : Int} {t : T3} {d : List Int} (hd : d.length = n) (ht : t ∈ tb) : LeD (relax1 wo i t d) d := by
  obtain ⟨⟨ha0, han⟩, ⟨hb0, hbn⟩, hc⟩ := hok t ht
  unfold relax1
  split
  · exact LeD.refl _
  · split
    · intro v hv hdv
      rw [dAt_set hv ha0 (by omega)]
      split
      · rename_i h; subst h; omega
      · exact ⟨hdv, Int.le_refl _⟩
    · exact LeD.refl _
theorem relaxGo_le {n : Nat} {tb : List T3} (hok : OkTubes n tb) {wo : Int} : ∀ (r : List T3) (i : Int) (d : List Int), d.length = n → (∀ t ∈ r, t ∈ tb) → LeD (relaxGo wo r i d) d := by
  intro r
  induction r with
  | nil => intro i d _ _; exact LeD.refl _
  | cons t r ih =>
    intro i d hd hr
    rw [relaxGo]
    exact (ih (i + 1) _ (by rw [relax1_len, hd]) fun s hs => hr s (List.mem_cons_of_mem _ hs)).trans (relax1_le hok hd (hr t (List.mem_cons_self ..)))
/-- After a round each tube has been looked at. -/
theorem relax1_hit {n : Nat} {tb : List T3} (hok : OkTubes n tb) {wo i : Int} {t : T3} {d : List Int} (hd : d.length = n) (ht : t ∈ tb) (hi : i ≠ wo) (hb : 0 ≤ dAt d t.b) : 0 ≤ dAt (relax1 wo i t d) t.a ∧ dAt (relax1 wo i t d) t.a ≤ dAt d t.b + t.c := by
  obtain ⟨⟨ha0, han⟩, ⟨hb0, hbn⟩, hc⟩ := hok t ht
  unfold relax1
  rw [if_neg (by omega)]
  split
  · rw [dAt_set ha0 ha0 (by omega), if_pos rfl]; omega
  · omega
theorem relaxGo_hit {n : Nat} {tb : List T3} (hok : OkTubes n tb) {wo : Int} : ∀ (r : List T3) (i : Int) (d : List Int) (j : Nat) (t : T3), d.length = n → (∀ t ∈ r, t ∈ tb) → r[j]? = some t → i + j ≠ wo → 0 ≤ dAt d t.b → 0 ≤ dAt (relaxGo wo r i d) t.a ∧ dAt (relaxGo wo r i d) t.a ≤ dAt d t.b + t.c := by
  intro r
  induction r with
  | nil => intro i d j t _ _ h; simp at h
  | cons s r ih =>
    intro i d j t hd hr hj hi hb
    have hs := hr s (List.mem_cons_self ..)
    have hr' : ∀ t ∈ r, t ∈ tb := fun t ht => hr t (List.mem_cons_of_mem _ ht)
    have hd' : (relax1 wo i s d).length = n := by rw [relax1_len, hd]
    rw [relaxGo]
    cases j with
    | zero =>
      simp at hj; subst hj
      obtain ⟨h1, h2⟩ := relax1_hit (wo := wo) (i := i) hok hd hs (by simpa using hi) hb
      have h3 := relaxGo_le (wo := wo) hok r (i + 1) _ hd' hr' s.a (hok s hs).1.1 h1
      omega
    | succ j =>
      have ht : t ∈ tb := hr' t (List.mem_of_getElem? (by simpa using hj))
      have h1 := relax1_le (wo := wo) (i := i) hok hd hs t.b (hok t ht).2.1.1 hb
      have := ih (i + 1) _ j t hd' hr' (by simpa using hj) (by omega) h1.1
      omega
theorem rounds_le {n : Nat} {tb : List T3} (hok : OkTubes n tb) {wo : Int} : ∀ (k : Nat) (d : List Int), d.length = n → LeD (rounds wo tb k d) d := by
  intro k
  induction k with
  | zero => intro d _; exact LeD.refl _
  | succ k ih => intro d hd; rw [rounds]; exact (ih _ (by rw [relaxGo_len, hd])).trans (relaxGo_le hok tb 0 d hd fun _ h => h)
theorem rounds_snoc (wo : Int) (tb : List T3) : ∀ (k : Nat) (d : List Int), rounds wo tb (k + 1) d = relaxGo wo tb 0 (rounds wo tb k d) := by
  intro k
  induction k with
  | zero => intro d; rfl
  | succ k ih => intro d; rw [rounds, ih]; rfl
/-- After k rounds: no way of at most k tubes is shorter. -/
theorem rounds_opt {n : Nat} {tb : List T3} (hok : OkTubes n tb) {wo dst : Int} (h0 : 0 ≤ dst) (hn : dst < n) : ∀ (k : Nat) (p : List Int) (v : Int), p.length ≤ k → 0 ≤ v → wk tb wo p v dst → 0 ≤ dAt (rounds wo tb k (dist0 n dst)) v ∧ dAt (rounds wo tb k (dist0 n dst)) v ≤ lenW tb p := by
  intro k
  have hd0 : (dist0 n dst).length = n := by unfold dist0; simp
  have hbase : 0 ≤ dAt (dist0 n dst) dst ∧ dAt (dist0 n dst) dst ≤ 0 := by
    unfold dist0; rw [dAt_set h0 h0 (by simpa using hn), if_pos rfl]; omega
  induction k with
  | zero =>
    intro p v hl hv hw
    obtain rfl : p = [] := List.eq_nil_of_length_eq_zero (by omega)
    obtain rfl : v = dst := hw
    exact hbase
  | succ k ih =>
    intro p v hl hv hw
    have hdk : (rounds wo tb k (dist0 n dst)).length = n := by rw [rounds_len, hd0]
    match p, hl, hw with
    | [], _, hw =>
      obtain rfl : v = dst := hw
      have := rounds_le (wo := wo) hok (k + 1) (dist0 n v) hd0 v hv hbase.1
      simp only [lenW]; omega
    | i :: p, hl, ⟨hi0, hiw, t, ht, ha, hw'⟩ =>
      have htm := List.mem_of_getElem? ht
      have h1 := ih p t.b (by simpa using hl) (hok t htm).2.1.1 hw'
      have h2 := relaxGo_hit (wo := wo) hok tb 0 _ i.toNat t hdk (fun _ h => h) ht (by omega) h1.1
      rw [rounds_snoc, lenW, tubeAt_get ht, ← ha]
      omega
/-- The least lengths are the least lengths of ways. -/
theorem dist_opt {n : Nat} {tb : List T3} (hok : OkTubes n tb) {wo dst : Int} (h0 : 0 ≤ dst) (hn : dst < n) {p : List Int} {v : Int} (hv : 0 ≤ v) (hw : wk tb wo p v dst) : 0 ≤ dAt (dist n tb dst wo) v ∧ dAt (dist n tb dst wo) v ≤ lenW tb p := by
  obtain ⟨p', h1, h2, h3⟩ := short_way hok p.length (Nat.le_refl _) hw
  have := rounds_opt hok h0 hn n p' v h2 hv h1
  unfold dist; omega
theorem dist_way {n : Nat} {tb : List T3} (hok : OkTubes n tb) {wo dst : Int} (h0 : 0 ≤ dst) (hn : dst < n) {v : Int} (hv : 0 ≤ v) (hd : 0 ≤ dAt (dist n tb dst wo) v) : ∃ p, wk tb wo p v dst ∧ lenW tb p = dAt (dist n tb dst wo) v := by
  rcases dist_sound hok (wo := wo) h0 hn v hv with h | ⟨_, h⟩
  · omega
  · exact h
theorem dist_iff {n : Nat} {tb : List T3} (hok : OkTubes n tb) {wo dst : Int} (h0 : 0 ≤ dst) (hn : dst < n) {v : Int} (hv : 0 ≤ v) : 0 ≤ dAt (dist n tb dst wo) v ↔ ∃ p, wk tb wo p v dst :=
  ⟨fun h => by obtain ⟨p, hp, _⟩ := dist_way hok h0 hn hv h; exact ⟨p, hp⟩, fun ⟨p, hp⟩ => (dist_opt hok h0 hn hv hp).1⟩
theorem dist_neg {n : Nat} {tb : List T3} (hok : OkTubes n tb) {wo dst : Int} (h0 : 0 ≤ dst) (hn : dst < n) {v : Int} (hv : 0 ≤ v) (h : dAt (dist n tb dst wo) v < 0) : dAt (dist n tb dst wo) v = -1 := by
  rcases dist_sound hok (wo := wo) h0 hn v hv with h | ⟨h, _⟩ <;> omega
/-- Values stay within the lengths of ways of n tubes. -/
theorem dist_bd {n : Nat} {tb : List T3} (hok : OkTubes n tb) {wo : Int} : ∀ {p : List Int} {v u : Int}, wk tb wo p v u → lenW tb p ≤ 2000 * p.length := by
  intro p
  induction p with
  | nil => intro v u _; simp [lenW]
  | cons i p ih =>
    rintro v u ⟨h0, h1, t, ht, ha, h⟩
    have h2 := ih h
    have h3 := (hok t (List.mem_of_getElem? ht)).2.2
    rw [lenW, tubeAt_get ht, List.length_cons]; omega
end Go.Proofs.YtaajkmjilcamgaaGreatDoor
namespace Go.Proofs.YtaajkmjilcamgaaGreatDoor
open Go.RowKit



set_option maxRecDepth 100000 in
set_option maxHeartbeats 1000000 in
theorem indexFuncTube_any (p : T3 → Bool) (F : FuncId) (cap : Array Value) (xs : List T3) (A : Option Addr) (c : Nat) (w : World) (hx : xs.length ≤ 9223372036854775807)
    (hcf : ∀ args w, (callFunc F args).run Tryz.prog w = .ok (.enter F args) w) (h1 : Rd3 w w.heap.size A xs)
    (hp : ∀ z W, Below w.heap.size w W → Calls Tryz.prog F (#[.agg #[.int .i64 z.a, .int .i64 z.b, .int .i64 z.c]] ++ cap) W fun e w' => e = .returned (.bool (p z)) ∧ Below W.heap.size W w') :
    Calls Tryz.prog 106 #[.slice A xs.length c, .func (.func F) #[] cap] w fun e w' => e = .returned (.int .i64 (firstI p xs 0)) ∧ Below w.heap.size w w' := by
  have HP := hide hp; clear hp
  go_enter Tryz.func106, Tryz.ntmps106
  go_wp2_with fail
  go_loopg [8] xs.length (fun g i wr => ∃ k : Nat, k ≤ xs.length ∧ Hid (g = xs.length - k) ∧ i = .int .i64 k ∧ Below w.heap.size w wr ∧ Hid (firstI p xs 0 = firstI p (xs.drop k) k))
  case atStart => exact ⟨0, by omega, by simp [Hid], rfl, Below.refl _ _, hide (by simp)⟩
  case round =>
    obtain ⟨k, hk, HG, rfl, hb, HE⟩ := hrel
    by_cases hlt : k < xs.length
    · obtain ⟨b, o, z, rfl, _, hz, hca, hcb, hcc⟩ := (h1.below hb).at_ hlt
      have Z := hide hz; clear hz h1
      have HQ := HP.out z wr hb
      have h := HE.out
      rw [drop_cons Z.out] at h
      cases hpz : p z
      · rw [hpz] at HQ
        have h' := hide (show firstI p xs 0 = firstI p (xs.drop (k + 1)) (k + 1) by simpa [firstI, hpz] using h)
        have HQ' := hide HQ
        clear h HQ hpz HE
        go_wp2_with fail
        refine HQ'.out.mono ?_
        rintro e w1 ⟨rfl, hb1⟩
        go_wp2_with fail
        go_roundg (xs.length - (k + 1))
        case measure => have := HG.out; omega
        case rel => exact ⟨k + 1, by omega, rfl, by go_num, hb.trans (hb1.mono hb.size), h'⟩
      · rw [hpz] at HQ
        have h' := hide (show firstI p xs 0 = k by simpa [firstI, hpz] using h)
        have HQ' := hide HQ
        clear h HQ hpz HE
        go_wp2_with fail
        refine HQ'.out.mono ?_
        rintro e w1 ⟨rfl, hb1⟩
        go_wp2_with fail
        go_ret
        exact ⟨ret_i h'.out.symm, hb.trans (hb1.mono hb.size)⟩
    · go_wp2_with fail
      go_ret
      refine ⟨ret_i ?_, hb⟩
      have h := HE.out
      rw [List.drop_eq_nil_of_le (by omega)] at h
      rw [h]; rfl

set_option maxRecDepth 100000 in
set_option maxHeartbeats 1000000 in
theorem containsFuncTube_any (p : T3 → Bool) (F : FuncId) (cap : Array Value) (xs : List T3) (A : Option Addr) (c : Nat) (w : World) (hx : xs.length ≤ 9223372036854775807)
    (hcf : ∀ args w, (callFunc F args).run Tryz.prog w = .ok (.enter F args) w) (h1 : Rd3 w w.heap.size A xs)
    (hp : ∀ z W, Below w.heap.size w W → Calls Tryz.prog F (#[.agg #[.int .i64 z.a, .int .i64 z.b, .int .i64 z.c]] ++ cap) W fun e w' => e = .returned (.bool (p z)) ∧ Below W.heap.size W w') :
    Calls Tryz.prog 77 #[.slice A xs.length c, .func (.func F) #[] cap] w fun e w' => e = .returned (.bool (xs.any p)) ∧ Below w.heap.size w w' := by
  have HC := hide (indexFuncTube_any p F cap xs A c w hx hcf h1 hp)
  clear hp
  have HE := hide (firstI_ge p xs 0)
  go_enter Tryz.func77, Tryz.ntmps77
  go_wp2_with fail
  refine HC.out.mono ?_
  rintro e w1 ⟨rfl, hb⟩
  go_wp2_with fail
  go_ret
  exact ⟨ret_b HE.out, hb⟩






end Go.Proofs.YtaajkmjilcamgaaGreatDoor
namespace Go.Proofs.YtaajkmjilcamgaaGreatDoor
open Go.RowKit

theorem int64_info : (Tryz.prog.info? 2).map (fun i => (i.zero, i.size, i.bytes)) = some (some (.int .i64 0), 1, 8) := by kernel_rfl


/-! ### Range tests -/
set_option maxRecDepth 100000 in
set_option maxHeartbeats 1000000 in
theorem within_t (n lo hi : Int) (w : World) (h : lo ≤ n ∧ n ≤ hi) :
    Calls Tryz.prog 67 #[.int .i64 n, .int .i64 lo, .int .i64 hi] w fun e w' => e = .returned (.bool true) ∧ w = w' := by
  obtain ⟨h1, h2⟩ := h
  go_enter Tryz.func67, Tryz.ntmps67
  go_wp2
  go_ret
  exact ⟨rfl, rfl⟩
set_option maxRecDepth 100000 in
set_option maxHeartbeats 1000000 in
theorem within_f (n lo hi : Int) (w : World) (h : n < lo ∨ hi < n) :
    Calls Tryz.prog 67 #[.int .i64 n, .int .i64 lo, .int .i64 hi] w fun e w' => e = .returned (.bool false) ∧ w = w' := by
  by_cases h1 : lo ≤ n
  · have h2 : ¬ n ≤ hi := by omega
    clear h
    go_enter Tryz.func67, Tryz.ntmps67
    go_wp2
    go_ret
    exact ⟨rfl, rfl⟩
  · clear h
    go_enter Tryz.func67, Tryz.ntmps67
    go_wp2
    go_ret
    exact ⟨rfl, rfl⟩
theorem within_any (n lo hi : Int) (w : World) :
    Calls Tryz.prog 67 #[.int .i64 n, .int .i64 lo, .int .i64 hi] w fun e w' => e = .returned (.bool (inB lo hi n)) ∧ w = w' := by
  by_cases h : lo ≤ n ∧ n ≤ hi
  · rw [inB_t h]; exact within_t n lo hi w h
  · rw [inB_f (by omega)]; exact within_f n lo hi w (by omega)
set_option maxRecDepth 100000 in
set_option maxHeartbeats 1000000 in
theorem l00In_t (n lo hi : Int) (w : World) (h : lo ≤ n ∧ n ≤ hi) :
    Calls Tryz.prog 86 #[.int .i64 n, .int .i64 lo, .int .i64 hi] w fun e w' => e = .returned (.bool true) ∧ w = w' := by
  obtain ⟨h1, h2⟩ := h
  go_enter Tryz.func86, Tryz.ntmps86
  go_wp2
  go_ret
  exact ⟨rfl, rfl⟩
set_option maxRecDepth 100000 in
set_option maxHeartbeats 1000000 in
theorem l00In_f (n lo hi : Int) (w : World) (h : n < lo ∨ hi < n) :
    Calls Tryz.prog 86 #[.int .i64 n, .int .i64 lo, .int .i64 hi] w fun e w' => e = .returned (.bool false) ∧ w = w' := by
  by_cases h1 : lo ≤ n
  · have h2 : ¬ n ≤ hi := by omega
    clear h
    go_enter Tryz.func86, Tryz.ntmps86
    go_wp2
    go_ret
    exact ⟨rfl, rfl⟩
  · clear h
    go_enter Tryz.func86, Tryz.ntmps86
    go_wp2
    go_ret
    exact ⟨rfl, rfl⟩
theorem l00In_any (n lo hi : Int) (w : World) :
    Calls Tryz.prog 86 #[.int .i64 n, .int .i64 lo, .int .i64 hi] w fun e w' => e = .returned (.bool (inB lo hi n)) ∧ w = w' := by
  by_cases h : lo ≤ n ∧ n ≤ hi
  · rw [inB_t h]; exact l00In_t n lo hi w h
  · rw [inB_f (by omega)]; exact l00In_f n lo hi w (by omega)

/-! ### The laws' helpers over []int64 -/

/-! ### slices.IndexFunc over []int64 -/
set_option maxRecDepth 100000 in
set_option maxHeartbeats 1000000 in
theorem indexFuncI_any (p : Int → Bool) (F : FuncId) (cap : Array Value) (xs : List Int) (A : Option Addr) (c : Nat) (w : World) (hx : xs.length ≤ 9223372036854775807)
    (hcf : ∀ args w, (callFunc F args).run Tryz.prog w = .ok (.enter F args) w) (h1 : RdI w w.heap.size A xs)
    (hp : ∀ z W, Below w.heap.size w W → Calls Tryz.prog F (#[.int .i64 z] ++ cap) W fun e w' => e = .returned (.bool (p z)) ∧ Below W.heap.size W w') :
    Calls Tryz.prog 113 #[.slice A xs.length c, .func (.func F) #[] cap] w fun e w' => e = .returned (.int .i64 (firstI p xs 0)) ∧ Below w.heap.size w w' := by
  have HP := hide hp; clear hp
  go_enter Tryz.func113, Tryz.ntmps113
  go_wp2_with fail
  go_loopg [8] xs.length (fun g i wr => ∃ k : Nat, k ≤ xs.length ∧ g = xs.length - k ∧ i = .int .i64 k ∧ Below w.heap.size w wr ∧ Hid (firstI p xs 0 = firstI p (xs.drop k) k))
  case atStart => exact ⟨0, by omega, by omega, rfl, Below.refl _ _, hide (by simp)⟩
  case round =>
    obtain ⟨k, hk, hg, rfl, hb, HE⟩ := hrel
    have HG := hide hg; clear hg
    by_cases hlt : k < xs.length
    · obtain ⟨b, o, z, rfl, _, hz, hc⟩ := (h1.below hb).at_ hlt
      have Z := hide hz; clear hz h1
      have HQ := HP.out z wr hb
      have h := HE.out
      rw [drop_cons Z.out] at h
      cases hpz : p z
      · rw [hpz] at HQ
        have h' := hide (show firstI p xs 0 = firstI p (xs.drop (k + 1)) (k + 1) by simpa [firstI, hpz] using h)
        have HQ' := hide HQ
        clear h HQ hpz HE
        go_wp2_with fail
        refine HQ'.out.mono ?_
        rintro e w1 ⟨rfl, hb1⟩
        go_wp2_with fail
        go_roundg (xs.length - (k + 1))
        case measure => have := HG.out; omega
        case rel => exact ⟨k + 1, by omega, rfl, by go_num, hb.trans (hb1.mono hb.size), h'⟩
      · rw [hpz] at HQ
        have h' := hide (show firstI p xs 0 = k by simpa [firstI, hpz] using h)
        have HQ' := hide HQ
        clear h HQ hpz HE
        go_wp2_with fail
        refine HQ'.out.mono ?_
        rintro e w1 ⟨rfl, hb1⟩
        go_wp2_with fail
        go_ret
        exact ⟨ret_i h'.out.symm, hb.trans (hb1.mono hb.size)⟩
    · go_wp2_with fail
      go_ret
      refine ⟨ret_i ?_, hb⟩
      have h := HE.out
      rw [List.drop_eq_nil_of_le (by omega)] at h
      rw [h]; rfl
set_option maxRecDepth 100000 in
set_option maxHeartbeats 1000000 in
theorem containsFuncI_any (p : Int → Bool) (F : FuncId) (cap : Array Value) (xs : List Int) (A : Option Addr) (c : Nat) (w : World) (hx : xs.length ≤ 9223372036854775807)
    (hcf : ∀ args w, (callFunc F args).run Tryz.prog w = .ok (.enter F args) w) (h1 : RdI w w.heap.size A xs)
    (hp : ∀ z W, Below w.heap.size w W → Calls Tryz.prog F (#[.int .i64 z] ++ cap) W fun e w' => e = .returned (.bool (p z)) ∧ Below W.heap.size W w') :
    Calls Tryz.prog 95 #[.slice A xs.length c, .func (.func F) #[] cap] w fun e w' => e = .returned (.bool (xs.any p)) ∧ Below w.heap.size w w' := by
  have HC := hide (indexFuncI_any p F cap xs A c w hx hcf h1 hp)
  clear hp
  have HE := hide (firstI_ge p xs 0)
  go_enter Tryz.func95, Tryz.ntmps95
  go_wp2_with fail
  refine HC.out.mono ?_
  rintro e w1 ⟨rfl, hb⟩
  go_wp2_with fail
  go_ret
  exact ⟨ret_b HE.out, hb⟩
/-! ### outside -/
set_option maxRecDepth 100000 in
set_option maxHeartbeats 1000000 in
theorem outside1_any (z lo hi : Int) (b1 b2 : Nat) (w : World) (h1 : w.cell? ⟨b1, 0, none⟩ = some (.int .i64 lo)) (h2 : w.cell? ⟨b2, 0, none⟩ = some (.int .i64 hi)) :
    Calls Tryz.prog 96 #[.int .i64 z, .pointer (some ⟨b1, 0, none⟩), .pointer (some ⟨b2, 0, none⟩)] w fun e w' => e = .returned (.bool (!inB lo hi z)) ∧ Below w.heap.size w w' := by
  have HC := hide (within_any z lo hi w)
  go_enter Tryz.func96, Tryz.ntmps96
  go_wp2_with (go_at_call 67; refine HC.out.mono ?_; rintro e w' ⟨rfl, rfl⟩)
  go_ret
  exact ⟨rfl, Below.refl _ _⟩
set_option maxRecDepth 100000 in
set_option maxHeartbeats 1000000 in
theorem outside_any (xs : List Int) (lo hi : Int) (A : Option Addr) (c : Nat) (w : World) (hx : xs.length ≤ 9223372036854775807) (h1 : RdI w w.heap.size A xs) :
    Calls Tryz.prog 70 #[.slice A xs.length c, .int .i64 lo, .int .i64 hi] w fun e w' => e = .returned (.bool (xs.any fun z => !inB lo hi z)) ∧ Below w.heap.size w w' := by
  have HX := hide h1; clear h1
  go_enter Tryz.func70, Tryz.ntmps70
  go_wp2_with fail
  have hb0 : Below w.heap.size w ((w.alloc (.cells #[.int .i64 lo] 2)).alloc (.cells #[.int .i64 hi] 2)) := (by repeat (first | exact Below.refl _ _ | assumption | (refine Below.alloc ?_ (by simp <;> omega) _) | refine Below.drew ?_ | refine bdn ?_ _))
  have hcf := callFunc_gen (P := Tryz.prog) (F := 96) Tryz.func96 (by kernel_rfl) (by kernel_rfl)
  refine (containsFuncI_any (fun z => !inB lo hi z) 96 _ xs A c _ hx hcf ((HX.out.below hb0).more (by simp; omega)) ?_).mono ?_
  · intro z W hW
    have e1 : W.cell? ⟨w.heap.size, 0, none⟩ = some (.int .i64 lo) := by rw [hW.cell (by simp; omega)]; simp [go_sem]
    have e2 : W.cell? ⟨w.heap.size + 1, 0, none⟩ = some (.int .i64 hi) := by rw [hW.cell (by simp)]; simp [go_sem]
    exact outside1_any z lo hi _ _ W e1 e2
  · rintro e w1 ⟨rfl, hb⟩
    go_wp2_with fail
    go_ret
    exact ⟨rfl, hb0.trans (hb.mono (by simp; omega))⟩
end Go.Proofs.YtaajkmjilcamgaaGreatDoor
namespace Go.Proofs.YtaajkmjilcamgaaGreatDoor
open Go.RowKit

end Go.Proofs.YtaajkmjilcamgaaGreatDoor
namespace Go.Proofs.YtaajkmjilcamgaaGreatDoor
open Go.RowKit

/-- Only blocks lo .. hi, and new ones, have turned. -/
def Only (lo hi : Nat) (w w' : World) : Prop :=
  w'.os = w.os ∧ w'.tape = w.tape ∧ w'.output = w.output ∧ w.heap.size ≤ w'.heap.size ∧ ∀ k, k < w.heap.size → (k < lo ∨ hi ≤ k) → w'.heap[k]? = w.heap[k]?
theorem Only.size {lo hi : Nat} {w w' : World} (h : Only lo hi w w') : w.heap.size ≤ w'.heap.size := h.2.2.2.1
theorem Only.below {lo hi : Nat} {w w' : World} (h : Only lo hi w w') {B : Nat} (hB : B ≤ lo) (hB' : B ≤ w.heap.size) : Below B w w' :=
  ⟨h.1, h.2.1, h.2.2.1, h.2.2.2.1, fun k hk => h.2.2.2.2 k (by omega) (.inl (by omega))⟩
theorem only_row {w w' : World} {r : Option Nat} {lo hi : Nat} (h : w.grownBy w' r) (hr : ∀ g, r = some g → lo ≤ g ∧ g < hi) : Only lo hi w w' :=
  ⟨h.os, h.tape, h.output, h.size, fun k hk ho => h.block k hk (fun e => by have := hr k e.symm; omega)⟩
theorem only_of_below {w w' : World} {lo hi : Nat} (h : Below w.heap.size w w') : Only lo hi w w' := ⟨h.os, h.tape, h.output, h.size, fun k hk _ => h.block k hk⟩
theorem only_trans {w w1 w2 : World} {lo hi : Nat} (h : Only lo hi w w1) (k : Only lo hi w1 w2) : Only lo hi w w2 :=
  ⟨k.1.trans h.1, k.2.1.trans h.2.1, k.2.2.1.trans h.2.2.1, Nat.le_trans h.size k.size, fun i hi' ho => (k.2.2.2.2 i (Nat.lt_of_lt_of_le hi' h.size) ho).trans (h.2.2.2.2 i hi' ho)⟩
/-- A row of the call's own, of elements with s cells. -/
def OwnV (e : TypeId) (s : Nat) (w : World) (lo hi : Nat) (v : Value) (n : Nat) (xs : List Value) : Prop :=
  (∃ A c, v = .slice A n c) ∧ n ≤ 1048576 ∧ ((n = 0 ∧ xs = []) ∨ (w.ownsRow lo e s v n xs ∧ ∀ g, v.ownBlock = some g → g < hi))
theorem OwnV.of_row {e : TypeId} {s : Nat} {w : World} {lo : Nat} {v : Value} {n : Nat} {xs : List Value} (h : w.ownsRow lo e s v n xs) (hn : n ≤ 1048576) : OwnV e s w lo w.heap.size v n xs := by
  obtain ⟨A, c, rfl, _⟩ := own_shape h
  exact ⟨⟨A, c, rfl⟩, hn, .inr ⟨h, fun g hg => (h.lt g hg).2⟩⟩
theorem OwnV.nil (e : TypeId) (s : Nat) (w : World) (lo hi : Nat) (A : Option Addr) (c : Nat) : OwnV e s w lo hi (.slice A 0 c) 0 [] := ⟨⟨A, c, rfl⟩, by omega, .inl ⟨rfl, rfl⟩⟩
theorem OwnV.kept {e : TypeId} {s : Nat} {w w' : World} {lo hi lo' hi' : Nat} {v : Value} {n : Nat} {xs : List Value} (h : OwnV e s w lo hi v n xs) (k : Only lo' hi' w w') (hd : hi ≤ lo' ∨ hi' ≤ lo) : OwnV e s w' lo hi v n xs := by
  refine ⟨h.1, h.2.1, ?_⟩
  rcases h.2.2 with h0 | ⟨ho, hlt⟩
  · exact .inl h0
  · refine .inr ⟨⟨ho.1, ?_⟩, hlt⟩
    rcases ho.2 with h0 | ⟨g, cap, cur, rfl, hb, hg, rest⟩
    · exact .inl h0
    · refine .inr ⟨g, cap, cur, rfl, hb, ?_, rest⟩
      have := hlt g rfl
      rw [k.2.2.2.2 g (lt_of_block hg) (by omega)]; exact hg
theorem OwnV.below {e : TypeId} {s : Nat} {w w' : World} {lo hi B : Nat} {v : Value} {n : Nat} {xs : List Value} (h : OwnV e s w lo hi v n xs) (k : Below B w w') (hd : hi ≤ B) : OwnV e s w' lo hi v n xs := by
  refine ⟨h.1, h.2.1, ?_⟩
  rcases h.2.2 with h0 | ⟨ho, hlt⟩
  · exact .inl h0
  · refine .inr ⟨⟨ho.1, ?_⟩, hlt⟩
    rcases ho.2 with h0 | ⟨g, cap, cur, rfl, hb, hg, rest⟩
    · exact .inl h0
    · refine .inr ⟨g, cap, cur, rfl, hb, ?_, rest⟩
      have := hlt g rfl
      rw [k.block g (by omega)]; exact hg
theorem OwnV.widen {e : TypeId} {s : Nat} {w : World} {lo hi lo' hi' : Nat} {v : Value} {n : Nat} {xs : List Value} (h : OwnV e s w lo hi v n xs) (h1 : lo' ≤ lo) (h2 : hi ≤ hi') : OwnV e s w lo' hi' v n xs := by
  refine ⟨h.1, h.2.1, ?_⟩
  rcases h.2.2 with h0 | ⟨ho, hlt⟩
  · exact .inl h0
  · exact .inr ⟨own_base ho h1, fun g hg => Nat.lt_of_lt_of_le (hlt g hg) h2⟩
theorem OwnV.rd {e : TypeId} {s : Nat} {w : World} {lo hi : Nat} {v : Value} {n : Nat} {xs : List Value} (h : OwnV e s w lo hi v n xs) : ∃ A c, v = .slice A n c ∧ Rd w w.heap.size A xs := by
  obtain ⟨⟨A, c, rfl⟩, _, h0 | ⟨ho, _⟩⟩ := h
  · obtain ⟨rfl, rfl⟩ := h0; exact ⟨A, c, rfl, Rd.nil _ _ _⟩
  · exact ⟨A, c, rfl, Rd.of_own ho⟩

/-! ### Int64S -/
def R_Int64S (w : World) (B : Nat) (v : Value) (x : List Int) : Prop := ∃ A c, v = .slice A x.length c ∧ RdI w B A x
def O_Int64S (w : World) (lo hi : Nat) (v : Value) (x : List Int) : Prop := OwnV 2 1 w lo hi v x.length (x.map (Value.int .i64))
theorem R_Int64S.below {w w' : World} {B : Nat} {v : Value} {x : List Int} (h : R_Int64S w B v x) (k : Below B w w') : R_Int64S w' B v x := by
  obtain ⟨A, c, rfl, h⟩ := h; exact ⟨A, c, rfl, h.below k⟩
theorem R_Int64S.more {w : World} {B B' : Nat} {v : Value} {x : List Int} (h : R_Int64S w B v x) (k : B ≤ B') : R_Int64S w B' v x := by
  obtain ⟨A, c, rfl, h⟩ := h; exact ⟨A, c, rfl, h.more k⟩
theorem O_Int64S.r {w : World} {lo hi : Nat} {v : Value} {x : List Int} (h : O_Int64S w lo hi v x) : R_Int64S w w.heap.size v x := h.rd
theorem O_Int64S.small {w : World} {lo hi : Nat} {v : Value} {x : List Int} (h : O_Int64S w lo hi v x) : x.length ≤ 1048576 := h.2.1
theorem O_Int64S.kept {w w' : World} {lo hi lo' hi' : Nat} {v : Value} {x : List Int} (h : O_Int64S w lo hi v x) (k : Only lo' hi' w w') (hd : hi ≤ lo' ∨ hi' ≤ lo) : O_Int64S w' lo hi v x := OwnV.kept h k hd
theorem O_Int64S.below {w w' : World} {lo hi B : Nat} {v : Value} {x : List Int} (h : O_Int64S w lo hi v x) (k : Below B w w') (hd : hi ≤ B) : O_Int64S w' lo hi v x := OwnV.below h k hd
theorem O_Int64S.widen {w : World} {lo hi lo' hi' : Nat} {v : Value} {x : List Int} (h : O_Int64S w lo hi v x) (h1 : lo' ≤ lo) (h2 : hi ≤ hi') : O_Int64S w lo' hi' v x := OwnV.widen h h1 h2
theorem O_Int64S.nil (w : World) (lo hi : Nat) (A : Option Addr) (c : Nat) : O_Int64S w lo hi (.slice A 0 c) [] := OwnV.nil _ _ _ _ _ _ _
def mark_Int64S (x : List Int) (k : Int) : List Int := marks (mkI k) x.length
def cnt_Int64S (x : List Int) : Int := x.length
theorem O_Int64S.cnt {w : World} {lo hi : Nat} {v : Value} {x : List Int} (h : O_Int64S w lo hi v x) : 0 ≤ cnt_Int64S x ∧ cnt_Int64S x ≤ 4194304 := by
  have := h.small
  unfold cnt_Int64S; omega



/-! ### TubeS -/
def R_TubeS (w : World) (B : Nat) (v : Value) (x : List T3) : Prop := ∃ A c, v = .slice A x.length c ∧ Rd3 w B A x
def O_TubeS (w : World) (lo hi : Nat) (v : Value) (x : List T3) : Prop := OwnV 41 3 w lo hi v x.length (x.flatMap T3.cells)
theorem R_TubeS.below {w w' : World} {B : Nat} {v : Value} {x : List T3} (h : R_TubeS w B v x) (k : Below B w w') : R_TubeS w' B v x := by
  obtain ⟨A, c, rfl, h⟩ := h; exact ⟨A, c, rfl, h.below k⟩
theorem R_TubeS.more {w : World} {B B' : Nat} {v : Value} {x : List T3} (h : R_TubeS w B v x) (k : B ≤ B') : R_TubeS w B' v x := by
  obtain ⟨A, c, rfl, h⟩ := h; exact ⟨A, c, rfl, h.more k⟩
theorem O_TubeS.r {w : World} {lo hi : Nat} {v : Value} {x : List T3} (h : O_TubeS w lo hi v x) : R_TubeS w w.heap.size v x := h.rd
theorem O_TubeS.small {w : World} {lo hi : Nat} {v : Value} {x : List T3} (h : O_TubeS w lo hi v x) : x.length ≤ 1048576 := h.2.1
theorem O_TubeS.kept {w w' : World} {lo hi lo' hi' : Nat} {v : Value} {x : List T3} (h : O_TubeS w lo hi v x) (k : Only lo' hi' w w') (hd : hi ≤ lo' ∨ hi' ≤ lo) : O_TubeS w' lo hi v x := OwnV.kept h k hd
theorem O_TubeS.below {w w' : World} {lo hi B : Nat} {v : Value} {x : List T3} (h : O_TubeS w lo hi v x) (k : Below B w w') (hd : hi ≤ B) : O_TubeS w' lo hi v x := OwnV.below h k hd
theorem O_TubeS.widen {w : World} {lo hi lo' hi' : Nat} {v : Value} {x : List T3} (h : O_TubeS w lo hi v x) (h1 : lo' ≤ lo) (h2 : hi ≤ hi') : O_TubeS w lo' hi' v x := OwnV.widen h h1 h2
theorem O_TubeS.nil (w : World) (lo hi : Nat) (A : Option Addr) (c : Nat) : O_TubeS w lo hi (.slice A 0 c) [] := OwnV.nil _ _ _ _ _ _ _
def mark_TubeS (x : List T3) (k : Int) : List T3 := marks (mk3 k) x.length
def cnt_TubeS (x : List T3) : Int := 3 * x.length
theorem O_TubeS.cnt {w : World} {lo hi : Nat} {v : Value} {x : List T3} (h : O_TubeS w lo hi v x) : 0 ≤ cnt_TubeS x ∧ cnt_TubeS x ≤ 4194304 := by
  have := h.small
  unfold cnt_TubeS; omega



/-! ### RideS -/
def R_RideS (w : World) (B : Nat) (v : Value) (x : List T4) : Prop := ∃ A c, v = .slice A x.length c ∧ Rd4 w B A x
def O_RideS (w : World) (lo hi : Nat) (v : Value) (x : List T4) : Prop := OwnV 44 4 w lo hi v x.length (x.flatMap T4.cells)
theorem R_RideS.below {w w' : World} {B : Nat} {v : Value} {x : List T4} (h : R_RideS w B v x) (k : Below B w w') : R_RideS w' B v x := by
  obtain ⟨A, c, rfl, h⟩ := h; exact ⟨A, c, rfl, h.below k⟩
theorem R_RideS.more {w : World} {B B' : Nat} {v : Value} {x : List T4} (h : R_RideS w B v x) (k : B ≤ B') : R_RideS w B' v x := by
  obtain ⟨A, c, rfl, h⟩ := h; exact ⟨A, c, rfl, h.more k⟩
theorem O_RideS.r {w : World} {lo hi : Nat} {v : Value} {x : List T4} (h : O_RideS w lo hi v x) : R_RideS w w.heap.size v x := h.rd
theorem O_RideS.small {w : World} {lo hi : Nat} {v : Value} {x : List T4} (h : O_RideS w lo hi v x) : x.length ≤ 1048576 := h.2.1
theorem O_RideS.kept {w w' : World} {lo hi lo' hi' : Nat} {v : Value} {x : List T4} (h : O_RideS w lo hi v x) (k : Only lo' hi' w w') (hd : hi ≤ lo' ∨ hi' ≤ lo) : O_RideS w' lo hi v x := OwnV.kept h k hd
theorem O_RideS.below {w w' : World} {lo hi B : Nat} {v : Value} {x : List T4} (h : O_RideS w lo hi v x) (k : Below B w w') (hd : hi ≤ B) : O_RideS w' lo hi v x := OwnV.below h k hd
theorem O_RideS.widen {w : World} {lo hi lo' hi' : Nat} {v : Value} {x : List T4} (h : O_RideS w lo hi v x) (h1 : lo' ≤ lo) (h2 : hi ≤ hi') : O_RideS w lo' hi' v x := OwnV.widen h h1 h2
theorem O_RideS.nil (w : World) (lo hi : Nat) (A : Option Addr) (c : Nat) : O_RideS w lo hi (.slice A 0 c) [] := OwnV.nil _ _ _ _ _ _ _
def mark_RideS (x : List T4) (k : Int) : List T4 := marks (mk4 k) x.length
def cnt_RideS (x : List T4) : Int := 4 * x.length
theorem O_RideS.cnt {w : World} {lo hi : Nat} {v : Value} {x : List T4} (h : O_RideS w lo hi v x) : 0 ≤ cnt_RideS x ∧ cnt_RideS x ≤ 4194304 := by
  have := h.small
  unfold cnt_RideS; omega
end Go.Proofs.YtaajkmjilcamgaaGreatDoor
namespace Go.Proofs.YtaajkmjilcamgaaGreatDoor
open Go.RowKit

/-- A valid stock. -/
def vStock (zs : List Int) : Bool := zs.all (inB 0 200) && (inB 2 10 zs.length && decide (zs.sum ≤ 200))

end Go.Proofs.YtaajkmjilcamgaaGreatDoor
