/-
  The ends of runs, the last end, the late wishes; in the program and in the reference.
  The end of a drawn run, and rising lists.
  Networks, the plain law: what is reached from what is reached; strong ones; tubes from a station.
  Settings of switches, simple ways and runs by a setting. Plain lemmas.
  Simple ways, the fewest turns, clashes of ways. Plain lemmas.
  Networks in the reference: valid ones.
  Networks: the reference's least lengths, kept until nothing turns: what holds of them, and why they end. Plain lemmas.
-/
import Derived.Test.YtaajkmjilcamgaaGreatDoorQWays5
import Derived.Test.YtaajkmjilcamgaaGreatDoorQWays4
import Derived.Test.YtaajkmjilcamgaaGreatDoorQWays1
import Derived.Test.YtaajkmjilcamgaaGreatDoorRows
import Derived.ProofKit
import Derived.Test.YtaajkmjilcamgaaGreatDoorQWays2
namespace Go.Proofs.YtaajkmjilcamgaaGreatDoor
open Go.RowKit

def endGo (ts : List Int) : Int → List Int → Int
  | f, [] => f
  | f, t :: r => endGo ts (f + tmOf ts t) r
theorem endGo_bd {ts : List Int} (hts : OkTimes ts) : ∀ {way : List Int} {f : Int}, (∀ t ∈ way, 0 ≤ t ∧ t ≤ (ts.length : Int) - 1) → f ≤ endGo ts f way ∧ endGo ts f way ≤ f + 1000 * way.length := by
  intro way
  induction way with
  | nil => intro f _; simp [endGo]
  | cons t r ih =>
    intro f h
    have h1 := tmOf_bd hts (h t (List.mem_cons_self ..))
    have h2 := ih (f := f + tmOf ts t) fun t ht => h t (List.mem_cons_of_mem _ ht)
    rw [endGo, List.length_cons]; omega
theorem endGo_drop {ts way : List Int} {k : Nat} {t : Int} (h : way[k]? = some t) (f : Int) : endGo ts f (way.drop k) = endGo ts (f + tmOf ts t) (way.drop (k + 1)) := by rw [drop_cons h, endGo]
theorem ordGo_nodup {n : Int} : ∀ {r pre : List Int}, ordGo n pre r = true → r.Nodup ∧ ∀ k ∈ r, k ∉ pre := by
  intro r
  induction r with
  | nil => intro pre _; exact ⟨List.nodup_nil, fun k hk => by cases hk⟩
  | cons a r ih =>
    intro pre h
    rw [ordGo] at h
    simp only [Bool.and_eq_true, Bool.not_eq_true'] at h
    obtain ⟨i1, i2⟩ := ih h.2.2
    have ha : a ∉ pre := fun hm => by
      have := h.2.1
      rw [show hasI pre a = true from List.any_eq_true.2 ⟨a, hm, by simp⟩] at this
      cases this
    refine ⟨List.nodup_cons.2 ⟨fun hm => i2 a hm (List.mem_append.2 (.inr (List.mem_singleton.2 rfl))), i1⟩, fun k hk => ?_⟩
    rcases List.mem_cons.1 hk with rfl | hk
    · exact ha
    · exact fun hm => i2 k hk (List.mem_append.2 (.inl hm))
theorem order_all {ts : List Int} {l : List TN} {order : List Int} (h : codeO ts l order = 0) {i : Nat} (hi : i < l.length) : (i : Int) ∈ order := by
  obtain ⟨_, hol, hoi⟩ := codeO_ok h
  have hnd : order.Nodup := by
    unfold codeO at h
    split at h
    · split at h
      · rename_i ho
        unfold ordOk at ho
        simp only [Bool.and_eq_true] at ho
        exact (ordGo_nodup ho.1).1
      · omega
    · omega
  refine Classical.byContradiction fun hne => ?_
  have h1 : ((i : Int) :: order).Nodup := List.nodup_cons.2 ⟨hne, hnd⟩
  have h2 := h1.length_le_of_subset (l₂ := (List.range l.length).map fun (j : Nat) => (j : Int)) fun z hz => by
    rcases List.mem_cons.1 hz with rfl | hz
    · exact List.mem_map.2 ⟨i, List.mem_range.2 hi, rfl⟩
    · have := hoi z hz
      exact List.mem_map.2 ⟨z.toNat, List.mem_range.2 (by omega), by omega⟩
  rw [List.length_cons, List.length_map, List.length_range] at h2
  omega
theorem planRGo_way (ts : List Int) (l : List TN) : ∀ (order : List Int) (done out : List TN) (i : Nat) (e : TN), (∀ k ∈ order, 0 ≤ k) → (planRGo ts l order done out)[i]? = some e → ((i : Int) ∈ order ∨ ∃ e0, out[i]? = some e0 ∧ e0.way = (wishAt l i).way) → e.way = (wishAt l i).way := by
  intro order
  induction order with
  | nil =>
    intro done out i e _ he h
    rcases h with h | ⟨e0, h1, h2⟩
    · cases h
    · rw [planRGo] at he; rw [h1] at he; cases he; exact h2
  | cons k r ih =>
    intro done out i e hk he h
    rw [planRGo] at he
    have hk0 := hk k (List.mem_cons_self ..)
    refine ih _ _ i e (fun k' hk' => hk k' (List.mem_cons_of_mem _ hk')) he ?_
    by_cases hik : (i : Int) = k
    · by_cases hl : i < out.length
      · right
        refine ⟨_, by rw [show k.toNat = i by omega]; exact List.getElem?_set_self hl, by rw [hik]⟩
      · exfalso
        have hlen : ∀ (order : List Int) (done out : List TN), (planRGo ts l order done out).length = out.length := by
          intro order
          induction order with
          | nil => intro done out; rfl
          | cons k r ih => intro done out; rw [planRGo, ih, List.length_set]
        have := lt_of_get he
        rw [hlen, List.length_set] at this
        omega
    · rcases h with h | ⟨e0, h1, h2⟩
      · rcases List.mem_cons.1 h with h | h
        · exact absurd h hik
        · exact .inl h
      · right
        exact ⟨e0, by rw [List.getElem?_set_ne (by omega)]; exact h1, h2⟩
theorem planR_way {ts : List Int} {l : List TN} {order : List Int} (h : codeO ts l order = 0) {i : Nat} {e : TN} (he : (planR ts l order)[i]? = some e) : e.way = (wishAt l i).way := by
  have hil : i < l.length := by have := lt_of_get he; rw [planR_len] at this; exact this
  exact planRGo_way ts l order _ _ i e (fun k hk => ((codeO_ok h).2.2 k hk).1) he (.inl (order_all h hil))
/-- The last end, and the late wishes, of these starts from a wish on. -/
def leGo (ts : List Int) (l : List TN) : List Int → Nat → Int → Int
  | [], _, m => m
  | s :: r, i, m => leGo ts l r (i + 1) (max m (endGo ts s (wishAt l i).way))
def laGo (ts : List Int) (l : List TN) : List Int → Nat → List Int
  | [], _ => []
  | s :: r, i => if (wishAt l i).q < endGo ts s (wishAt l i).way then (i : Int) :: laGo ts l r (i + 1) else laGo ts l r (i + 1)
theorem leGo_drop {ts : List Int} {l : List TN} {xs : List Int} {k : Nat} {z : Int} (h : xs[k]? = some z) (m : Int) : leGo ts l (xs.drop k) k m = leGo ts l (xs.drop (k + 1)) (k + 1) (max m (endGo ts z (wishAt l k).way)) := by rw [drop_cons h, leGo]
theorem laGo_drop {ts : List Int} {l : List TN} {xs : List Int} {k : Nat} {z : Int} (h : xs[k]? = some z) : laGo ts l (xs.drop k) k = if (wishAt l k).q < endGo ts z (wishAt l k).way then (k : Int) :: laGo ts l (xs.drop (k + 1)) (k + 1) else laGo ts l (xs.drop (k + 1)) (k + 1) := by rw [drop_cons h, laGo]
def lastEnd (ts : List Int) (l : List TN) (order : List Int) : Int × Int := if codeO ts l order = 0 then (leGo ts l (plan ts l order) 0 0, 0) else (0, codeO ts l order)
def lateWishes (ts : List Int) (l : List TN) (order : List Int) : List Int × Int := if codeO ts l order = 0 then (laGo ts l (plan ts l order) 0, 0) else ([], codeO ts l order)
end Go.Proofs.YtaajkmjilcamgaaGreatDoor
namespace Go.Proofs.YtaajkmjilcamgaaGreatDoor
open Go.ChangeShapes Go.WideShapes Go.ChangeAt Go.RowKit

def Rises (xs : List Int) (n : Int) : Prop := (∀ z ∈ xs, 0 ≤ z ∧ z < n) ∧ ∀ k a b, xs[k]? = some a → xs[k + 1]? = some b → a < b
end Go.Proofs.YtaajkmjilcamgaaGreatDoor
namespace Go.Proofs.YtaajkmjilcamgaaGreatDoor

theorem ok_tubes {n : Nat} {tb : List T3} (h : OkNet n tb) : OkTubes n tb := fun t ht => by
  obtain ⟨h1, h2, _, h3⟩ := h.2.2 t ht
  exact ⟨by omega, by omega, h3⟩
theorem idx_mem {α : Type} (p : α → Bool) : ∀ (xs : List α) (k : Nat) (z : Int), z ∈ idxFrom p xs k ↔ ∃ (j : Nat) (x : α), z = ((k + j : Nat) : Int) ∧ xs[j]? = some x ∧ p x = true := by
  intro xs
  induction xs with
  | nil => intro k z; simp [idxFrom]
  | cons y xs ih =>
    intro k z
    unfold idxFrom
    constructor
    · intro h
      by_cases hp : p y = true
      · rw [if_pos hp] at h
        rcases List.mem_cons.1 h with rfl | h
        · exact ⟨0, y, rfl, rfl, hp⟩
        · obtain ⟨j, x, rfl, h2, h3⟩ := (ih (k + 1) z).1 h
          exact ⟨j + 1, x, by congr 1; omega, by simpa using h2, h3⟩
      · rw [if_neg hp] at h
        obtain ⟨j, x, rfl, h2, h3⟩ := (ih (k + 1) z).1 h
        exact ⟨j + 1, x, by congr 1; omega, by simpa using h2, h3⟩
    · rintro ⟨j, x, rfl, h2, h3⟩
      cases j with
      | zero =>
        simp at h2; subst h2
        rw [if_pos h3]; exact List.mem_cons_self ..
      | succ j =>
        have h4 := (ih (k + 1) ((k + 1 + j : Nat) : Int)).2 ⟨j, x, rfl, by simpa using h2, h3⟩
        rw [show k + (j + 1) = k + 1 + j by omega]
        split
        · exact List.mem_cons_of_mem _ h4
        · exact h4
theorem idx_ge {α : Type} (p : α → Bool) (xs : List α) (k : Nat) : ∀ z ∈ idxFrom p xs k, (k : Int) ≤ z ∧ z < ((k + xs.length : Nat) : Int) := fun z hz => by
  obtain ⟨j, x, rfl, h2, _⟩ := (idx_mem p xs k z).1 hz
  have := (List.getElem?_eq_some_iff.1 h2).1
  omega
theorem idx_up {α : Type} (p : α → Bool) : ∀ (xs : List α) (k : Nat), (idxFrom p xs k).Pairwise (· < ·) := by
  intro xs
  induction xs with
  | nil => intro k; exact List.Pairwise.nil
  | cons y xs ih =>
    intro k
    unfold idxFrom
    split
    · refine List.pairwise_cons.2 ⟨fun z hz => ?_, ih (k + 1)⟩
      have := (idx_ge p xs (k + 1) z hz).1
      omega
    · exact ih (k + 1)
theorem idx_rises {α : Type} (p : α → Bool) (xs : List α) : Rises (idxFrom p xs 0) xs.length := by
  refine ⟨fun z hz => ?_, fun k a b ha hb => ?_⟩
  · have := idx_ge p xs 0 z hz
    omega
  · obtain ⟨h1, rfl⟩ := List.getElem?_eq_some_iff.1 ha
    obtain ⟨h2, rfl⟩ := List.getElem?_eq_some_iff.1 hb
    exact (List.pairwise_iff_getElem.1 (idx_up p xs 0)) k (k + 1) h1 h2 (by omega)
theorem idx_full {α : Type} (p : α → Bool) : ∀ (x : List α) (k : Nat), (idxFrom p x k).length = x.length ↔ x.all p = true := by
  intro x
  induction x with
  | nil => intro k; simp [idxFrom]
  | cons z x ih =>
    intro k
    have hl := idxFrom_len p x (k + 1)
    unfold idxFrom
    by_cases h : p z = true
    · rw [if_pos h, List.length_cons, List.length_cons, List.all_cons, h, Bool.true_and, ← ih (k + 1)]; omega
    · have hf : p z = false := by simpa using h
      rw [if_neg h, List.length_cons, List.all_cons, hf, Bool.false_and]
      constructor
      · intro h2; omega
      · intro h2; cases h2
theorem hasI_mem {xs : List Int} {v : Int} : hasI xs v = true ↔ v ∈ xs := by simp [hasI]
theorem reach_iff {n : Nat} {tb : List T3} (h : OkNet n tb) {s : Int} (hs : 0 ≤ s) {k : Nat} (hk : k < n) : reachP n tb s k = true ↔ ∃ p, wk tb (-1) p s k := by
  unfold reachP
  rw [decide_eq_true_eq]
  exact dist_iff (ok_tubes h) (by omega) (by omega) hs
theorem reach_mem {n : Nat} {tb : List T3} {s z : Int} : hasI (reachL n tb s) z = true ↔ ∃ k : Nat, k < n ∧ z = (k : Int) ∧ reachP n tb s k = true := by
  rw [hasI_mem]
  unfold reachL
  rw [idx_mem]
  constructor
  · rintro ⟨j, x, rfl, h2, h3⟩
    obtain ⟨h4, h5⟩ := List.getElem?_eq_some_iff.1 h2
    rw [List.getElem_range] at h5
    subst h5
    rw [List.length_range] at h4
    exact ⟨j, h4, by congr 1; omega, h3⟩
  · rintro ⟨k, hk, rfl, h3⟩
    exact ⟨k, k, by congr 1; omega, range_get hk, h3⟩
theorem reach_self {n : Nat} {tb : List T3} (h : OkNet n tb) {i : Nat} (hi : i < n) : hasI (reachL n tb i) i = true :=
  reach_mem.2 ⟨i, hi, rfl, (reach_iff h (by omega) hi).2 ⟨[], rfl⟩⟩
theorem reach_next {n : Nat} {tb : List T3} (h : OkNet n tb) {i : Nat} {k : Nat} {t : T3} (ht : tb[k]? = some t) (ha : hasI (reachL n tb i) t.a = true) : hasI (reachL n tb i) t.b = true := by
  obtain ⟨a, ha1, ha2, ha3⟩ := reach_mem.1 ha
  obtain ⟨p, hp⟩ := (reach_iff h (by omega) ha1).1 ha3
  obtain ⟨_, ⟨hb0, hb1⟩, _, _⟩ := h.2.2 t (List.mem_of_getElem? ht)
  obtain ⟨b, hb⟩ := Int.eq_ofNat_of_zero_le hb0
  refine reach_mem.2 ⟨b, by omega, hb, (reach_iff h (by omega) (by omega)).2 ⟨p ++ [(k : Int)], wk_append.2 ⟨_, hp, ?_⟩⟩⟩
  exact ⟨by omega, by omega, t, by rw [Int.toNat_natCast]; exact ht, ha2, hb⟩
theorem tubes_mem {tb : List T3} {s : Int} {k : Nat} {t : T3} (ht : tb[k]? = some t) : hasI (tubesL tb s) k = (t.a == s) := by
  rw [Bool.eq_iff_iff, hasI_mem]
  unfold tubesL
  rw [idx_mem]
  constructor
  · rintro ⟨j, x, hj, h2, h3⟩
    obtain rfl : k = j := by omega
    rw [ht] at h2
    injection h2 with h2
    subst h2
    exact h3
  · intro h
    exact ⟨k, t, by congr 1; omega, ht, h⟩
theorem reach_dist {n : Nat} {tb : List T3} {s z : Int} (hz : z ∈ reachL n tb s) : (0 ≤ z ∧ z < n) ∧ 0 ≤ dAt (dist n tb z (-1)) s := by
  obtain ⟨k, hk, rfl, h3⟩ := reach_mem.1 (hasI_mem.2 hz)
  exact ⟨by omega, by simpa [reachP] using h3⟩
theorem gap_iff {n : Nat} {tb : List T3} (h : OkNet n tb) {wo : Int} {k : Nat} (hk : k < n) : noGap n tb wo k = true ↔ ∀ v : Nat, v < n → 0 ≤ dAt (dist n tb k wo) v := by
  have hl := dist_len n tb k wo
  unfold noGap
  rw [Bool.not_eq_true', ← Bool.not_eq_true, hasI_mem]
  constructor
  · intro hn v hv
    by_cases hc : 0 ≤ dAt (dist n tb k wo) v
    · exact hc
    · exfalso
      have h1 := dist_neg (ok_tubes h) (wo := wo) (by omega : (0 : Int) ≤ (k : Int)) (by omega) (by omega : (0 : Int) ≤ (v : Int)) (by omega)
      have h2 := List.getElem?_eq_getElem (show v < (dist n tb k wo).length by omega)
      have h3 : dAt (dist n tb k wo) v = (dist n tb k wo)[v] := by unfold dAt; rw [Int.toNat_natCast, h2]; rfl
      rw [h1] at h3
      exact hn (by rw [h3]; exact List.getElem_mem _)
  · intro hv hm
    obtain ⟨j, hj, he⟩ := List.mem_iff_getElem.1 hm
    have h2 := List.getElem?_eq_getElem hj
    have h3 : dAt (dist n tb k wo) j = (dist n tb k wo)[j] := by unfold dAt; rw [Int.toNat_natCast, h2]; rfl
    have := hv j (by omega)
    omega
theorem strong_iff {n : Nat} {tb : List T3} (h : OkNet n tb) {wo : Int} : strongB n tb wo = true ↔ ∀ k v : Nat, k < n → v < n → 0 ≤ dAt (dist n tb k wo) v := by
  unfold strongB
  rw [List.all_eq_true]
  constructor
  · intro h1 k v hk hv
    exact (gap_iff h hk).1 (h1 k (List.mem_range.2 hk)) v hv
  · intro h1 k hk
    exact (gap_iff h (List.mem_range.1 hk)).2 fun v hv => h1 k v (List.mem_range.1 hk) hv
theorem strong_all {n : Nat} {tb : List T3} (h : OkNet n tb) : strongB n tb (-1) = (List.range n).all fun i : Nat => decide ((reachL n tb i).length = n) := by
  rw [Bool.eq_iff_iff, strong_iff h, List.all_eq_true]
  constructor
  · intro h1 i hi
    rw [decide_eq_true_eq]
    have h2 := (idx_full (reachP n tb i) (List.range n) 0).2 (List.all_eq_true.2 fun k hk => by
      unfold reachP; exact decide_eq_true (h1 k i (List.mem_range.1 hk) (List.mem_range.1 hi)))
    rw [List.length_range] at h2
    exact h2
  · intro h1 k v hk hv
    have h2 := h1 v (List.mem_range.2 hv)
    rw [decide_eq_true_eq] at h2
    have h3 := List.all_eq_true.1 ((idx_full (reachP n tb v) (List.range n) 0).1 (by rw [List.length_range]; exact h2)) k (List.mem_range.2 hk)
    simpa [reachP] using h3
end Go.Proofs.YtaajkmjilcamgaaGreatDoor
namespace Go.Proofs.YtaajkmjilcamgaaGreatDoor
open Go.RowKit

theorem toNat_inj {a b : Int} (ha : 0 ≤ a) (hb : 0 ≤ b) (h : a.toNat = b.toNat) : a = b := by omega
/-- A setting: a tube that begins there, or none, a station. -/
def OkSet (n : Nat) (tb : List T3) (st : List Int) : Prop := st.length = n ∧ ∀ (i : Nat) (k : Int), st[i]? = some k → k = -1 ∨ (0 ≤ k ∧ ∃ t, tb[k.toNat]? = some t ∧ t.a = (i : Int))
theorem OkSet.at {n : Nat} {tb : List T3} {st : List Int} (h : OkSet n tb st) {v : Int} (h0 : 0 ≤ v) (hv : v < n) : ∃ k, st[v.toNat]? = some k ∧ dAt st v = k ∧ (k = -1 ∨ (0 ≤ k ∧ ∃ t, tb[k.toNat]? = some t ∧ t.a = v)) := by
  have hl : v.toNat < st.length := by rw [h.1]; omega
  have hk := List.getElem?_eq_getElem hl
  refine ⟨_, hk, by simp [dAt, hk], ?_⟩
  rcases h.2 _ _ hk with h1 | ⟨h1, t, ht, ha⟩
  · exact .inl h1
  · exact .inr ⟨h1, t, ht, by omega⟩
theorem OkSet.set {n : Nat} {tb : List T3} {st : List Int} (h : OkSet n tb st) {i : Int} {t : T3} (hi : 0 ≤ i) (ht : tb[i.toNat]? = some t) (ha : 0 ≤ t.a) : OkSet n tb (st.set t.a.toNat i) := by
  refine ⟨by rw [List.length_set]; exact h.1, fun j k hk => ?_⟩
  rw [List.getElem?_set] at hk
  split at hk
  · rename_i he
    split at hk
    · simp only [Option.some.injEq] at hk
      subst hk
      exact .inr ⟨hi, t, ht, by omega⟩
    · cases hk
  · exact h.2 j k hk
theorem OkSet.bd {n : Nat} {tb : List T3} {st : List Int} (h : OkSet n tb st) : ∀ z ∈ st, -1 ≤ z ∧ z ≤ (tb.length : Int) - 1 := fun z hz => by
  obtain ⟨i, hi⟩ := List.getElem?_of_mem hz
  rcases h.2 i z hi with h1 | ⟨h1, t, ht, _⟩
  · omega
  · have := (List.getElem?_eq_some_iff.1 ht).1
    omega
/-- A way that comes to no station twice. -/
def Simple (tb : List T3) (p : List Int) (v u : Int) : Prop := wk tb (-1) p v u ∧ (begins tb p ++ [u]).Nodup
def setW (tb : List T3) : List Int → List Int → List Int
  | [], st => st
  | i :: r, st => setW tb r (st.set (tubeAt tb i).a.toNat i)
theorem setW_drop {tb : List T3} {p : List Int} {k : Nat} {i : Int} {st : List Int} (h : p[k]? = some i) : setW tb (p.drop k) st = setW tb (p.drop (k + 1)) (st.set (tubeAt tb i).a.toNat i) := by rw [drop_cons h, setW]
theorem setW_end {tb : List T3} {p : List Int} {k : Nat} {st : List Int} (h : p.length ≤ k) : setW tb (p.drop k) st = st := by rw [List.drop_eq_nil_of_le h, setW]
theorem wk_get {tb : List T3} {wo : Int} : ∀ {p : List Int} {v u : Int} {k : Nat} {i : Int}, wk tb wo p v u → p[k]? = some i → 0 ≤ i ∧ ∃ t, tb[i.toNat]? = some t := by
  intro p
  induction p with
  | nil => intro v u k i _ h; simp at h
  | cons j p ih =>
    rintro v u k i ⟨h0, h1, t, ht, ha, h⟩ hk
    cases k with
    | zero => simp at hk; subst hk; exact ⟨h0, t, ht⟩
    | succ k => exact ih h (by simpa using hk)
theorem setW_ok {n : Nat} {tb : List T3} (hok : OkTubes n tb) : ∀ {p : List Int} {v u : Int} {st : List Int}, wk tb (-1) p v u → OkSet n tb st → OkSet n tb (setW tb p st) := by
  intro p
  induction p with
  | nil => intro v u st _ h; exact h
  | cons i p ih =>
    rintro v u st ⟨h0, h1, t, ht, ha, h⟩ hs
    rw [setW, tubeAt_get ht]
    exact ih h (hs.set h0 ht (hok t (List.mem_of_getElem? ht)).1.1)
theorem begins_nn {n : Nat} {tb : List T3} (hok : OkTubes n tb) {p : List Int} {v u : Int} (h : wk tb (-1) p v u) : ∀ x ∈ begins tb p, 0 ≤ x := fun x hx => (begins_in hok h x hx).1
theorem setW_other {n : Nat} {tb : List T3} (hok : OkTubes n tb) : ∀ {p : List Int} {v u : Int} {st : List Int} {x : Int}, wk tb (-1) p v u → 0 ≤ x → x ∉ begins tb p → (setW tb p st)[x.toNat]? = st[x.toNat]? := by
  intro p
  induction p with
  | nil => intro v u st x _ _ _; rfl
  | cons i p ih =>
    rintro v u st x ⟨h0, h1, t, ht, ha, h⟩ hx hn
    rw [begins, List.map_cons, List.mem_cons] at hn
    have ht0 := (hok t (List.mem_of_getElem? ht)).1.1
    rw [setW, tubeAt_get ht, ih h hx (fun hm => hn (.inr hm)), List.getElem?_set_ne]
    intro he
    exact hn (.inl (by rw [tubeAt_get ht]; omega))
/-- All that a way needs is set. -/
def Has (tb : List T3) (S p : List Int) : Prop := ∀ i ∈ p, S[(tubeAt tb i).a.toNat]? = some i
theorem setW_has {n : Nat} {tb : List T3} (hok : OkTubes n tb) : ∀ {p : List Int} {v u : Int} {st : List Int}, wk tb (-1) p v u → (begins tb p).Nodup → st.length = n → Has tb (setW tb p st) p := by
  intro p
  induction p with
  | nil => intro v u st _ _ _ i hi; cases hi
  | cons i p ih =>
    rintro v u st ⟨h0, h1, t, ht, ha, h⟩ hd hl j hj
    rw [begins, List.map_cons, List.nodup_cons] at hd
    have hb := (hok t (List.mem_of_getElem? ht)).1
    rw [setW]
    rcases List.mem_cons.1 hj with rfl | hj
    · rw [setW_other hok h (by rw [tubeAt_get ht]; exact hb.1) hd.1, List.getElem?_set_self (by rw [tubeAt_get ht, hl]; omega)]
    · exact ih h hd.2 (by rw [List.length_set]; exact hl) j hj
/-- A carrier's run by a setting. -/
def runP (tb : List T3) (S : List Int) : List Int → Int → Int → Prop
  | [], v, u => v = u
  | i :: r, v, u => v ≠ u ∧ 0 ≤ i ∧ dAt S v = i ∧ runP tb S r (tubeAt tb i).b u
theorem run_has {tb : List T3} {S : List Int} : ∀ {p : List Int} {v u : Int}, wk tb (-1) p v u → (begins tb p ++ [u]).Nodup → Has tb S p → runP tb S p v u := by
  intro p
  induction p with
  | nil => intro v u h _ _; exact h
  | cons i p ih =>
    rintro v u ⟨h0, h1, t, ht, ha, h⟩ hd hh
    rw [begins, List.map_cons, List.cons_append, List.nodup_cons] at hd
    have h2 := hh i (List.mem_cons_self ..)
    rw [tubeAt_get ht, ha] at h2 hd
    refine ⟨fun e => hd.1 (by rw [e]; simp), h0, by simp [dAt, h2], ?_⟩
    rw [tubeAt_get ht]
    exact ih h hd.2 fun j hj => hh j (List.mem_cons_of_mem _ hj)
theorem run_wk {n : Nat} {tb : List T3} (hok : OkTubes n tb) {S : List Int} (hs : OkSet n tb S) : ∀ {p : List Int} {v u : Int}, 0 ≤ v → v < n → runP tb S p v u → wk tb (-1) p v u := by
  intro p
  induction p with
  | nil => intro v u _ _ h; exact h
  | cons i p ih =>
    rintro v u h0 hv ⟨hne, hi, hd, h⟩
    obtain ⟨k, hk, hdk, hc⟩ := hs.at h0 hv
    rw [hd] at hdk
    subst hdk
    rcases hc with hc | ⟨_, t, ht, ha⟩
    · omega
    · have hb := (hok t (List.mem_of_getElem? ht)).2.1
      rw [tubeAt_get ht] at h
      exact ⟨hi, by omega, t, ht, ha, ih hb.1 hb.2 h⟩
/-- The switches that must be turned. -/
def turnsC (tb : List T3) (S : List Int) : List Int → Int
  | [] => 0
  | i :: r => (if dAt S (tubeAt tb i).a = i then 0 else 1) + turnsC tb S r
theorem turnsC_bd (tb : List T3) (S : List Int) : ∀ p : List Int, 0 ≤ turnsC tb S p ∧ turnsC tb S p ≤ p.length := by
  intro p
  induction p with
  | nil => simp [turnsC]
  | cons i p ih => rw [turnsC, List.length_cons]; split <;> omega
theorem turnsC_drop {tb : List T3} {S p : List Int} {k : Nat} {i : Int} (h : p[k]? = some i) : turnsC tb S (p.drop k) = (if dAt S (tubeAt tb i).a = i then 0 else 1) + turnsC tb S (p.drop (k + 1)) := by rw [drop_cons h, turnsC]
theorem turnsC_end {tb : List T3} {S p : List Int} {k : Nat} (h : p.length ≤ k) : turnsC tb S (p.drop k) = 0 := by rw [List.drop_eq_nil_of_le h, turnsC]
theorem turns_has {tb : List T3} {S : List Int} : ∀ {p : List Int}, Has tb S p → turnsC tb S p = 0 := by
  intro p
  induction p with
  | nil => intro _; rfl
  | cons i p ih =>
    intro h
    have h1 : dAt S (tubeAt tb i).a = i := by simp [dAt, h i (List.mem_cons_self ..)]
    rw [turnsC, if_pos h1, ih fun j hj => h j (List.mem_cons_of_mem _ hj)]; rfl
/-- Where a carrier stops within some steps; -1 if it does not. -/
def stopN (tb : List T3) (S : List Int) : Nat → Int → Int
  | 0, _ => -1
  | k + 1, v => if dAt S v < 0 then v else stopN tb S k (tubeAt tb (dAt S v)).b
theorem stopN_cases {n : Nat} {tb : List T3} (hok : OkTubes n tb) {S : List Int} (hs : OkSet n tb S) : ∀ (k : Nat) (v : Int), 0 ≤ v → v < n → stopN tb S k v = -1 ∨ ((0 ≤ stopN tb S k v ∧ stopN tb S k v < n) ∧ dAt S (stopN tb S k v) = -1 ∧ ∃ p, runP tb S p v (stopN tb S k v) ∧ p.length < k) := by
  intro k
  induction k with
  | zero => intro v _ _; exact .inl rfl
  | succ k ih =>
    intro v h0 hv
    obtain ⟨z, hz, hdz, hc⟩ := hs.at h0 hv
    rw [stopN]
    by_cases h : dAt S v < 0
    · rw [if_pos h]
      refine .inr ⟨⟨h0, hv⟩, by omega, [], rfl, by simp⟩
    · rw [if_neg h]
      rcases hc with hc | ⟨hz0, t, ht, ha⟩
      · omega
      · have hb := (hok t (List.mem_of_getElem? ht)).2.1
        rw [hdz, tubeAt_get ht]
        rcases ih t.b hb.1 hb.2 with h1 | ⟨h1, h2, p, hp, hpl⟩
        · exact .inl h1
        · refine .inr ⟨h1, h2, z :: p, ⟨fun e => ?_, hz0, hdz, by rw [tubeAt_get ht]; exact hp⟩, by simp; omega⟩
          rw [← e] at h2; omega
theorem stopN_bd {n : Nat} {tb : List T3} (hok : OkTubes n tb) {S : List Int} (hs : OkSet n tb S) (k : Nat) {v : Int} (h0 : 0 ≤ v) (hv : v < n) : -1 ≤ stopN tb S k v ∧ stopN tb S k v < n := by
  rcases stopN_cases hok hs k v h0 hv with h | ⟨h, _⟩ <;> omega
/-- The stations from which a carrier never stops. -/
def circP (n : Nat) (tb : List T3) (S : List Int) (k : Nat) : Bool := decide (stopN tb S n k < 0)
def circL (n : Nat) (tb : List T3) (S : List Int) : List Int := idxFrom (circP n tb S) (List.range n) 0
theorem circ_rises {n : Nat} {tb : List T3} {S : List Int} : Rises (circL n tb S) n := by
  have h := idx_rises (circP n tb S) (List.range n)
  rw [List.length_range] at h; exact h
theorem circ_mem {n : Nat} {tb : List T3} {S : List Int} {i : Nat} (hi : i < n) : hasI (circL n tb S) i = decide (stopN tb S n i < 0) := by
  rw [Bool.eq_iff_iff, hasI_mem, circL, idx_mem]
  constructor
  · rintro ⟨j, x, hz, hx, hp⟩
    rw [List.getElem?_range (by have := (List.getElem?_eq_some_iff.1 hx).1; simpa using this)] at hx
    simp only [Option.some.injEq] at hx
    subst hx
    have : i = j := by omega
    subst this; exact hp
  · intro h
    exact ⟨i, i, by simp, by rw [List.getElem?_range hi], h⟩
theorem circ_len {n : Nat} {tb : List T3} {S : List Int} : (circL n tb S).length ≤ n := by
  have := idxFrom_len (circP n tb S) (List.range n) 0; rw [List.length_range] at this; exact this
theorem simple_len {n : Nat} {tb : List T3} (hok : OkTubes n tb) {p : List Int} {v u : Int} (h : Simple tb p v u) (hu : 0 ≤ u ∧ u < n) : p.length < n := by
  have h1 := nodup_len (n := n) h.2 fun x hx => by
    rcases List.mem_append.1 hx with hx | hx
    · exact begins_in hok h.1 x hx
    · rw [List.mem_singleton] at hx; subst hx; exact hu
  rw [List.length_append, begins, List.length_map] at h1
  simp at h1; omega
end Go.Proofs.YtaajkmjilcamgaaGreatDoor
namespace Go.Proofs.YtaajkmjilcamgaaGreatDoor
open Go.RowKit
/-- All simple ways behind P, in order. -/
def sWays (tb : List T3) : Nat → List Int → List Int → Int → Int → List (List Int)
  | 0, P, _, a, t => if a = t then [P] else []
  | m + 1, P, S, a, t => if a = t then [P] else (tubesL tb a).flatMap fun i => if hasI S (tubeAt tb i).b = false ∧ (tubeAt tb i).b ≠ a then sWays tb m (P ++ [i]) (S ++ [a]) (tubeAt tb i).b t else []
theorem begins_append (tb : List T3) (p q : List Int) : begins tb (p ++ q) = begins tb p ++ begins tb q := by simp [begins]
theorem hasI_false {xs : List Int} {v : Int} : hasI xs v = false ↔ v ∉ xs := by rw [Bool.eq_false_iff, ne_eq, hasI_mem]
theorem tubesL_mem {tb : List T3} {s i : Int} : i ∈ tubesL tb s ↔ ∃ (j : Nat) (t : T3), i = (j : Int) ∧ tb[j]? = some t ∧ t.a = s := by
  unfold tubesL
  rw [idx_mem]
  constructor
  · rintro ⟨j, x, h1, h2, h3⟩; exact ⟨j, x, by rw [h1, Nat.zero_add], h2, by simpa using h3⟩
  · rintro ⟨j, x, h1, h2, h3⟩; exact ⟨j, x, by rw [h1, Nat.zero_add], h2, by simpa using h3⟩
theorem sWays_sound {n : Nat} {tb : List T3} (hok : OkTubes n tb) : ∀ (m : Nat) (P S : List Int) (v a t : Int), wk tb (-1) P v a → begins tb P = S → (S ++ [a]).Nodup → ∀ q ∈ sWays tb m P S a t, Simple tb q v t := by
  intro m
  induction m with
  | zero =>
    intro P S v a t h1 h2 h3 q hq
    rw [sWays] at hq
    split at hq
    · rename_i h; subst h; rw [List.mem_singleton] at hq; subst hq; exact ⟨h1, by rw [h2]; exact h3⟩
    · cases hq
  | succ m ih =>
    intro P S v a t h1 h2 h3 q hq
    rw [sWays] at hq
    split at hq
    · rename_i h; subst h; rw [List.mem_singleton] at hq; subst hq; exact ⟨h1, by rw [h2]; exact h3⟩
    · rw [List.mem_flatMap] at hq
      obtain ⟨i, hi, hq⟩ := hq
      obtain ⟨j, x, rfl, hx, hxa⟩ := tubesL_mem.1 hi
      have ht : tubeAt tb (j : Int) = x := tubeAt_get (by simpa using hx)
      split at hq
      · rename_i hc
        rw [ht] at hc hq
        refine ih (P ++ [(j : Int)]) (S ++ [a]) v x.b t (wk_append.2 ⟨a, h1, by omega, by omega, x, by simpa using hx, hxa, rfl⟩) ?_ ?_ q hq
        · rw [begins_append, h2]; show S ++ [(tubeAt tb (j : Int)).a] = _; rw [ht, hxa]
        · rw [List.nodup_append]
          refine ⟨h3, by simp, fun y hy z hz e => ?_⟩
          rw [List.mem_singleton] at hz; subst hz; subst e
          rcases List.mem_append.1 hy with hy | hy
          · exact hasI_false.1 hc.1 hy
          · rw [List.mem_singleton] at hy; exact hc.2 hy
      · cases hq
theorem begins_head {tb : List T3} {R : List Int} {b t : Int} (h : wk tb (-1) R b t) : b ∈ begins tb R ++ [t] := by
  cases R with
  | nil => have : b = t := h; subst this; simp
  | cons i R => have := wk_start h; rw [begins, List.map_cons, ← this]; simp
theorem sWays_complete {n : Nat} {tb : List T3} (hok : OkTubes n tb) : ∀ (R : List Int) (m : Nat) (P S : List Int) (a t : Int), wk tb (-1) R a t → begins tb P = S → (begins tb (P ++ R) ++ [t]).Nodup → R.length ≤ m → P ++ R ∈ sWays tb m P S a t := by
  intro R
  induction R with
  | nil =>
    intro m P S a t h1 h2 h3 h4
    have : a = t := h1
    subst this
    cases m <;> rw [sWays, if_pos rfl, List.append_nil] <;> exact List.mem_singleton.2 rfl
  | cons i R ih =>
    intro m P S a t h1 h2 h3 h4
    obtain ⟨m, rfl⟩ : ∃ k, m = k + 1 := ⟨m - 1, by simp at h4; omega⟩
    obtain ⟨h0, h5, x, hx, hxa, h6⟩ := h1
    have ht : tubeAt tb i = x := tubeAt_get hx
    have hb : begins tb (P ++ i :: R) ++ [t] = S ++ a :: (begins tb R ++ [t]) := by
      rw [begins_append, h2, begins, begins, List.map_cons, ht, hxa]; simp
    rw [hb, List.nodup_append] at h3
    obtain ⟨hS, h7, h8⟩ := h3
    rw [List.nodup_cons] at h7
    have hat : ¬ a = t := fun e => h7.1 (by rw [e]; simp)
    have hbm := begins_head h6
    rw [sWays, if_neg hat, List.mem_flatMap]
    refine ⟨i, tubesL_mem.2 ⟨i.toNat, x, by omega, hx, hxa⟩, ?_⟩
    rw [ht]
    have hc : hasI S x.b = false ∧ x.b ≠ a := ⟨hasI_false.2 fun hm => h8 x.b hm x.b (List.mem_cons_of_mem _ hbm) rfl, fun e => h7.1 (e ▸ hbm)⟩
    rw [if_pos hc]
    have := ih m (P ++ [i]) (S ++ [a]) x.b t h6 (by rw [begins_append, h2]; show S ++ [(tubeAt tb i).a] = _; rw [ht, hxa]) (by
      rw [List.append_assoc]; show (begins tb (P ++ i :: R) ++ [t]).Nodup; rw [hb, List.nodup_append]; exact ⟨hS, List.nodup_cons.2 h7, h8⟩) (by simp at h4; omega)
    rwa [List.append_assoc] at this
/-- The best of ways: fewer turns; of the same turns the shorter one. -/
def best3 (tn ln : List Int → Int) (s : List Int × Int × Int) (q : List Int) : List Int × Int × Int :=
  if s.2.1 < 0 ∨ tn q < s.2.1 ∨ (tn q = s.2.1 ∧ ln q < s.2.2) then (q, tn q, ln q) else s
theorem best3_inv {tn ln : List Int → Int} (h0 : ∀ q, 0 ≤ tn q) : ∀ (qs : List (List Int)) (s : List Int × Int × Int), 0 ≤ s.2.1 → s.2.1 = tn s.1 →
    0 ≤ (qs.foldl (best3 tn ln) s).2.1 ∧ (qs.foldl (best3 tn ln) s).2.1 = tn (qs.foldl (best3 tn ln) s).1 ∧ (qs.foldl (best3 tn ln) s).2.1 ≤ s.2.1 ∧ (∀ q ∈ qs, (qs.foldl (best3 tn ln) s).2.1 ≤ tn q) ∧ ((qs.foldl (best3 tn ln) s).1 = s.1 ∨ (qs.foldl (best3 tn ln) s).1 ∈ qs) := by
  intro qs
  induction qs with
  | nil => intro s h1 h2; exact ⟨h1, h2, Int.le_refl _, (fun q hq => by cases hq), .inl rfl⟩
  | cons q qs ih =>
    intro s h1 h2
    rw [List.foldl_cons]
    have hs : 0 ≤ (best3 tn ln s q).2.1 ∧ (best3 tn ln s q).2.1 = tn (best3 tn ln s q).1 ∧ (best3 tn ln s q).2.1 ≤ s.2.1 ∧ (best3 tn ln s q).2.1 ≤ tn q ∧ ((best3 tn ln s q).1 = s.1 ∨ (best3 tn ln s q).1 = q) := by
      unfold best3
      split
      · rename_i hc; exact ⟨h0 q, rfl, by dsimp only; omega, Int.le_refl _, .inr rfl⟩
      · rename_i hc; exact ⟨h1, h2, Int.le_refl _, by omega, .inl rfl⟩
    obtain ⟨k1, k2, k3, k4, k5⟩ := hs
    obtain ⟨j1, j2, j3, j4, j5⟩ := ih (best3 tn ln s q) k1 k2
    refine ⟨j1, j2, by omega, fun x hx => ?_, ?_⟩
    · rcases List.mem_cons.1 hx with rfl | hx
      · omega
      · exact j4 x hx
    · rcases j5 with j5 | j5
      · rcases k5 with k5 | k5
        · exact .inl (j5.trans k5)
        · exact .inr (by rw [j5, k5]; exact List.mem_cons_self ..)
      · exact .inr (List.mem_cons_of_mem _ j5)
theorem best3_law {tn ln : List Int → Int} (h0 : ∀ q, 0 ≤ tn q) (qs : List (List Int)) :
    (qs = [] ∧ qs.foldl (best3 tn ln) ([], -1, 0) = ([], -1, 0)) ∨ (0 ≤ (qs.foldl (best3 tn ln) ([], -1, 0)).2.1 ∧ (qs.foldl (best3 tn ln) ([], -1, 0)).2.1 = tn (qs.foldl (best3 tn ln) ([], -1, 0)).1 ∧ (qs.foldl (best3 tn ln) ([], -1, 0)).1 ∈ qs ∧ ∀ q ∈ qs, (qs.foldl (best3 tn ln) ([], -1, 0)).2.1 ≤ tn q) := by
  cases qs with
  | nil => exact .inl ⟨rfl, rfl⟩
  | cons q qs =>
    have e : best3 tn ln ([], -1, 0) q = (q, tn q, ln q) := by unfold best3; rw [if_pos (.inl (by decide))]
    rw [List.foldl_cons, e]
    obtain ⟨j1, j2, j3, j4, j5⟩ := best3_inv h0 qs (q, tn q, ln q) (h0 q) rfl
    refine .inr ⟨j1, j2, ?_, fun x hx => ?_⟩
    · rcases j5 with j5 | j5
      · rw [j5]; exact List.mem_cons_self ..
      · exact List.mem_cons_of_mem _ j5
    · rcases List.mem_cons.1 hx with rfl | hx
      · exact j3
      · exact j4 x hx
/-! ### Clashes -/
def cl1 (st : Int → Int) (i : Int) : List Int → Int → Int
  | [], m => m
  | k :: ks, m => cl1 st i ks (if i ≠ k ∧ st k = st i ∧ (m < 0 ∨ st i < m) then st i else m)
def clS (st : Int → Int) (b : List Int) : List Int → Int → Int
  | [], m => m
  | i :: is, m => clS st b is (cl1 st i b m)
/-- The least of some numbers; -1 if there are none. -/
def LeastOf (S : Int → Prop) (r : Int) : Prop := (r = -1 ∧ ∀ s, ¬ S s) ∨ (S r ∧ 0 ≤ r ∧ ∀ s, S s → r ≤ s)
theorem LeastOf.unique {S : Int → Prop} {r q : Int} (h : LeastOf S r) (k : LeastOf S q) : r = q := by
  rcases h with ⟨rfl, h⟩ | ⟨h1, h2, h3⟩
  · rcases k with ⟨rfl, _⟩ | ⟨k1, _⟩
    · rfl
    · exact absurd k1 (h q)
  · rcases k with ⟨rfl, k⟩ | ⟨k1, k2, k3⟩
    · exact absurd h1 (k r)
    · have := h3 q k1; have := k3 r h1; omega
theorem LeastOf.congr {S T : Int → Prop} {r : Int} (h : LeastOf S r) (e : ∀ s, S s ↔ T s) : LeastOf T r := by
  rcases h with ⟨h1, h2⟩ | ⟨h1, h2, h3⟩
  · exact .inl ⟨h1, fun s hs => h2 s ((e s).2 hs)⟩
  · exact .inr ⟨(e r).1 h1, h2, fun s hs => h3 s ((e s).2 hs)⟩
theorem LeastOf.step {S : Int → Prop} {m v : Int} (h : LeastOf S m) (hv : 0 ≤ v) (c : Prop) [Decidable c] : LeastOf (fun s => S s ∨ (c ∧ s = v)) (if c ∧ (m < 0 ∨ v < m) then v else m) := by
  rcases h with ⟨rfl, h2⟩ | ⟨h1, h2, h3⟩
  · by_cases hc : c
    · rw [if_pos ⟨hc, .inl (by decide)⟩]
      exact .inr ⟨.inr ⟨hc, rfl⟩, hv, fun s hs => by rcases hs with hs | ⟨_, rfl⟩; exact absurd hs (h2 s); exact Int.le_refl _⟩
    · rw [if_neg (fun e => hc e.1)]
      exact .inl ⟨rfl, fun s hs => by rcases hs with hs | ⟨hs, _⟩; exact h2 s hs; exact hc hs⟩
  · by_cases hc : c ∧ (m < 0 ∨ v < m)
    · rw [if_pos hc]
      exact .inr ⟨.inr ⟨hc.1, rfl⟩, hv, fun s hs => by rcases hs with hs | ⟨_, rfl⟩; (have := h3 s hs; omega); exact Int.le_refl _⟩
    · rw [if_neg hc]
      refine .inr ⟨.inl h1, h2, fun s hs => ?_⟩
      rcases hs with hs | ⟨hs, rfl⟩
      · exact h3 s hs
      · have : ¬ (m < 0 ∨ s < m) := fun e => hc ⟨hs, e⟩
        omega
theorem cl1_law {st : Int → Int} {i : Int} (hi : 0 ≤ st i) : ∀ (ks : List Int) (S : Int → Prop) (m : Int), LeastOf S m → LeastOf (fun s => S s ∨ ∃ k ∈ ks, i ≠ k ∧ st k = st i ∧ s = st i) (cl1 st i ks m) := by
  intro ks
  induction ks with
  | nil => intro S m h; exact h.congr fun s => by simp
  | cons k ks ih =>
    intro S m h
    rw [cl1]
    have h1 := h.step hi (i ≠ k ∧ st k = st i)
    have h2 := ih _ _ h1
    have e : (if (i ≠ k ∧ st k = st i) ∧ (m < 0 ∨ st i < m) then st i else m) = (if i ≠ k ∧ st k = st i ∧ (m < 0 ∨ st i < m) then st i else m) := by
      simp only [and_assoc]
    rw [e] at h2
    refine h2.congr fun s => ?_
    constructor
    · rintro ((h | ⟨⟨h3, h4⟩, h5⟩) | ⟨q, hq, h3, h4, h5⟩)
      · exact .inl h
      · exact .inr ⟨k, List.mem_cons_self .., h3, h4, h5⟩
      · exact .inr ⟨q, List.mem_cons_of_mem _ hq, h3, h4, h5⟩
    · rintro (h | ⟨q, hq, h3, h4, h5⟩)
      · exact .inl (.inl h)
      · rcases List.mem_cons.1 hq with rfl | hq
        · exact .inl (.inr ⟨⟨h3, h4⟩, h5⟩)
        · exact .inr ⟨q, hq, h3, h4, h5⟩
theorem clS_law {st : Int → Int} {b : List Int} : ∀ (is : List Int) (S : Int → Prop) (m : Int), (∀ i ∈ is, 0 ≤ st i) → LeastOf S m → LeastOf (fun s => S s ∨ ∃ i ∈ is, ∃ k ∈ b, i ≠ k ∧ st k = st i ∧ s = st i) (clS st b is m) := by
  intro is
  induction is with
  | nil => intro S m _ h; exact h.congr fun s => by simp
  | cons i is ih =>
    intro S m h0 h
    rw [clS]
    have h1 := cl1_law (h0 i (List.mem_cons_self ..)) b S m h
    refine (ih _ _ (fun j hj => h0 j (List.mem_cons_of_mem _ hj)) h1).congr fun s => ?_
    constructor
    · rintro ((h | ⟨k, hk, h3⟩) | ⟨j, hj, h3⟩)
      · exact .inl h
      · exact .inr ⟨i, List.mem_cons_self .., k, hk, h3⟩
      · exact .inr ⟨j, List.mem_cons_of_mem _ hj, h3⟩
    · rintro (h | ⟨j, hj, h3⟩)
      · exact .inl (.inl h)
      · rcases List.mem_cons.1 hj with rfl | hj
        · exact .inl (.inr h3)
        · exact .inr ⟨j, hj, h3⟩
def clash (tb : List T3) (a b : List Int) : Int := clS (fun i => (tubeAt tb i).a) b a (-1)
theorem clash_law {n : Nat} {tb : List T3} (hok : OkTubes n tb) {a b : List Int} {v u : Int} (ha : wk tb (-1) a v u) : LeastOf (fun s => ∃ i ∈ a, ∃ k ∈ b, i ≠ k ∧ (tubeAt tb k).a = (tubeAt tb i).a ∧ s = (tubeAt tb i).a) (clash tb a b) := by
  have h := clS_law (st := fun i => (tubeAt tb i).a) (b := b) a (fun _ => False) (-1) (fun i hi => by
    have := begins_in hok ha (tubeAt tb i).a (List.mem_map_of_mem hi)
    exact this.1) (.inl ⟨rfl, fun s h => h⟩)
  exact h.congr fun s => by simp
theorem clash_sym {n : Nat} {tb : List T3} (hok : OkTubes n tb) {a b : List Int} {v u v' u' : Int} (ha : wk tb (-1) a v u) (hb : wk tb (-1) b v' u') : clash tb a b = clash tb b a := by
  refine (clash_law hok ha).unique ((clash_law hok hb).congr fun s => ?_)
  constructor
  · rintro ⟨i, hi, k, hk, h1, h2, h3⟩; exact ⟨k, hk, i, hi, fun e => h1 e.symm, h2.symm, by rw [h3, h2]⟩
  · rintro ⟨i, hi, k, hk, h1, h2, h3⟩; exact ⟨k, hk, i, hi, fun e => h1 e.symm, h2.symm, by rw [h3, h2]⟩
theorem nodup_inj {α β : Type} (f : α → β) : ∀ {xs : List α}, (xs.map f).Nodup → ∀ {x y : α}, x ∈ xs → y ∈ xs → f x = f y → x = y := by
  intro xs
  induction xs with
  | nil => intro _ x y hx; cases hx
  | cons z zs ih =>
    intro h x y hx hy e
    rw [List.map_cons, List.nodup_cons] at h
    rcases List.mem_cons.1 hx with hx2 | hx2
    · rcases List.mem_cons.1 hy with hy2 | hy2
      · rw [hx2, hy2]
      · exact absurd (by rw [← hx2, e]; exact List.mem_map_of_mem hy2) h.1
    · rcases List.mem_cons.1 hy with hy2 | hy2
      · exact absurd (by rw [← hy2, ← e]; exact List.mem_map_of_mem hx2) h.1
      · exact ih h.2 hx2 hy2 e
theorem clash_self {n : Nat} {tb : List T3} (hok : OkTubes n tb) {a : List Int} {v u : Int} (h : Simple tb a v u) : clash tb a a = -1 := by
  have hn : (begins tb a).Nodup := (List.nodup_append.1 h.2).1
  refine (clash_law hok h.1).unique (.inl ⟨rfl, ?_⟩)
  rintro s ⟨i, hi, k, hk, h1, h2, _⟩
  exact h1 (nodup_inj _ hn hi hk h2.symm)
theorem clash_bd {n : Nat} {tb : List T3} (hok : OkTubes n tb) {a b : List Int} {v u : Int} (ha : wk tb (-1) a v u) : -1 ≤ clash tb a b ∧ clash tb a b < n := by
  rcases clash_law (b := b) hok ha with ⟨h, _⟩ | ⟨⟨i, hi, k, hk, h1, h2, h3⟩, h4, _⟩
  · omega
  · have := begins_in hok ha (tubeAt tb i).a (List.mem_map_of_mem hi)
    omega
end Go.Proofs.YtaajkmjilcamgaaGreatDoor
namespace Go.Proofs.YtaajkmjilcamgaaGreatDoor
open Go.RowKit
end Go.Proofs.YtaajkmjilcamgaaGreatDoor
namespace Go.Proofs.YtaajkmjilcamgaaGreatDoor
def cn (d : List Int) : Int := (d.map fun z => if 0 ≤ z then (1 : Int) else 0).sum
def mm (d : List Int) : Int := (d.map fun z => if z < 0 then (20001 : Int) else z).sum
theorem sum_setF (f : Int → Int) : ∀ {d : List Int} {k : Nat} {z y : Int}, d[k]? = some z → ((d.set k y).map f).sum = (d.map f).sum - f z + f y := by
  intro d
  induction d with
  | nil => intro k z y h; simp at h
  | cons u d ih =>
    intro k z y h
    cases k with
    | zero => simp at h; subst h; rw [List.set_cons_zero, List.map_cons, List.sum_cons, List.map_cons, List.sum_cons]; omega
    | succ k => rw [List.set_cons_succ, List.map_cons, List.sum_cons, List.map_cons, List.sum_cons, ih (by simpa using h)]; omega
theorem cn_le (d : List Int) : 0 ≤ cn d ∧ cn d ≤ d.length := by
  unfold cn
  induction d with
  | nil => simp
  | cons z d ih => rw [List.map_cons, List.sum_cons, List.length_cons]; split <;> omega
theorem mm_nonneg {d : List Int} (h : ∀ z ∈ d, -1 ≤ z) : 0 ≤ mm d := by
  unfold mm
  induction d with
  | nil => simp
  | cons z d ih =>
    have h1 := ih fun u hu => h u (List.mem_cons_of_mem _ hu)
    rw [List.map_cons, List.sum_cons]; split <;> omega
/-- The values while they are made. -/
def FB (n : Nat) (tb : List T3) (td : Int) (d : List Int) : Prop := d.length = n ∧ (∀ z ∈ d, -1 ≤ z ∧ z ≤ 2000 * cn d) ∧ Sound tb (-1) td d
theorem FB.bd {n : Nat} {tb : List T3} {td : Int} {d : List Int} (h : FB n tb td d) (hn : n ≤ 10) : ∀ z ∈ d, -1 ≤ z ∧ z ≤ 20000 := fun z hz => by
  have h1 := h.2.1 z hz
  have h2 := (cn_le d).2
  have h3 := h.1
  omega
theorem FB.set {n : Nat} {tb : List T3} (hok : OkTubes n tb) (hn : n ≤ 10) {td : Int} {d : List Int} (h : FB n tb td d) {j : Nat} {a b : Nat} {c da db : Int} (hj : tb[j]? = some ⟨(a : Int), (b : Int), c⟩) (ha : d[a]? = some da) (hb : d[b]? = some db) (hdb : 0 ≤ db) (hs : da < 0 ∨ db + c < da) :
    FB n tb td (d.set a (db + c)) ∧ mm (d.set a (db + c)) < mm d := by
  have hc := hok _ (List.mem_of_getElem? hj)
  obtain ⟨_, _, hc1, hc2⟩ := hc
  dsimp only at hc1 hc2
  have hba := h.2.1 da (List.mem_of_getElem? ha)
  have hbb := h.2.1 db (List.mem_of_getElem? hb)
  have hbd := h.bd hn
  have hbb2 := hbd db (List.mem_of_getElem? hb)
  have hcn : cn (d.set a (db + c)) = cn d - (if 0 ≤ da then 1 else 0) + 1 := by
    unfold cn
    rw [sum_setF (fun z => if 0 ≤ z then (1 : Int) else 0) ha]
    rw [if_pos (show 0 ≤ db + c by omega)]
  have hl : (d.set a (db + c)).length = n := by rw [List.length_set]; exact h.1
  have hcl := (cn_le (d.set a (db + c))).2
  have hle : cn d ≤ cn (d.set a (db + c)) := by rw [hcn]; split <;> omega
  have hnew : db + c ≤ 2000 * cn (d.set a (db + c)) := by
    rw [hcn]
    rcases hs with hs | hs
    · rw [if_neg (by omega)]; omega
    · by_cases h0 : 0 ≤ da
      · rw [if_pos h0]; omega
      · rw [if_neg h0]; omega
  refine ⟨⟨hl, fun z hz => ?_, ?_⟩, ?_⟩
  · rcases List.mem_or_eq_of_mem_set hz with hz | rfl
    · have := h.2.1 z hz; omega
    · omega
  · have hx := relax1_sound (wo := -1) (i := (j : Int)) hok h.1 (by omega) (by rw [Int.toNat_natCast]; exact hj) h.2.2
    unfold relax1 at hx
    have eb : dAt d (b : Int) = db := dAt_get hb
    have ea : dAt d (a : Int) = da := dAt_get ha
    rw [if_neg (by dsimp only; rw [eb]; omega), if_pos (by dsimp only; rw [eb, ea]; exact hs)] at hx
    dsimp only at hx
    rw [eb, Int.toNat_natCast] at hx
    exact hx
  · unfold mm
    rw [sum_setF (fun z => if z < 0 then (20001 : Int) else z) ha, if_neg (show ¬ db + c < 0 by omega)]
    by_cases h0 : da < 0
    · rw [if_pos h0]; omega
    · rw [if_neg h0]; omega
theorem FB.start {n : Nat} {tb : List T3} {td : Nat} (h : td < n) : FB n tb td (dist0 n td) := by
  have hc : (dist0 n td).length = n := by simp [dist0]
  have hg : (List.replicate n (-1 : Int))[td]? = some (-1) := by rw [List.getElem?_replicate, if_pos h]
  have h1 := sum_setF (fun z => if 0 ≤ z then (1 : Int) else 0) (y := 0) hg
  have h2 := (cn_le (List.replicate n (-1 : Int))).1
  refine ⟨hc, fun z hz => ?_, dist0_sound (by omega) (by omega)⟩
  have h3 : cn (dist0 n td) = cn (List.replicate n (-1 : Int)) + 1 := by
    unfold cn dist0
    rw [Int.toNat_natCast, h1]; simp
  unfold dist0 at hz
  rcases List.mem_or_eq_of_mem_set hz with hz | rfl
  · rw [List.eq_of_mem_replicate hz]; omega
  · omega
theorem repC_next {k n : Nat} (h : k < n) : (repC k n).set k (.int .i64 (-1)) = repC (k + 1) n := by
  apply List.ext_getElem?
  intro j
  unfold repC
  simp only [List.map_append, List.map_replicate]
  grind
end Go.Proofs.YtaajkmjilcamgaaGreatDoor
