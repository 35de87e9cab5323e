/-
  Rides: places, pressures, the slowest one. Plain definitions and lemmas.
  Contracts of small functions: the range tests, the copies and comparisons of slices of numbers.
-/
import Derived.Test.YtlkccijlbeibjaaProg
import Derived.Test.YtlkccijlbeibjaaQPlaces0
import Derived.WalkKit
import Derived.BigQuiet
import Derived.Deep.QuietTactic
import Derived.Deep.LoopGhost
import Derived.StillTailTactics
namespace Go.Proofs.Ytlkccijlbeibjaa
open Go.RowKit
def denR (x : T4) : Int := 100 + x.b + 10 * x.d
def okR (x : T4) : Bool := inB 1 2000 x.a && (inB 0 500 x.b && (inB 1 100 x.c && inB 0 40 x.d))
theorem okR_iff {x : T4} : okR x = true ↔ (1 ≤ x.a ∧ x.a ≤ 2000) ∧ (0 ≤ x.b ∧ x.b ≤ 500) ∧ (1 ≤ x.c ∧ x.c ≤ 100) ∧ (0 ≤ x.d ∧ x.d ≤ 40) := by simp [okR, inB]
def ticksR (x : T4) : Int := (x.a * denR x + 100 * x.c - 1) / (100 * x.c)
def okRs (xs : List T4) : Bool := decide (xs.length ≤ 8) && xs.all okR
def sumR (xs : List T4) : Int := (xs.map ticksR).sum
def lowF (n d : Int) : Int × Int := (n / (Int.gcd n d : Int), d / (Int.gcd n d : Int))
def tickCode (b : Bool) (t : Int) : Int := if b = false then 1 else if inB 0 1000000 t = false then 2 else 0
def ticksOfWay (xs : List T4) : Int × Int := if okRs xs = false then (0, 1) else (sumR xs, 0)
def speedOf (x : T4) : (Int × Int) × Int := if okR x = false then ((0, 0), 1) else (lowF (100 * x.c) (denR x), 0)
def placeGo : List T4 → Int → Nat → Int × (Int × Int) × Int
  | [], _, _ => (0, (0, 0), 3)
  | x :: xs, t, i => if t < ticksR x then ((i : Int), lowF (100 * x.c * t) (denR x), 0) else placeGo xs (t - ticksR x) (i + 1)
def placeAfter (xs : List T4) (t : Int) : Int × (Int × Int) × Int := if tickCode (okRs xs) t = 0 then placeGo xs t 0 else (0, (0, 0), tickCode (okRs xs) t)
def slowGo : List T4 → Nat → T4 → Nat → Nat
  | [], _, _, k => k
  | x :: xs, i, y, k => if x.c * denR y < y.c * denR x then slowGo xs (i + 1) x i else slowGo xs (i + 1) y k
def slowest (xs : List T4) : Int × Int := if okRs xs = false then (0, 1) else match xs with | [] => (0, 3) | x :: _ => ((slowGo xs 0 x 0 : Nat), 0)
def caught (a b : T4) (later t : Int) : Bool := decide (a.c * t * denR b ≤ b.c * (t - later) * denR a)
def catchGo (a b : T4) (later : Int) : Nat → Int → Int × Int
  | 0, _ => (0, 3)
  | n + 1, t => if caught a b later t then (t, 0) else catchGo a b later n (t + 1)
def catchUp (a b : T4) (later : Int) : Int × Int := if okR a = false ∨ okR b = false then (0, 1) else if inB 0 10000 later = false then (0, 2) else if a.a ≠ b.a then (0, 8) else catchGo a b later (ticksR a - later).toNat later
/-- A ride with a pressure more. -/
def upR (x : T4) : T4 := ⟨x.a, x.b, x.c + 1, x.d⟩
def setC (x : T4) (c : Int) : T4 := ⟨x.a, x.b, c, x.d⟩
/-- The ride for which more pressure saves most. -/
def pickGo : List T4 → Nat → Int → Int → Int × Int
  | [], _, k, m => (k, m)
  | x :: xs, i, k, m => if x.c = 100 then pickGo xs (i + 1) k m else if m < ticksR x - ticksR (upR x) then pickGo xs (i + 1) i (ticksR x - ticksR (upR x)) else pickGo xs (i + 1) k m
def pressGo (goal : Int) : Nat → List T4 → List Int × Int
  | 0, _ => ([], 3)
  | n + 1, xs => if sumR xs ≤ goal then (xs.map T4.c, 0) else if (pickGo xs 0 (-1) (-1)).1 < 0 then ([], 3) else
    pressGo goal n (match xs[(pickGo xs 0 (-1) (-1)).1.toNat]? with | some x => xs.set (pickGo xs 0 (-1) (-1)).1.toNat (upR x) | none => xs)
def bestPress (xs : List T4) (goal : Int) : List Int × Int := if tickCode (okRs xs) goal = 0 then pressGo goal 801 (xs.map fun x => setC x 1) else ([], tickCode (okRs xs) goal)

/-! ### The plain law -/
theorem denR_pos {x : T4} (h : okR x = true) : 100 ≤ denR x ∧ denR x ≤ 1000 := by
  have := okR_iff.1 h; unfold denR; omega
theorem ticksR_pos {x : T4} (h : okR x = true) : 1 ≤ ticksR x := by
  have h1 := okR_iff.1 h
  have h2 := denR_pos h
  unfold ticksR
  have h3 : 1 * 1 ≤ x.a * denR x := Int.mul_le_mul h1.1.1 (by omega) (by omega) (by omega)
  rw [Int.le_ediv_iff_mul_le (by omega)]; omega
theorem lt_ticks {x : T4} (h : okR x = true) {t : Int} (ht : t < ticksR x) : 100 * x.c * t ≤ x.a * denR x := by
  have h1 := okR_iff.1 h
  unfold ticksR at ht
  have h3 : t + 1 ≤ (x.a * denR x + 100 * x.c - 1) / (100 * x.c) := by omega
  rw [Int.le_ediv_iff_mul_le (by omega), Int.add_mul] at h3
  rw [Int.mul_comm (100 * x.c) t]; omega
theorem lowF_le {n d l : Int} (hd : 0 < d) (h : n ≤ l * d) : (lowF n d).1 ≤ l * (lowF n d).2 := by
  unfold lowF
  have hg0 : Int.gcd n d ≠ 0 := by intro e; rw [Int.gcd_eq_zero_iff] at e; omega
  have hg : (0 : Int) < (Int.gcd n d : Int) := by omega
  obtain ⟨a, ha⟩ := Int.gcd_dvd_left n d
  obtain ⟨b, hb⟩ := Int.gcd_dvd_right n d
  rw [Int.ediv_eq_of_eq_mul_right (by omega) ha, Int.ediv_eq_of_eq_mul_right (by omega) hb]
  generalize (Int.gcd n d : Int) = g at *
  subst ha hb
  rw [← Int.mul_assoc, Int.mul_comm l, Int.mul_assoc] at h
  exact Int.le_of_mul_le_mul_left h hg
theorem lowF_den {n d : Int} (hd : 0 < d) : 1 ≤ (lowF n d).2 ∧ (lowF n d).2 ≤ d := by
  unfold lowF
  have hg0 : Int.gcd n d ≠ 0 := by intro e; rw [Int.gcd_eq_zero_iff] at e; omega
  have hg : (0 : Int) < (Int.gcd n d : Int) := by omega
  have hle : (Int.gcd n d : Int) ≤ d := Int.le_of_dvd hd (Int.gcd_dvd_right n d)
  constructor
  · show 1 ≤ d / (Int.gcd n d : Int)
    rw [Int.le_ediv_iff_mul_le hg]; omega
  · exact Int.ediv_le_self _ (by omega)
theorem lowF_num {n d : Int} (hn : 0 ≤ n) (hd : 0 < d) : 0 ≤ (lowF n d).1 ∧ (lowF n d).1 ≤ n := by
  unfold lowF
  exact ⟨Int.ediv_nonneg hn (by omega), Int.ediv_le_self _ hn⟩
/-- Fractions in lowest terms are compared as they were. -/
theorem lowF_cmp {n d n' d' : Int} (hd : 0 < d) (hd' : 0 < d') (h : n' * d ≤ n * d') : (lowF n' d').1 * (lowF n d).2 ≤ (lowF n d).1 * (lowF n' d').2 := by
  unfold lowF
  have hg0 : Int.gcd n d ≠ 0 := by intro e; rw [Int.gcd_eq_zero_iff] at e; omega
  have hg0' : Int.gcd n' d' ≠ 0 := by intro e; rw [Int.gcd_eq_zero_iff] at e; omega
  have hg : (0 : Int) < (Int.gcd n d : Int) := by omega
  have hg' : (0 : Int) < (Int.gcd n' d' : Int) := by omega
  obtain ⟨a, ha⟩ := Int.gcd_dvd_left n d
  obtain ⟨b, hb⟩ := Int.gcd_dvd_right n d
  obtain ⟨a', ha'⟩ := Int.gcd_dvd_left n' d'
  obtain ⟨b', hb'⟩ := Int.gcd_dvd_right n' d'
  rw [Int.ediv_eq_of_eq_mul_right (by omega) ha, Int.ediv_eq_of_eq_mul_right (by omega) hb, Int.ediv_eq_of_eq_mul_right (by omega) ha', Int.ediv_eq_of_eq_mul_right (by omega) hb']
  generalize (Int.gcd n d : Int) = g at *
  generalize (Int.gcd n' d' : Int) = g' at *
  subst ha hb ha' hb'
  have e1 : g' * a' * (g * b) = (g * g') * (a' * b) := by ac_rfl
  have e2 : g * a * (g' * b') = (g * g') * (a * b') := by ac_rfl
  rw [e1, e2] at h
  exact Int.le_of_mul_le_mul_left h (Int.mul_pos hg hg')
theorem okRs_iff {xs : List T4} : okRs xs = true ↔ xs.length ≤ 8 ∧ ∀ x ∈ xs, okR x = true := by simp [okRs]
theorem sumR_nonneg {xs : List T4} (h : ∀ x ∈ xs, okR x = true) : 0 ≤ sumR xs := by
  induction xs with
  | nil => simp [sumR]
  | cons x xs ih =>
    have h1 := ticksR_pos (h x (List.mem_cons_self ..))
    have h2 := ih fun y hy => h y (List.mem_cons_of_mem _ hy)
    unfold sumR at *; rw [List.map_cons, List.sum_cons]; omega
theorem sumR_cons (x : T4) (xs : List T4) : sumR (x :: xs) = ticksR x + sumR xs := by unfold sumR; rw [List.map_cons, List.sum_cons]
theorem placeGo_law {xs : List T4} (h : ∀ x ∈ xs, okR x = true) : ∀ (t : Int) (i : Nat), 0 ≤ t →
    ((placeGo xs t i).2.2 = 0 ∧ t < sumR xs ∧ ∃ k x, (placeGo xs t i).1 = ((i + k : Nat) : Int) ∧ xs[k]? = some x ∧ (placeGo xs t i).2.1.1 ≤ x.a * (placeGo xs t i).2.1.2) ∨ ((placeGo xs t i).2.2 = 3 ∧ sumR xs ≤ t) := by
  induction xs with
  | nil =>
    intro t i ht
    exact .inr ⟨rfl, by simpa [sumR] using ht⟩
  | cons x xs ih =>
    intro t i ht0
    have hx := h x (List.mem_cons_self ..)
    have hxs := fun y hy => h y (List.mem_cons_of_mem _ hy)
    have hd := denR_pos hx
    unfold placeGo
    rw [sumR_cons]
    split
    · rename_i ht
      have := sumR_nonneg hxs
      exact .inl ⟨rfl, by omega, 0, x, rfl, rfl, lowF_le (by omega) (lt_ticks hx ht)⟩
    · rename_i ht; rcases ih hxs (t - ticksR x) (i + 1) (by omega) with ⟨h1, h2, k, y, h3, h4, h5⟩ | ⟨h1, h2⟩
      · exact .inl ⟨h1, by omega, k + 1, y, by rw [h3]; congr 1; omega, by simpa using h4, h5⟩
      · exact .inr ⟨h1, by omega⟩
theorem slowGo_law : ∀ (xs ys : List T4) (y : T4) (k : Nat), (∀ x ∈ ys, okR x = true) → (∀ x ∈ xs, okR x = true) → ys[k]? = some y → (∀ x ∈ ys, y.c * denR x ≤ x.c * denR y) →
    ∃ z, (ys ++ xs)[slowGo xs ys.length y k]? = some z ∧ ∀ x ∈ ys ++ xs, z.c * denR x ≤ x.c * denR z := by
  intro xs
  induction xs with
  | nil => intro ys y k h1 _ h3 h4; exact ⟨y, by simpa [slowGo] using h3, by simpa using h4⟩
  | cons x xs ih =>
    intro ys y k h1 h2 h3 h4
    have hx := h2 x (List.mem_cons_self ..)
    have hxs := fun z hz => h2 z (List.mem_cons_of_mem _ hz)
    have hys : ∀ z ∈ ys ++ [x], okR z = true := fun z hz => by
      rcases List.mem_append.1 hz with hz | hz
      · exact h1 z hz
      · rw [List.mem_singleton] at hz; subst hz; exact hx
    have hy := h1 y (List.mem_of_getElem? h3)
    have e : ys ++ x :: xs = (ys ++ [x]) ++ xs := by simp
    unfold slowGo
    split
    · rename_i hlt
      have := ih (ys ++ [x]) x ys.length hys hxs (by simp) (fun z hz => by
        rcases List.mem_append.1 hz with hz | hz
        · have hzo := h1 z hz
          have h5 := h4 z hz
          have hdy := (denR_pos hy).1; have hdz := (denR_pos hzo).1; have hdx := (denR_pos hx).1
          -- x/dx < y/dy ≤ z/dz
          have h6 : x.c * denR y * denR z ≤ y.c * denR x * denR z := Int.mul_le_mul_of_nonneg_right (by omega) (by omega)
          have h7 : y.c * denR z * denR x ≤ z.c * denR y * denR x := Int.mul_le_mul_of_nonneg_right h5 (by omega)
          have h8 : denR y * (x.c * denR z) ≤ denR y * (z.c * denR x) := by
            have a1 : denR y * (x.c * denR z) = x.c * denR y * denR z := by rw [← Int.mul_assoc, Int.mul_comm (denR y)]
            have a2 : y.c * denR x * denR z = y.c * denR z * denR x := by rw [Int.mul_assoc, Int.mul_comm (denR x), ← Int.mul_assoc]
            have a3 : denR y * (z.c * denR x) = z.c * denR y * denR x := by rw [← Int.mul_assoc, Int.mul_comm (denR y)]
            omega
          exact Int.le_of_mul_le_mul_left h8 (by omega)
        · rw [List.mem_singleton] at hz; subst hz; exact Int.le_refl _)
      rw [List.length_append, List.length_singleton] at this
      rw [e]; exact this
    · rename_i hlt
      have := ih (ys ++ [x]) y k hys hxs (by rw [List.getElem?_append_left (lt_of_get h3)]; exact h3) (fun z hz => by
        rcases List.mem_append.1 hz with hz | hz
        · exact h4 z hz
        · rw [List.mem_singleton] at hz; subst hz; omega)
      rw [List.length_append, List.length_singleton] at this
      rw [e]; exact this
theorem catchGo_law (a b : T4) (later : Int) : ∀ (n : Nat) (t : Int), (catchGo a b later n t).2 = 0 → t ≤ (catchGo a b later n t).1 := by
  intro n
  induction n with
  | zero => intro t h; cases h
  | succ n ih =>
    intro t h
    unfold catchGo at h ⊢
    split
    · exact Int.le_refl _
    · rename_i hc; rw [if_neg hc] at h; have := ih (t + 1) h; omega
theorem pickGo_law {xs : List T4} : ∀ (i : Nat) (k m : Int), (k = -1 ∨ ∃ j : Nat, k = j) → ((pickGo xs i k m).1 = k ∨ ∃ (j : Nat) (x : T4), (pickGo xs i k m).1 = ((i + j : Nat) : Int) ∧ xs[j]? = some x ∧ x.c ≠ 100) := by
  induction xs with
  | nil => intro i k m _; exact .inl rfl
  | cons x xs ih =>
    intro i k m hk
    unfold pickGo
    have hsh : ∀ {r : Int}, (∃ (j : Nat) (x : T4), r = ((i + 1 + j : Nat) : Int) ∧ xs[j]? = some x ∧ x.c ≠ 100) → ∃ (j : Nat) (y : T4), r = ((i + j : Nat) : Int) ∧ (x :: xs)[j]? = some y ∧ y.c ≠ 100 := by
      rintro r ⟨j, y, h1, h2, h3⟩
      exact ⟨j + 1, y, by rw [h1]; congr 1; omega, by simpa using h2, h3⟩
    split
    · rcases ih (i + 1) k m hk with h | h
      · exact .inl h
      · exact .inr (hsh h)
    · rename_i hc
      split
      · rcases ih (i + 1) i (ticksR x - ticksR (upR x)) (.inr ⟨i, rfl⟩) with h | h
        · exact .inr ⟨0, x, h, rfl, hc⟩
        · exact .inr (hsh h)
      · rcases ih (i + 1) k m hk with h | h
        · exact .inl h
        · exact .inr (hsh h)
theorem map_set_of {α β : Type} (f : α → β) : ∀ (xs : List α) (k : Nat) (x y : α), xs[k]? = some x → f y = f x → (xs.set k y).map f = xs.map f := by
  intro xs
  induction xs with
  | nil => intro k x y h; cases h
  | cons z zs ih =>
    intro k x y h e
    cases k with
    | zero => simp at h; subst h; simp [e]
    | succ k => simp only [List.set_cons_succ, List.map_cons]; rw [ih k x y (by simpa using h) e]
theorem upR_ok {x : T4} (h : okR x = true) (hc : x.c ≠ 100) : okR (upR x) = true := by
  have := okR_iff.1 h
  rw [okR_iff]; unfold upR; dsimp only; omega
theorem mem_set_or {α : Type} {xs : List α} {k : Nat} {y z : α} (h : z ∈ xs.set k y) : z = y ∨ z ∈ xs := by
  obtain ⟨i, hi⟩ := List.getElem?_of_mem h
  rw [List.getElem?_set] at hi
  split at hi
  · split at hi
    · cases hi; exact .inl rfl
    · cases hi
  · exact .inr (List.mem_of_getElem? hi)
theorem pressGo_law (goal : Int) : ∀ (n : Nat) (xs : List T4), (∀ x ∈ xs, okR x = true) → (pressGo goal n xs).2 = 0 →
    ∃ ys : List T4, ys.map (fun x => setC x 0) = xs.map (fun x => setC x 0) ∧ (∀ x ∈ ys, okR x = true) ∧ sumR ys ≤ goal ∧ (pressGo goal n xs).1 = ys.map T4.c := by
  intro n
  induction n with
  | zero => intro xs _ h; cases h
  | succ n ih =>
    intro xs hx h
    unfold pressGo at h ⊢
    by_cases h1 : sumR xs ≤ goal
    · rw [if_pos h1] at h ⊢; exact ⟨xs, rfl, hx, h1, rfl⟩
    · rw [if_neg h1] at h ⊢
      by_cases h2 : (pickGo xs 0 (-1) (-1)).1 < 0
      · rw [if_pos h2] at h; cases h
      · rw [if_neg h2] at h ⊢
        rcases pickGo_law (xs := xs) 0 (-1) (-1) (.inl rfl) with h3 | ⟨j, x, h3, h4, h5⟩
        · omega
        · rw [Nat.zero_add] at h3
          rw [h3] at h ⊢
          rw [Int.toNat_natCast, h4] at h ⊢
          dsimp only at h ⊢
          obtain ⟨ys, e1, e2, e3, e4⟩ := ih (xs.set j (upR x)) (fun z hz => by
            rcases mem_set_or hz with rfl | hz
            · exact upR_ok (hx x (List.mem_of_getElem? h4)) h5
            · exact hx z hz) h
          exact ⟨ys, by rw [e1, map_set_of (fun x => setC x 0) xs j x (upR x) h4 rfl], e2, e3, e4⟩
theorem zip_back : ∀ (xs ys : List T4), ys.map (fun x => setC x 0) = xs.map (fun x => setC x 0) → List.zipWith setC xs (ys.map T4.c) = ys := by
  intro xs
  induction xs with
  | nil => intro ys h; cases ys with | nil => rfl | cons y ys => cases h
  | cons x xs ih =>
    intro ys h
    cases ys with
    | nil => cases h
    | cons y ys =>
      simp only [List.map_cons, List.cons.injEq] at h
      rw [List.map_cons, List.zipWith_cons_cons, ih ys h.2]
      have e : setC x y.c = y := by
        have := h.1
        cases x; cases y
        simp only [setC, T4.mk.injEq, true_and, and_true] at this ⊢
        exact ⟨this.1.symm, this.2.1.symm, this.2.2.symm⟩
      rw [e]
/-- Pressures that are told are enough. -/
theorem bestPress_law {xs : List T4} {goal : Int} (h : (bestPress xs goal).2 = 0) : (bestPress xs goal).1.length = xs.length ∧ okRs (List.zipWith setC xs (bestPress xs goal).1) = true ∧ sumR (List.zipWith setC xs (bestPress xs goal).1) ≤ goal ∧ (∀ z ∈ (bestPress xs goal).1, 1 ≤ z ∧ z ≤ 100) := by
  unfold bestPress at h ⊢
  split at h
  case isFalse hc => exact absurd h hc
  rename_i hc
  rw [if_pos hc]
  have hok : okRs xs = true := by
    unfold tickCode at hc; split at hc
    · cases hc
    · rename_i h1; simpa using h1
  obtain ⟨hl, hx⟩ := okRs_iff.1 hok
  have hx1 : ∀ x ∈ xs.map (fun x => setC x 1), okR x = true := fun z hz => by
    obtain ⟨x, hm, rfl⟩ := List.mem_map.1 hz
    have := okR_iff.1 (hx x hm)
    rw [okR_iff]; unfold setC; dsimp only; omega
  obtain ⟨ys, e1, e2, e3, e4⟩ := pressGo_law goal 801 _ hx1 h
  have e5 : ys.map (fun x => setC x 0) = xs.map (fun x => setC x 0) := by rw [e1, List.map_map]; rfl
  have hlen : ys.length = xs.length := by have := congrArg List.length e5; simpa using this
  rw [e4]
  refine ⟨by rw [List.length_map, hlen], ?_, ?_, ?_⟩
  · rw [zip_back _ _ e5, okRs_iff]; exact ⟨by omega, e2⟩
  · rw [zip_back _ _ e5]; exact e3
  · intro z hz
    obtain ⟨x, hm, rfl⟩ := List.mem_map.1 hz
    exact (okR_iff.1 (e2 x hm)).2.2.1
theorem slowest_law {xs : List T4} (h : (slowest xs).2 = 0) : ∃ (k : Nat) (z : T4), (slowest xs).1 = k ∧ xs[k]? = some z ∧ okRs xs = true ∧ ∀ x ∈ xs, z.c * denR x ≤ x.c * denR z := by
  unfold slowest at h ⊢
  by_cases hc : okRs xs = false
  · rw [if_pos hc] at h; cases h
  · rw [if_neg hc] at h ⊢
    have hok : okRs xs = true := by simpa using hc
    obtain ⟨_, hx⟩ := okRs_iff.1 hok
    cases xs with
    | nil => cases h
    | cons x xs =>
      dsimp only at h ⊢
      have h1 := slowGo_law xs [x] x 0 (fun z hz => by rw [List.mem_singleton] at hz; subst hz; exact hx _ (List.mem_cons_self ..)) (fun z hz => hx z (List.mem_cons_of_mem _ hz)) rfl (fun z hz => by rw [List.mem_singleton] at hz; subst hz; exact Int.le_refl _)
      have e : slowGo (x :: xs) 0 x 0 = slowGo xs [x].length x 0 := by
        rw [slowGo]
        rw [if_neg (by omega)]; rfl
      obtain ⟨z, h2, h3⟩ := h1
      exact ⟨_, z, rfl, by rw [e]; exact h2, hok, h3⟩
end Go.Proofs.Ytlkccijlbeibjaa
namespace Go.Proofs.Ytlkccijlbeibjaa
open Go.RowKit

theorem int64_info : (Try.prog.info? 2).map (fun i => (i.zero, i.size, i.bytes)) = some (some (.int .i64 0), 1, 8) := by kernel_rfl


/-! ### Range tests -/
set_option maxRecDepth 100000 in
set_option maxHeartbeats 1000000 in
theorem within_t (n lo hi : Int) (w : World) (h : lo ≤ n ∧ n ≤ hi) :
    Calls Try.prog 115 #[.int .i64 n, .int .i64 lo, .int .i64 hi] w fun e w' => e = .returned (.bool true) ∧ w = w' := by
  obtain ⟨h1, h2⟩ := h
  go_enter Try.func115, Try.ntmps115
  go_wp2
  go_ret
  exact ⟨rfl, rfl⟩
set_option maxRecDepth 100000 in
set_option maxHeartbeats 1000000 in
theorem within_f (n lo hi : Int) (w : World) (h : n < lo ∨ hi < n) :
    Calls Try.prog 115 #[.int .i64 n, .int .i64 lo, .int .i64 hi] w fun e w' => e = .returned (.bool false) ∧ w = w' := by
  by_cases h1 : lo ≤ n
  · have h2 : ¬ n ≤ hi := by omega
    clear h
    go_enter Try.func115, Try.ntmps115
    go_wp2
    go_ret
    exact ⟨rfl, rfl⟩
  · clear h
    go_enter Try.func115, Try.ntmps115
    go_wp2
    go_ret
    exact ⟨rfl, rfl⟩
theorem within_any (n lo hi : Int) (w : World) :
    Calls Try.prog 115 #[.int .i64 n, .int .i64 lo, .int .i64 hi] w fun e w' => e = .returned (.bool (inB lo hi n)) ∧ w = w' := by
  by_cases h : lo ≤ n ∧ n ≤ hi
  · rw [inB_t h]; exact within_t n lo hi w h
  · rw [inB_f (by omega)]; exact within_f n lo hi w (by omega)
set_option maxRecDepth 100000 in
set_option maxHeartbeats 1000000 in
theorem l00In_t (n lo hi : Int) (w : World) (h : lo ≤ n ∧ n ≤ hi) :
    Calls Try.prog 116 #[.int .i64 n, .int .i64 lo, .int .i64 hi] w fun e w' => e = .returned (.bool true) ∧ w = w' := by
  obtain ⟨h1, h2⟩ := h
  go_enter Try.func116, Try.ntmps116
  go_wp2
  go_ret
  exact ⟨rfl, rfl⟩
set_option maxRecDepth 100000 in
set_option maxHeartbeats 1000000 in
theorem l00In_f (n lo hi : Int) (w : World) (h : n < lo ∨ hi < n) :
    Calls Try.prog 116 #[.int .i64 n, .int .i64 lo, .int .i64 hi] w fun e w' => e = .returned (.bool false) ∧ w = w' := by
  by_cases h1 : lo ≤ n
  · have h2 : ¬ n ≤ hi := by omega
    clear h
    go_enter Try.func116, Try.ntmps116
    go_wp2
    go_ret
    exact ⟨rfl, rfl⟩
  · clear h
    go_enter Try.func116, Try.ntmps116
    go_wp2
    go_ret
    exact ⟨rfl, rfl⟩
theorem l00In_any (n lo hi : Int) (w : World) :
    Calls Try.prog 116 #[.int .i64 n, .int .i64 lo, .int .i64 hi] w fun e w' => e = .returned (.bool (inB lo hi n)) ∧ w = w' := by
  by_cases h : lo ≤ n ∧ n ≤ hi
  · rw [inB_t h]; exact l00In_t n lo hi w h
  · rw [inB_f (by omega)]; exact l00In_f n lo hi w (by omega)
set_option maxRecDepth 100000 in
set_option maxHeartbeats 1000000 in
theorem eqInt64S_any (xs ys : List Int) (A1 A2 : Option Addr) (c1 c2 : Nat) (w : World) (hx : xs.length ≤ 9223372036854775807) (hy : ys.length ≤ 9223372036854775807)
    (h1 : RdI w w.heap.size A1 xs) (h2 : RdI w w.heap.size A2 ys) :
    Calls Try.prog 74 #[.slice A1 xs.length c1, .slice A2 ys.length c2] w fun e w' => e = .returned (.bool (decide (xs = ys))) ∧ Below w.heap.size w w' := by
  by_cases hl : xs.length = ys.length
  · have hB : ((xs.length : Int) != ys.length) = false := by simp [hl]
    have HL := hide hl; clear hl
    go_enter Try.func74, Try.ntmps74
    go_wp2_with fail
    go_loopg [5] xs.length (fun g i wr => ∃ k : Nat, k ≤ xs.length ∧ g = xs.length - k ∧ i = .int .i64 k ∧ Below w.heap.size w wr ∧ Hid (xs = ys ↔ xs.drop k = ys.drop k))
    case atStart => exact ⟨0, by omega, by omega, rfl, Below.refl _ _, by simp [Hid]⟩
    case round =>
      obtain ⟨k, hk, hg, rfl, hb, HE⟩ := hrel
      by_cases hlt : k < xs.length
      · have hlt2 : k < ys.length := by have := HL.out; omega
        obtain ⟨b1, o1, z1, rfl, _, hz1, hc1⟩ := (h1.below hb).at_ hlt
        obtain ⟨b2, o2, z2, rfl, _, hz2, hc2⟩ := (h2.below hb).at_ hlt2
        have Z1 := hide hz1; have Z2 := hide hz2; clear hz1 hz2 h1 h2
        have HG := hide hg; clear hg
        by_cases he : z1 = z2
        · subst he
          go_wp2_with fail
          go_quiet (fail)
          go_wp2_with fail
          go_roundg (xs.length - (k + 1))
          case measure => have := HG.out; omega
          case rel =>
            refine ⟨k + 1, by omega, rfl, by go_num, bdn hb _, ?_⟩
            have h := HE.out
            rw [drop_cons Z1.out, drop_cons Z2.out] at h
            exact hide (by simpa using h)
        · have hd : (z1 != z2) = true := by simp [he]
          go_wp2_with fail
          go_quiet (fail)
          go_wp2_with fail
          go_ret
          refine ⟨ret_b ?_, bdn hb _⟩
          have h := HE.out
          rw [drop_cons Z1.out, drop_cons Z2.out] at h
          simp [he] at h
          simp [h]
      · go_wp2_with fail
        go_ret
        refine ⟨ret_b ?_, hb⟩
        have h := HE.out
        rw [List.drop_eq_nil_of_le (by omega), List.drop_eq_nil_of_le (by have := HL.out; omega)] at h
        simpa using h
  · have hB : ((xs.length : Int) != ys.length) = true := by simp; omega
    have HL := hide hl; clear hl
    go_enter Try.func74, Try.ntmps74
    go_wp2_with fail
    go_ret
    exact ⟨ret_b (by simp; intro e; exact HL.out (by rw [e])), Below.refl _ _⟩


/-! ### The laws' helpers over []int64 -/
set_option maxRecDepth 100000 in
set_option maxHeartbeats 1000000 in
theorem toInt64S_any (xs : List Int) (A : Option Addr) (c : Nat) (w : World) (hx : xs.length ≤ 1048576) (h1 : RdI w w.heap.size A xs) :
    Calls Try.prog 65 #[.slice A xs.length c] w fun e w' => ∃ A' c', e = .returned (.slice A' xs.length c') ∧ w'.ownsRow w.heap.size 2 1 (.slice A' xs.length c') xs.length (xs.map (Value.int .i64)) ∧ Below w.heap.size w w' := by
  obtain ⟨i0, hi0, hz0, hs0, hb0⟩ := info_parts int64_info
  have HX := hide h1; clear h1
  go_enter Try.func65, Try.ntmps65
  go_wp2_with (refine wpList_make_full _ rfl _ _ _ rfl w.heap.size 2 i0 _ 1 Try.underlying22 hi0 hz0 hs0 .i64 .i64 (xs.length : Int) (xs.length : Int) xs.length rfl rfl rfl rfl (by rw [hb0]; omega) (by unfold maxLen; omega) (Nat.le_refl _) ?_; intro w1 hown1 hgr1)
  have hown2 : w1.ownsRow w.heap.size 2 1 (.slice (some ⟨w.heap.size, 0, none⟩) xs.length xs.length) xs.length ((cp (0 : Int) xs 0).map (Value.int .i64)) := by
    rw [cp_zero, ← made_ints]; exact hown1
  have hbel1 : Below w.heap.size w w1 := (Below.refl _ _).grown hgr1 (Nat.le_refl _) (by intro k hk; cases hk)
  clear hown1 hgr1
  go_loopg [4] xs.length (fun g i wr => ∃ k : Nat, k ≤ xs.length ∧ Hid (g = xs.length - k) ∧ i = .int .i64 k ∧ Below w.heap.size w wr ∧
    wr.ownsRow w.heap.size 2 1 (.slice (some ⟨w.heap.size, 0, none⟩) xs.length xs.length) xs.length ((cp (0 : Int) xs k).map (Value.int .i64)))
  case atStart => exact ⟨0, by omega, by simp [Hid], rfl, hbel1, hown2⟩
  case round =>
    obtain ⟨k, hk, hg, rfl, hb, hown⟩ := hrel
    clear hown2 hbel1
    by_cases hlt : k < xs.length
    · obtain ⟨b1, o1, z1, rfl, hb1, hz1, hc1⟩ := (HX.out.below hb).at_ hlt
      have Z1 := hide hz1; clear hz1
      have hgt := hide (cp_get (0 : Int) xs k hlt)
      have hq : wr.cell? ⟨w.heap.size, k, none⟩ = some (.int .i64 0) := by
        rw [hown.cellAt k (by omega), List.getElem?_map, hgt.out]; rfl
      have hf := hown.frozenAt k
      have hs := hown.stored k (.int .i64 z1)
      have hfin : ((cp (0 : Int) xs k).map (Value.int .i64)).set k (.int .i64 z1) = (cp (0 : Int) xs (k + 1)).map (Value.int .i64) := by
        rw [← cp_set (0 : Int) xs k z1 Z1.out, List.map_set]
      rw [hfin] at hs
      have HS := hide hs.1
      clear hs hfin
      go_wp2_with fail
      go_roundg (xs.length - (k + 1))
      case measure => have := hg.out; omega
      case rel => exact ⟨k + 1, by omega, rfl, by go_num, hb.setCell (by simp) _, HS.out⟩
    · go_wp2_with fail
      go_ret
      obtain rfl : k = xs.length := by omega
      rw [cp_full] at hown
      exact ⟨_, _, rfl, hown, hb⟩
set_option maxRecDepth 100000 in
set_option maxHeartbeats 1000000 in
theorem szInt64S_any (A : Option Addr) (n c : Nat) (left : Int) (w : World) (hn : n ≤ 9223372036854775807) (hl : 0 ≤ left) (hl2 : left ≤ 1048576) :
    Calls Try.prog 60 #[.slice A n c, .int .i64 left] w fun e w' => e = .returned (.int .i64 (szF n left)) ∧ w = w' := by
  by_cases h : (n : Int) ≤ left
  · have H := hide (szF_yes h)
    go_enter Try.func60, Try.ntmps60
    go_wp2_with fail
    go_ret
    exact ⟨ret_i H.out.symm, rfl⟩
  · have H := hide (szF_no (n := n) (left := left) (by omega))
    go_enter Try.func60, Try.ntmps60
    go_wp2_with fail
    go_ret
    exact ⟨ret_i H.out.symm, rfl⟩
set_option maxRecDepth 100000 in
set_option maxHeartbeats 1000000 in
theorem markInt64S_any (base : Nat) (xs : List Int) (A : Option Addr) (c : Nat) (k0 : Int) (w : World) (hx : xs.length ≤ 1048576) (hk0 : 0 ≤ k0) (hk1 : k0 ≤ 1099511627776)
    (hown0 : w.ownsRow base 2 1 (.slice A xs.length c) xs.length (xs.map (Value.int .i64))) :
    Calls Try.prog 76 #[.slice A xs.length c, .int .i64 k0] w fun e w' => e = .returned (.int .i64 (k0 + xs.length)) ∧
      w'.ownsRow base 2 1 (.slice A xs.length c) xs.length ((marks (mkI k0) xs.length).map (Value.int .i64)) ∧ w.grownBy w' (Value.slice A xs.length c).ownBlock := by
  have hob := own_block hown0
  go_enter Try.func76, Try.ntmps76
  go_wp2_with fail
  go_loopg [1, 5] xs.length (fun g kk i wr => ∃ k : Nat, k ≤ xs.length ∧ Hid (g = xs.length - k) ∧ i = .int .i64 k ∧ kk = .int .i64 (k0 + k) ∧ w.grownBy wr (Value.slice A xs.length c).ownBlock ∧
    wr.ownsRow base 2 1 (.slice A xs.length c) xs.length ((mix (mkI k0) xs k).map (Value.int .i64)))
  case atStart => exact ⟨0, by omega, by simp [Hid], rfl, by simp, World.grownBy.refl _ _, by rw [mix_zero]; exact hown0⟩
  case round =>
    obtain ⟨k, hk, hg, rfl, rfl, hb, hown⟩ := hrel
    clear hown0
    by_cases hlt : k < xs.length
    · obtain ⟨g0, rfl, _, _⟩ : ∃ g, A = some ⟨g, 0, none⟩ ∧ base ≤ g ∧ g < w.heap.size := by
        rcases hob with ⟨_, h, _⟩ | h
        · omega
        · exact h
      clear hob
      have hgt := hide (mix_get (mkI k0) xs k hlt)
      have hq : ∃ u, wr.cell? ⟨g0, k, none⟩ = some (.int .i64 u) := ⟨_, by rw [hown.cellAt k (by omega), List.getElem?_map, hgt.out]; rfl⟩
      obtain ⟨u0, hq⟩ := hq
      have hf := hown.frozenAt k
      have hs := hown.stored k (.int .i64 (k0 + k))
      have hfin : ((mix (mkI k0) xs k).map (Value.int .i64)).set k (.int .i64 (k0 + k)) = (mix (mkI k0) xs (k + 1)).map (Value.int .i64) := by
        rw [← mix_set (mkI k0) xs k hlt, List.map_set]; rfl
      rw [hfin] at hs
      have HS := hide hs
      clear hs hfin
      go_wp2_with fail
      go_roundg (xs.length - (k + 1))
      case measure => have := hg.out; omega
      case rel => exact ⟨k + 1, by omega, rfl, by go_num, (by congr 1; omega), gtrans hb HS.out.2, HS.out.1⟩
    · go_wp2_with fail
      go_ret
      obtain rfl : k = xs.length := by omega
      rw [mix_full] at hown
      exact ⟨rfl, hown, hb⟩
set_option maxRecDepth 100000 in
set_option maxHeartbeats 1000000 in
theorem markInt64S_nil (A : Option Addr) (c : Nat) (k0 : Int) (w : World) (hk0 : 0 ≤ k0) (hk1 : k0 ≤ 1099511627776) :
    Calls Try.prog 76 #[.slice A 0 c, .int .i64 k0] w fun e w' => e = .returned (.int .i64 k0) ∧ w = w' := by
  go_enter Try.func76, Try.ntmps76
  go_wp2_with fail
  refine wp_loop_rounds 1 ?_
  rw [rounds_succ]
  go_wp2_with fail
  go_ret
  exact ⟨rfl, rfl⟩
set_option maxRecDepth 100000 in
set_option maxHeartbeats 1000000 in
theorem heldInt64S_any (n : Nat) (A : Option Addr) (c : Nat) (k0 : Int) (w : World) (hx : n ≤ 1048576) (hk0 : 0 ≤ k0) (hk1 : k0 ≤ 1099511627776)
    (h1 : RdI w w.heap.size A (marks (mkI k0) n)) :
    Calls Try.prog 78 #[.slice A n c, .int .i64 k0] w fun e w' => e = .returned (.int .i64 (k0 + n)) ∧ Below w.heap.size w w' := by
  have HX := hide h1; clear h1
  go_enter Try.func78, Try.ntmps78
  go_wp2_with fail
  go_loopg [1, 5] n (fun g kk i wr => ∃ k : Nat, k ≤ n ∧ Hid (g = n - k) ∧ i = .int .i64 k ∧ kk = .int .i64 (k0 + k) ∧ Below w.heap.size w wr)
  case atStart => exact ⟨0, by omega, by simp [Hid], rfl, by simp, Below.refl _ _⟩
  case round =>
    obtain ⟨k, hk, hg, rfl, rfl, hb⟩ := hrel
    by_cases hlt : k < n
    · obtain ⟨b1, o1, z1, rfl, _, hz1, hc1⟩ := (HX.out.below hb).at_ (k := k) (by rw [marks_len]; exact hlt)
      rw [marks_get _ _ _ hlt] at hz1
      obtain rfl : mkI k0 k = z1 := by injection hz1
      clear hz1
      simp only [mkI] at hc1
      have hB : ((k0 + (k : Int)) != (k0 + (k : Int))) = false := by simp
      go_wp2_with fail
      go_roundg (n - (k + 1))
      case measure => have := hg.out; omega
      case rel => exact ⟨k + 1, by omega, rfl, by go_num, (by congr 1; omega), hb⟩
    · go_wp2_with fail
      go_ret
      obtain rfl : k = n := by omega
      exact ⟨rfl, hb⟩

/-! ### slices.IndexFunc over []int64 -/
set_option maxRecDepth 100000 in
set_option maxHeartbeats 1000000 in
theorem indexFuncI_any (p : Int → Bool) (F : FuncId) (cap : Array Value) (xs : List Int) (A : Option Addr) (c : Nat) (w : World) (hx : xs.length ≤ 9223372036854775807)
    (hcf : ∀ args w, (callFunc F args).run Try.prog w = .ok (.enter F args) w) (h1 : RdI w w.heap.size A xs)
    (hp : ∀ z W, Below w.heap.size w W → Calls Try.prog F (#[.int .i64 z] ++ cap) W fun e w' => e = .returned (.bool (p z)) ∧ Below W.heap.size W w') :
    Calls Try.prog 173 #[.slice A xs.length c, .func (.func F) #[] cap] w fun e w' => e = .returned (.int .i64 (firstI p xs 0)) ∧ Below w.heap.size w w' := by
  have HP := hide hp; clear hp
  go_enter Try.func173, Try.ntmps173
  go_wp2_with fail
  go_loopg [8] xs.length (fun g i wr => ∃ k : Nat, k ≤ xs.length ∧ g = xs.length - k ∧ i = .int .i64 k ∧ Below w.heap.size w wr ∧ Hid (firstI p xs 0 = firstI p (xs.drop k) k))
  case atStart => exact ⟨0, by omega, by omega, rfl, Below.refl _ _, hide (by simp)⟩
  case round =>
    obtain ⟨k, hk, hg, rfl, hb, HE⟩ := hrel
    have HG := hide hg; clear hg
    by_cases hlt : k < xs.length
    · obtain ⟨b, o, z, rfl, _, hz, hc⟩ := (h1.below hb).at_ hlt
      have Z := hide hz; clear hz h1
      have HQ := HP.out z wr hb
      have h := HE.out
      rw [drop_cons Z.out] at h
      cases hpz : p z
      · rw [hpz] at HQ
        have h' := hide (show firstI p xs 0 = firstI p (xs.drop (k + 1)) (k + 1) by simpa [firstI, hpz] using h)
        have HQ' := hide HQ
        clear h HQ hpz HE
        go_wp2_with fail
        refine HQ'.out.mono ?_
        rintro e w1 ⟨rfl, hb1⟩
        go_wp2_with fail
        go_roundg (xs.length - (k + 1))
        case measure => have := HG.out; omega
        case rel => exact ⟨k + 1, by omega, rfl, by go_num, hb.trans (hb1.mono hb.size), h'⟩
      · rw [hpz] at HQ
        have h' := hide (show firstI p xs 0 = k by simpa [firstI, hpz] using h)
        have HQ' := hide HQ
        clear h HQ hpz HE
        go_wp2_with fail
        refine HQ'.out.mono ?_
        rintro e w1 ⟨rfl, hb1⟩
        go_wp2_with fail
        go_ret
        exact ⟨ret_i h'.out.symm, hb.trans (hb1.mono hb.size)⟩
    · go_wp2_with fail
      go_ret
      refine ⟨ret_i ?_, hb⟩
      have h := HE.out
      rw [List.drop_eq_nil_of_le (by omega)] at h
      rw [h]; rfl
set_option maxRecDepth 100000 in
set_option maxHeartbeats 1000000 in
theorem containsFuncI_any (p : Int → Bool) (F : FuncId) (cap : Array Value) (xs : List Int) (A : Option Addr) (c : Nat) (w : World) (hx : xs.length ≤ 9223372036854775807)
    (hcf : ∀ args w, (callFunc F args).run Try.prog w = .ok (.enter F args) w) (h1 : RdI w w.heap.size A xs)
    (hp : ∀ z W, Below w.heap.size w W → Calls Try.prog F (#[.int .i64 z] ++ cap) W fun e w' => e = .returned (.bool (p z)) ∧ Below W.heap.size W w') :
    Calls Try.prog 164 #[.slice A xs.length c, .func (.func F) #[] cap] w fun e w' => e = .returned (.bool (xs.any p)) ∧ Below w.heap.size w w' := by
  have HC := hide (indexFuncI_any p F cap xs A c w hx hcf h1 hp)
  clear hp
  have HE := hide (firstI_ge p xs 0)
  go_enter Try.func164, Try.ntmps164
  go_wp2_with fail
  refine HC.out.mono ?_
  rintro e w1 ⟨rfl, hb⟩
  go_wp2_with fail
  go_ret
  exact ⟨ret_b HE.out, hb⟩
/-! ### outside -/
set_option maxRecDepth 100000 in
set_option maxHeartbeats 1000000 in
theorem outside1_any (z lo hi : Int) (b1 b2 : Nat) (w : World) (h1 : w.cell? ⟨b1, 0, none⟩ = some (.int .i64 lo)) (h2 : w.cell? ⟨b2, 0, none⟩ = some (.int .i64 hi)) :
    Calls Try.prog 165 #[.int .i64 z, .pointer (some ⟨b1, 0, none⟩), .pointer (some ⟨b2, 0, none⟩)] w fun e w' => e = .returned (.bool (!inB lo hi z)) ∧ Below w.heap.size w w' := by
  have HC := hide (within_any z lo hi w)
  go_enter Try.func165, Try.ntmps165
  go_wp2_with (go_at_call 115; refine HC.out.mono ?_; rintro e w' ⟨rfl, rfl⟩)
  go_ret
  exact ⟨rfl, Below.refl _ _⟩
set_option maxRecDepth 100000 in
set_option maxHeartbeats 1000000 in
theorem outside_any (xs : List Int) (lo hi : Int) (A : Option Addr) (c : Nat) (w : World) (hx : xs.length ≤ 9223372036854775807) (h1 : RdI w w.heap.size A xs) :
    Calls Try.prog 137 #[.slice A xs.length c, .int .i64 lo, .int .i64 hi] w fun e w' => e = .returned (.bool (xs.any fun z => !inB lo hi z)) ∧ Below w.heap.size w w' := by
  have HX := hide h1; clear h1
  go_enter Try.func137, Try.ntmps137
  go_wp2_with fail
  have hb0 : Below w.heap.size w ((w.alloc (.cells #[.int .i64 lo] 2)).alloc (.cells #[.int .i64 hi] 2)) := (by repeat (first | exact Below.refl _ _ | assumption | (refine Below.alloc ?_ (by simp <;> omega) _) | refine Below.drew ?_ | refine bdn ?_ _))
  have hcf := callFunc_gen (P := Try.prog) (F := 165) Try.func165 (by kernel_rfl) (by kernel_rfl)
  refine (containsFuncI_any (fun z => !inB lo hi z) 165 _ xs A c _ hx hcf ((HX.out.below hb0).more (by simp; omega)) ?_).mono ?_
  · intro z W hW
    have e1 : W.cell? ⟨w.heap.size, 0, none⟩ = some (.int .i64 lo) := by rw [hW.cell (by simp; omega)]; simp [go_sem]
    have e2 : W.cell? ⟨w.heap.size + 1, 0, none⟩ = some (.int .i64 hi) := by rw [hW.cell (by simp)]; simp [go_sem]
    exact outside1_any z lo hi _ _ W e1 e2
  · rintro e w1 ⟨rfl, hb⟩
    go_wp2_with fail
    go_ret
    exact ⟨rfl, hb0.trans (hb.mono (by simp; omega))⟩
end Go.Proofs.Ytlkccijlbeibjaa
