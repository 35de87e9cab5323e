/-
  Seals, the plain law: the next carrier is worn least; worn ones have no runs left; a run uses one.
-/
import Derived.Test.YtflbddfmhjlknaaCarNext
import Derived.Test.YtflbddfmhjlknaaCarRuns
namespace Go.Proofs.Ytflbddfmhjlknaa

/-- Every carrier that can run is worn no less than the best one, as far as it has been looked at. -/
def BestTo (x : List T2) (k : Nat) (best : Option Nat) : Prop :=
  match best with
  | none => ∀ (i : Nat) (z : T2), i < k → x[i]? = some z → ¬ z.a < z.b
  | some b => ∃ y, x[b]? = some y ∧ y.a < y.b ∧ b < k ∧ ∀ (i : Nat) (z : T2), i < k → x[i]? = some z → z.a < z.b → y.a * z.b ≤ z.a * y.b
theorem frac_trans {a b c d e f : Int} (hb : 0 < b) (hd : 0 < d) (hf : 0 < f) (h1 : a * d ≤ c * b) (h2 : c * f ≤ e * d) : a * f ≤ e * b := by
  have h3 := Int.mul_le_mul_of_nonneg_right h1 (Int.le_of_lt hf)
  have h4 := Int.mul_le_mul_of_nonneg_right h2 (Int.le_of_lt hb)
  have h5 : a * f * d ≤ e * b * d := by
    have e1 : a * d * f = a * f * d := by rw [Int.mul_assoc, Int.mul_comm d f, ← Int.mul_assoc]
    have e2 : c * b * f = c * f * b := by rw [Int.mul_assoc, Int.mul_comm b f, ← Int.mul_assoc]
    have e3 : e * d * b = e * b * d := by rw [Int.mul_assoc, Int.mul_comm d b, ← Int.mul_assoc]
    omega
  exact Int.le_of_mul_le_mul_right h5 hd
theorem best_step {x : List T2} (hv : ∀ z ∈ x, (1 ≤ z.b ∧ z.b ≤ 1000) ∧ (0 ≤ z.a ∧ z.a ≤ z.b)) {k : Nat} {best : Option Nat} {z : T2} (hz : x[k]? = some z) (h : BestTo x k best) : BestTo x (k + 1) (if better x best z = true then some k else best) := by
  have hzb := hv z (List.mem_of_getElem? hz)
  cases best with
  | none =>
    by_cases hr : z.a < z.b
    · rw [if_pos (by simp [better, hr])]
      refine ⟨z, hz, hr, by omega, fun i u hi hu hur => ?_⟩
      rcases Nat.lt_or_ge i k with hik | hik
      · exact absurd hur (h i u hik hu)
      · obtain rfl : i = k := by omega
        rw [hz] at hu; injection hu with hu; subst hu; exact Int.le_refl _
    · rw [if_neg (by simp [better, hr])]
      intro i u hi hu
      rcases Nat.lt_or_ge i k with hik | hik
      · exact h i u hik hu
      · obtain rfl : i = k := by omega
        rw [hz] at hu; injection hu with hu; subst hu; exact hr
  | some b =>
    obtain ⟨y, hy, hyr, hbk, hmin⟩ := h
    have hyb := hv y (List.mem_of_getElem? hy)
    by_cases hb : better x (some b) z = true
    · rw [if_pos hb]
      simp only [better, hy, Bool.and_eq_true, decide_eq_true_eq] at hb
      refine ⟨z, hz, hb.1, by omega, fun i u hi hu hur => ?_⟩
      rcases Nat.lt_or_ge i k with hik | hik
      · have hub := hv u (List.mem_of_getElem? hu)
        exact frac_trans (b := z.b) (d := y.b) (f := u.b) (by omega) (by omega) (by omega) (Int.le_of_lt hb.2) (hmin i u hik hu hur)
      · obtain rfl : i = k := by omega
        rw [hz] at hu; injection hu with hu; subst hu; exact Int.le_refl _
    · rw [if_neg hb]
      simp only [better, hy, Bool.and_eq_true, decide_eq_true_eq, not_and] at hb
      refine ⟨y, hy, hyr, by omega, fun i u hi hu hur => ?_⟩
      rcases Nat.lt_or_ge i k with hik | hik
      · exact hmin i u hik hu hur
      · obtain rfl : i = k := by omega
        rw [hz] at hu; injection hu with hu; subst hu
        have := hb hur; omega
theorem best_from {x : List T2} (hv : ∀ z ∈ x, (1 ≤ z.b ∧ z.b ≤ 1000) ∧ (0 ≤ z.a ∧ z.a ≤ z.b)) : ∀ (n k : Nat) (best : Option Nat), k + n = x.length → BestTo x k best → BestTo x x.length (nextFrom x (x.drop k) k best) := by
  intro n
  induction n with
  | zero =>
    intro k best hk h
    rw [List.drop_eq_nil_of_le (by omega), nextFrom]
    rw [show k = x.length by omega] at h
    exact h
  | succ n ih =>
    intro k best hk h
    have hz := List.getElem?_eq_getElem (show k < x.length by omega)
    rw [drop_cons hz, nextFrom]
    exact ih (k + 1) _ (by omega) (best_step hv hz h)
theorem next_best {x : List T2} (h : (nextCarrier x).2 = 0) : ∃ b y, (nextCarrier x).1 = (b : Nat) ∧ x[b]? = some y ∧ ∀ (i : Nat) (z : T2), x[i]? = some z → z.a < z.b → ¬ z.a * y.b < y.a * z.b := by
  unfold nextCarrier at h ⊢
  split at h
  · rename_i hv
    rw [if_pos hv]
    have hb := best_from (vSeals_iff.1 hv).1 x.length 0 none (by omega) (fun i z hi => by omega)
    rw [List.drop_zero] at hb
    cases hn : nextFrom x x 0 none with
    | none => rw [hn] at h; simp at h
    | some b =>
      rw [hn] at hb
      obtain ⟨y, hy, _, hbl, hm⟩ := hb
      exact ⟨b, y, rfl, hy, fun i z hz hr => by have := hm i z (lt_of_get hz) hz hr; omega⟩
  · simp at h
theorem idx_all {α : Type} (p : α → Bool) : ∀ (x : List α) (k : Nat), (idxFrom p x k).length = x.length ↔ x.all p = true := by
  intro x
  induction x with
  | nil => intro k; simp [idxFrom]
  | cons z x ih =>
    intro k
    have hl := idxFrom_len p x (k + 1)
    unfold idxFrom
    by_cases h : p z = true
    · rw [if_pos h, List.length_cons, List.length_cons, List.all_cons, h, Bool.true_and, ← ih (k + 1)]; omega
    · have hf : p z = false := by simpa using h
      rw [if_neg h, List.length_cons, List.all_cons, hf, Bool.false_and]
      constructor
      · intro h2; omega
      · intro h2; cases h2
theorem sum_zero {x : List T2} (hv : ∀ z ∈ x, (1 ≤ z.b ∧ z.b ≤ 1000) ∧ (0 ≤ z.a ∧ z.a ≤ z.b)) : 0 ≤ (x.map fun z => z.b - z.a).sum ∧ ((x.map fun z => z.b - z.a).sum = 0 ↔ x.all (fun z : T2 => z.a == z.b) = true) := by
  induction x with
  | nil => simp
  | cons z x ih =>
    have h1 := hv z (List.mem_cons_self ..)
    have h2 := ih fun u hu => hv u (List.mem_cons_of_mem _ hu)
    rw [List.map_cons, List.sum_cons, List.all_cons, Bool.and_eq_true]
    refine ⟨by omega, ?_⟩
    rw [← h2.2, beq_iff_eq]
    constructor
    · intro h; exact ⟨by omega, by omega⟩
    · intro h; omega
theorem worn_runs {x : List T2} (h : (runsLeft x).2 = 0) : ((wornSeals x).1.length = x.length) ↔ (runsLeft x).1 = 0 := by
  unfold runsLeft at h
  by_cases hv : vSeals x = true
  · unfold runsLeft wornSeals
    rw [if_pos hv, if_pos hv]
    dsimp only
    rw [idx_all, (sum_zero (vSeals_iff.1 hv).1).2]
  · rw [if_neg hv] at h; simp at h
theorem sum_set2 {x : List T2} : ∀ {n : Nat} {z y : T2}, x[n]? = some z → ((x.set n y).map fun z => z.b - z.a).sum = (x.map fun z => z.b - z.a).sum - (z.b - z.a) + (y.b - y.a) := by
  induction x with
  | nil => intro n z y h; simp at h
  | cons u x ih =>
    intro n z y h
    cases n with
    | zero => simp at h; subst h; rw [List.set_cons_zero, List.map_cons, List.sum_cons, List.map_cons, List.sum_cons]; omega
    | succ n => rw [List.set_cons_succ, List.map_cons, List.sum_cons, List.map_cons, List.sum_cons, ih (by simpa using h)]; omega
theorem run_less {x : List T2} {k : Int} (h : (runCarrier x k).2 = 0) : (runCarrier x k).1.length = x.length ∧ (runsLeft x).2 = 0 ∧ (runsLeft (runCarrier x k).1).2 = 0 ∧ (runsLeft (runCarrier x k).1).1 = (runsLeft x).1 - 1 := by
  unfold runCarrier at h ⊢
  by_cases hv : vSeals x = true
  · rw [if_pos hv] at h ⊢
    by_cases hk : 0 ≤ k ∧ k < x.length
    · rw [if_pos hk] at h ⊢
      obtain ⟨n, rfl⟩ := Int.eq_ofNat_of_zero_le hk.1
      rw [Int.toNat_natCast] at h ⊢
      have hz := List.getElem?_eq_getElem (show n < x.length by omega)
      rw [hz] at h ⊢
      dsimp only at h ⊢
      by_cases he : x[n].a = x[n].b
      · rw [if_pos he] at h; simp at h
      · rw [if_neg he]
        obtain ⟨hall, hlen⟩ := vSeals_iff.1 hv
        have hzb := hall _ (List.mem_of_getElem? hz)
        have hv2 : vSeals (x.set n ⟨x[n].a + 1, x[n].b⟩) = true := by
          refine vSeals_iff.2 ⟨fun u hu => ?_, by rw [List.length_set]; exact hlen⟩
          rcases List.mem_or_eq_of_mem_set hu with hu | rfl
          · exact hall u hu
          · dsimp only; omega
        unfold runsLeft
        dsimp only
        rw [if_pos hv, if_pos hv2, sum_set2 hz]
        refine ⟨by rw [List.length_set], rfl, rfl, ?_⟩
        dsimp only; omega
    · rw [if_neg hk] at h; simp at h
  · rw [if_neg hv] at h; simp at h
end Go.Proofs.Ytflbddfmhjlknaa
