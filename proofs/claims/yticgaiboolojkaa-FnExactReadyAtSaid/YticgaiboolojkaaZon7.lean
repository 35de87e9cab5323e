/-
  Zones: at how many ticks a level is great enough; in the program and in the reference.
-/
import Derived.Test.YticgaiboolojkaaZon4
namespace Go.Proofs.Yticgaiboolojkaa
open Go.RowKit

theorem chOk_sorted {n : Int} : ∀ {cs : List T3} {p : Option T3}, chOk n p cs = true → cs.Pairwise (fun a b => a.a ≤ b.a) ∧ ∀ c ∈ cs, okC n c = true := by
  intro cs
  induction cs with
  | nil => intro p _; exact ⟨List.Pairwise.nil, fun c hc => by cases hc⟩
  | cons d ds ih =>
    intro p h
    rw [chOk] at h
    simp only [Bool.and_eq_true] at h
    obtain ⟨i1, i2⟩ := ih h.2.2
    refine ⟨List.pairwise_cons.2 ⟨fun c hc => ?_, i1⟩, fun c hc => ?_⟩
    · have := ltC_iff.1 (chOk_all h.2.2 c hc); omega
    · rcases List.mem_cons.1 hc with rfl | hc
      · exact h.1
      · exact i2 c hc
def geB (least a : Int) : Bool := decide (least ≤ a)
theorem geB_t {least a : Int} (h : least ≤ a) : geB least a = true := decide_eq_true h
theorem geB_f {least a : Int} (h : ¬ least ≤ a) : geB least a = false := decide_eq_false h
/-- At how many of the first ticks p holds. -/
def cntAt (p : Int → Bool) : Nat → Int
  | 0 => 0
  | n + 1 => cntAt p n + if p n then 1 else 0
theorem cntAt_bd (p : Int → Bool) : ∀ n, 0 ≤ cntAt p n ∧ cntAt p n ≤ n := by
  intro n
  induction n with
  | zero => simp [cntAt]
  | succ n ih => rw [cntAt]; split <;> omega
theorem cntAt_congr {p q : Int → Bool} : ∀ {n : Nat}, (∀ t : Int, 0 ≤ t → t < n → p t = q t) → cntAt p n = cntAt q n := by
  intro n
  induction n with
  | zero => intro _; rfl
  | succ n ih =>
    intro h
    rw [cntAt, cntAt, ih fun t h1 h2 => h t h1 (by omega), h n (by omega) (by omega)]
theorem cntAt_from {p : Int → Bool} {b : Bool} {m : Nat} : ∀ {n : Nat}, m ≤ n → (∀ t : Int, (m : Int) ≤ t → t < n → p t = b) → cntAt p n = cntAt p m + if b then (n : Int) - m else 0 := by
  intro n
  induction n with
  | zero => intro h _; obtain rfl : m = 0 := by omega
            simp
  | succ n ih =>
    intro h hp
    by_cases hm : m = n + 1
    · subst hm; simp
    · rw [cntAt, ih (by omega) fun t h1 h2 => hp t h1 (by omega), hp n (by omega) (by omega)]
      cases b
      · simp
      · simp; omega
/-- The ticks between the changes, told from change to change. -/
def taGo (zone least e : Int) : List T3 → Int → Int → Int → Int
  | [], n, fr, lv => if least ≤ lv then n + (e - fr) else n
  | c :: cs, n, fr, lv => if c.b = zone ∧ c.a < e then taGo zone least e cs (if least ≤ lv then n + (c.a - fr) else n) c.a c.c else taGo zone least e cs n fr lv
theorem taGo_cnt (zone least : Int) (e : Nat) : ∀ (cs : List T3) (n lv : Int) (fr : Nat) (g : Int → Int), cs.Pairwise (fun a b => a.a ≤ b.a) → (∀ c ∈ cs, (fr : Int) ≤ c.a) → fr ≤ e →
    (∀ t : Int, (fr : Int) ≤ t → t < e → g t = lv) → n = cntAt (fun t => geB least (g t)) fr →
    taGo zone least e cs n fr lv = cntAt (fun t => geB least (lvlGo zone t (g t) cs)) e := by
  intro cs
  induction cs with
  | nil =>
    intro n lv fr g _ _ hfe h1 h2
    simp only [taGo, lvlGo]
    rw [cntAt_from (b := geB least lv) hfe fun t a b => by rw [h1 t a b], ← h2]
    by_cases h : least ≤ lv
    · rw [geB_t h, if_pos h, if_pos rfl]
    · rw [geB_f h, if_neg h]; simp
  | cons c cs ih =>
    intro n lv fr g hp hle hfe h1 h2
    obtain ⟨hp1, hp2⟩ := List.pairwise_cons.1 hp
    have hca := hle c (List.mem_cons_self ..)
    simp only [taGo, lvlGo]
    by_cases hz : c.b = zone
    · by_cases ht : c.a < e
      · rw [if_pos ⟨hz, ht⟩]
        obtain ⟨m, hm⟩ := Int.eq_ofNat_of_zero_le (show 0 ≤ c.a by omega)
        rw [hm] at hca ht ⊢
        rw [ih _ c.c m (fun t => if (m : Int) ≤ t then c.c else g t) hp2 (fun d hd => by have := hp1 d hd; omega) (by omega) (fun t a b => if_pos a) ?_]
        · exact cntAt_congr fun t _ _ => by simp only [hz, true_and]
        · rw [cntAt_congr (q := fun t => geB least (g t)) fun t _ b => by rw [if_neg (by omega)],
            cntAt_from (b := geB least lv) (show fr ≤ m by omega) fun t a b => by rw [h1 t a (by omega)], ← h2]
          by_cases h : least ≤ lv
          · rw [geB_t h, if_pos h, if_pos rfl]
          · rw [geB_f h, if_neg h]; simp
      · rw [if_neg fun h => ht h.2]
        rw [ih n lv fr (fun t => if c.a ≤ t then c.c else g t) hp2 (fun d hd => hle d (List.mem_cons_of_mem _ hd)) hfe (fun t a b => by rw [if_neg (by omega)]; exact h1 t a b) ?_]
        · exact cntAt_congr fun t _ _ => by simp only [hz, true_and]
        · rw [h2]; exact cntAt_congr fun t _ b => by rw [if_neg (by omega)]
    · rw [if_neg fun h => hz h.1]
      rw [ih n lv fr g hp2 (fun d hd => hle d (List.mem_cons_of_mem _ hd)) hfe h1 h2]
      exact cntAt_congr fun t _ _ => by rw [if_neg fun h => hz h.1]
theorem taGo_eq {x : TZ} (hv : vZoned x = true) (zone least : Int) (e : Nat) : taGo zone least e x.ch 0 0 0 = cntAt (fun t => geB least (lvl x.ch zone t)) e := by
  obtain ⟨h1, h2⟩ := chOk_sorted (vZoned_iff hv).2.2.2.2
  have := taGo_cnt zone least e x.ch 0 0 0 (fun _ => 0) h1 (fun c hc => by have := (okC_iff.1 (h2 c hc)).1.1; simpa using this) (by omega) (fun _ _ _ => rfl) rfl
  simpa [lvl] using this
theorem taGo_drop {zone least e n fr lv : Int} {cs : List T3} {k : Nat} {c : T3} (h : cs[k]? = some c) : taGo zone least e (cs.drop k) n fr lv = if c.b = zone ∧ c.a < e then taGo zone least e (cs.drop (k + 1)) (if least ≤ lv then n + (c.a - fr) else n) c.a c.c else taGo zone least e (cs.drop (k + 1)) n fr lv := by rw [drop_cons h, taGo]
def ticksAbove (x : TZ) (zone least e : Int) : Int × Int := if codeZ x zone e = 0 then (if -100 ≤ least ∧ least ≤ 100 then (cntAt (fun t => geB least (lvl x.ch zone t)) e.toNat, 0) else (0, 2)) else (0, codeZ x zone e)
end Go.Proofs.Yticgaiboolojkaa
