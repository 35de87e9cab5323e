/-
  Zones: the first tick from which on a level is great enough; in the program and in the reference.
  Zones: a change that is added. Plain lemmas.
  Levels behind an added change, ticks counted one by one. Plain lemmas.
  Lists whose elements hold a list of numbers and up to two numbers more: what a slice of them reads, and what is the call's own. Plain lemmas.
  The laws' words and helpers for lists whose elements hold a list of numbers, by contract.
-/
import Derived.Test.YtofjnmeblmbnmaaDoorQLevels4
import Derived.Test.YtofjnmeblmbnmaaDoorQLevels1
import Derived.Test.YtofjnmeblmbnmaaDoorQLevels0
import Derived.Deep.RegionHeld3
namespace Go.Proofs.YtofjnmeblmbnmaaDoor
open Go.RowKit

def findFrom (q : Int → Bool) : Nat → Int → Int
  | 0, _ => -1
  | n + 1, b => if q b then b else findFrom q n (b + 1)
theorem findFrom_eq {q : Int → Bool} {r : Int} : ∀ {n : Nat} {b : Int}, b ≤ r → r < b + n → q r = true → (∀ c, b ≤ c → c < r → q c = false) → findFrom q n b = r := by
  intro n
  induction n with
  | zero => intro b h1 h2; omega
  | succ n ih =>
    intro b h1 h2 h3 h4
    rw [findFrom]
    by_cases hb : b = r
    · subst hb; rw [if_pos h3]
    · rw [h4 b (by omega) (by omega)]
      simp only [Bool.false_eq_true, if_false]
      exact ih (by omega) (by omega) h3 fun c hc => h4 c (by omega)
theorem findFrom_none {q : Int → Bool} : ∀ {n : Nat} {b : Int}, (∀ c, b ≤ c → c < b + n → q c = false) → findFrom q n b = -1 := by
  intro n
  induction n with
  | zero => intro b _; rfl
  | succ n ih =>
    intro b h
    rw [findFrom, h b (by omega) (by omega)]
    simp only [Bool.false_eq_true, if_false]
    exact ih fun c hc hd => h c (by omega) (by omega)
/-- From b on p holds for so many ticks, or up to the last one. -/
def goodB (p : Int → Bool) (ticks b : Int) : Bool := (List.range ticks.toNat).all fun i => decide (10000 < b + (i : Int)) || p (b + i)
theorem goodB_t {p : Int → Bool} {ticks b : Int} (h : ∀ s, b ≤ s → s < b + ticks → s ≤ 10000 → p s = true) : goodB p ticks b = true := by
  unfold goodB
  rw [List.all_eq_true]
  intro i hi
  have hi' := List.mem_range.1 hi
  by_cases h1 : 10000 < b + (i : Int)
  · simp [h1]
  · rw [h _ (by omega) (by omega) (by omega)]; simp
theorem goodB_f {p : Int → Bool} {ticks b s : Int} (h1 : b ≤ s) (h2 : s < b + ticks) (h3 : s ≤ 10000) (h4 : p s = false) : goodB p ticks b = false := by
  cases hg : goodB p ticks b
  · rfl
  · unfold goodB at hg
    rw [List.all_eq_true] at hg
    have := hg (s - b).toNat (List.mem_range.2 (by omega))
    rw [show b + (((s - b).toNat : Nat) : Int) = s by omega, h4] at this
    simp at this
    omega
def faOf (p : Int → Bool) (fr ticks : Int) : Int := findFrom (goodB p ticks) (10001 - fr).toNat fr
/-- A tick below b's window, or within it, at which p fails. -/
def Bad (p : Int → Bool) (ticks b hi : Int) : Prop := ∃ s, b ≤ s ∧ s < b + ticks ∧ s ≤ hi ∧ p s = false
theorem fa_found {p : Int → Bool} {fr ticks r : Int} (h1 : fr ≤ r) (h2 : r ≤ 10000) (h3 : ∀ s, r ≤ s → s < r + ticks → s ≤ 10000 → p s = true) (h4 : ∀ b, fr ≤ b → b < r → Bad p ticks b 10000) : faOf p fr ticks = r :=
  findFrom_eq h1 (by omega) (goodB_t h3) fun c hc hd => by obtain ⟨s, a, b, c, d⟩ := h4 c hc hd; exact goodB_f a b c d
theorem fa_none {p : Int → Bool} {fr ticks : Int} (h4 : ∀ b, fr ≤ b → b ≤ 10000 → Bad p ticks b 10000) : faOf p fr ticks = -1 :=
  findFrom_none fun c hc hd => by obtain ⟨s, a, b, c, d⟩ := h4 c hc (by omega); exact goodB_f a b c d
/-- The reference's way from change to change. -/
def faGo (zone least fr ticks : Int) : List T3 → Int → Int
  | [], bg => bg
  | c :: cs, bg => if c.b = zone ∧ fr < c.a then (if 0 ≤ bg ∧ ticks ≤ c.a - bg then bg else faGo zone least fr ticks cs (if c.c < least then -1 else if bg < 0 then c.a else bg)) else faGo zone least fr ticks cs bg
theorem faGo_drop {zone least fr ticks bg : Int} {cs : List T3} {k : Nat} {c : T3} (h : cs[k]? = some c) : faGo zone least fr ticks (cs.drop k) bg = if c.b = zone ∧ fr < c.a then (if 0 ≤ bg ∧ ticks ≤ c.a - bg then bg else faGo zone least fr ticks (cs.drop (k + 1)) (if c.c < least then -1 else if bg < 0 then c.a else bg)) else faGo zone least fr ticks (cs.drop (k + 1)) bg := by rw [drop_cons h, faGo]
theorem faGo_filter (zone least fr ticks : Int) : ∀ (cs : List T3) (bg : Int), faGo zone least fr ticks cs bg = faGo zone least fr ticks (cs.filter fun c => decide (fr < c.a)) bg := by
  intro cs
  induction cs with
  | nil => intro bg; rfl
  | cons c cs ih =>
    intro bg
    by_cases h : fr < c.a
    · rw [List.filter_cons_of_pos (by simpa using h), faGo, faGo]
      simp only [ih]
    · rw [List.filter_cons_of_neg (by simpa using h), faGo, if_neg fun k => h k.2, ih]
theorem lvlGo_none {zone t : Int} : ∀ {cs : List T3} {acc : Int}, (∀ c ∈ cs, c.b = zone → t < c.a) → lvlGo zone t acc cs = acc := by
  intro cs
  induction cs with
  | nil => intro acc _; rfl
  | cons c cs ih =>
    intro acc h
    rw [lvlGo, if_neg fun k => by have := h c (List.mem_cons_self ..) k.1; omega]
    exact ih fun d hd => h d (List.mem_cons_of_mem _ hd)
theorem lvlGo_filter {zone fr t : Int} (ht : fr ≤ t) : ∀ {cs : List T3} (acc : Int), cs.Pairwise (fun a b => a.a ≤ b.a) → lvlGo zone t acc cs = lvlGo zone t (lvlGo zone fr acc cs) (cs.filter fun c => decide (fr < c.a)) := by
  intro cs
  induction cs with
  | nil => intro acc _; rfl
  | cons c cs ih =>
    intro acc hp
    obtain ⟨hp1, hp2⟩ := List.pairwise_cons.1 hp
    by_cases h : fr < c.a
    · have hall : ∀ d ∈ c :: cs, fr < d.a := fun d hd => by
        rcases List.mem_cons.1 hd with rfl | hd
        · exact h
        · have := hp1 d hd; omega
      rw [lvlGo_late (acc := acc) hall, List.filter_eq_self.2 fun d hd => by simpa using hall d hd]
    · rw [List.filter_cons_of_neg (by simpa using h), lvlGo, lvlGo]
      have e : (if c.b = zone ∧ c.a ≤ t then c.c else acc) = if c.b = zone ∧ c.a ≤ fr then c.c else acc := by
        by_cases hz : c.b = zone
        · rw [if_pos ⟨hz, by omega⟩, if_pos ⟨hz, by omega⟩]
        · rw [if_neg fun k => hz k.1, if_neg fun k => hz k.1]
      rw [e]
      exact ih _ hp2
def FaRes (p : Int → Bool) (fr ticks r : Int) : Prop := (r = -1 ∧ ∀ b, fr ≤ b → b ≤ 10000 → Bad p ticks b 10000) ∨ (0 ≤ r ∧ fr ≤ r ∧ r ≤ 10000 ∧ (∀ s, r ≤ s → s < r + ticks → s ≤ 10000 → p s = true) ∧ ∀ b, fr ≤ b → b < r → Bad p ticks b 10000)
theorem FaRes.eq {p : Int → Bool} {fr ticks r : Int} (h : FaRes p fr ticks r) : faOf p fr ticks = r := by
  rcases h with ⟨rfl, h⟩ | ⟨_, h1, h2, h3, h4⟩
  · exact fa_none h
  · exact fa_found h1 h2 h3 h4
theorem Bad.mk' {p : Int → Bool} {ticks b hi s : Int} (h1 : b ≤ s) (h2 : s < b + ticks) (h3 : s ≤ hi) (h4 : p s = false) : Bad p ticks b hi := ⟨s, h1, h2, h3, h4⟩
theorem Bad.to {p q : Int → Bool} {ticks b hi hi' : Int} (h : Bad p ticks b hi) (hh : hi ≤ hi') (hq : ∀ s, s ≤ hi → q s = p s) : Bad q ticks b hi' := by
  obtain ⟨s, a, b, c, d⟩ := h
  exact ⟨s, a, b, by omega, by rw [hq s c]; exact d⟩
theorem faGo_res (zone least fr ticks : Int) (hfr : 0 ≤ fr) (htk : 1 ≤ ticks) : ∀ (cs : List T3) (bg T : Int) (g : Int → Int), cs.Pairwise (fun a b => ltC a b = true) → (∀ c ∈ cs, c.b = zone → T < c.a) → (∀ c ∈ cs, c.a ≤ 10000) → fr ≤ T → T ≤ 10000 →
    (bg < 0 → bg = -1) → (∀ t, T ≤ t → geB least (g t) = decide (0 ≤ bg)) → (0 ≤ bg → fr ≤ bg ∧ bg ≤ T ∧ ∀ t, bg ≤ t → geB least (g t) = true) →
    (bg < 0 → ∀ b, fr ≤ b → b ≤ T → Bad (fun t => geB least (g t)) ticks b T) → (0 ≤ bg → ∀ b, fr ≤ b → b < bg → Bad (fun t => geB least (g t)) ticks b T) →
    FaRes (fun t => geB least (lvlGo zone t (g t) cs)) fr ticks (faGo zone least fr ticks cs bg) := by
  intro cs
  induction cs with
  | nil =>
    intro bg T g _ _ _ hT hT' hm h1 h2 h3 h4
    simp only [faGo, lvlGo]
    by_cases hb : bg < 0
    · refine .inl ⟨hm hb, fun b hb1 hb2 => ?_⟩
      by_cases hbt : b ≤ T
      · exact (h3 hb b hb1 hbt).to hT' fun _ _ => rfl
      · exact .mk' (Int.le_refl b) (by omega) hb2 (by rw [h1 b (by omega)]; simpa using hb)
    · have hb' : 0 ≤ bg := by omega
      obtain ⟨k1, k2, k3⟩ := h2 hb'
      exact .inr ⟨hb', k1, by omega, fun s hs _ _ => k3 s hs, fun b hb1 hb2 => (h4 hb' b hb1 hb2).to hT' fun _ _ => rfl⟩
  | cons c cs ih =>
    intro bg T g hp hH hA hT hT' hm h1 h2 h3 h4
    obtain ⟨hp1, hp2⟩ := List.pairwise_cons.1 hp
    have hA' : ∀ d ∈ cs, d.a ≤ 10000 := fun d hd => hA d (List.mem_cons_of_mem _ hd)
    by_cases hz : c.b = zone
    case neg =>
      rw [faGo, if_neg fun k => hz k.1]
      have := ih bg T g hp2 (fun d hd => hH d (List.mem_cons_of_mem _ hd)) hA' hT hT' hm h1 h2 h3 h4
      have e : (fun t => geB least (lvlGo zone t (g t) (c :: cs))) = fun t => geB least (lvlGo zone t (g t) cs) := by
        funext t; rw [lvlGo, if_neg fun k => hz k.1]
      rw [e]; exact this
    have hTc := hH c (List.mem_cons_self ..) hz
    have hca := hA c (List.mem_cons_self ..)
    have hlater : ∀ d ∈ cs, d.b = zone → c.a < d.a := fun d hd hdz => by have := ltC_iff.1 (hp1 d hd); omega
    rw [faGo, if_pos ⟨hz, by omega⟩]
    by_cases hr : 0 ≤ bg ∧ ticks ≤ c.a - bg
    · rw [if_pos hr]
      obtain ⟨k1, k2, k3⟩ := h2 hr.1
      have hsame : ∀ s, s < c.a → lvlGo zone s (g s) (c :: cs) = g s := fun s hs => lvlGo_none fun d hd hdz => by
        rcases List.mem_cons.1 hd with rfl | hd
        · exact hs
        · have := hlater d hd hdz; omega
      refine .inr ⟨hr.1, k1, by omega, fun s hs1 hs2 _ => ?_, fun b hb1 hb2 => (h4 hr.1 b hb1 hb2).to hT' fun s hs => ?_⟩
      · show geB least (lvlGo zone s (g s) (c :: cs)) = true
        rw [hsame s (by omega)]; exact k3 s hs1
      · show geB least (lvlGo zone s (g s) (c :: cs)) = _
        rw [hsame s (by omega)]
    rw [if_neg hr]
    have hg : ∀ s, s ≤ T → (fun t => geB least (if c.a ≤ t then c.c else g t)) s = (fun t => geB least (g t)) s := fun s hs => by
      show geB least (if c.a ≤ s then c.c else g s) = _
      rw [if_neg (by omega)]
    have e : (fun t => geB least (lvlGo zone t (g t) (c :: cs))) = fun t => geB least (lvlGo zone t (if c.a ≤ t then c.c else g t) cs) := by
      funext t; rw [lvlGo]; simp only [hz, true_and]
    rw [e]
    have hgb : ∀ b, b < c.a → geB least (if c.a ≤ b then c.c else g b) = geB least (g b) := fun b hb => by rw [if_neg (by omega)]
    by_cases hlow : c.c < least
    · rw [if_pos hlow]
      refine ih (-1) c.a (fun t => if c.a ≤ t then c.c else g t) hp2 hlater hA' (by omega) hca (fun _ => rfl) (fun t ht => ?_) (fun h => by omega) (fun _ b hb1 hb2 => ?_) (fun h => by omega)
      · show geB least (if c.a ≤ t then c.c else g t) = _
        rw [if_pos ht, geB_f (by omega)]; rfl
      · by_cases hbc : b = c.a
        · exact .mk' (s := c.a) (by omega) (by omega) (Int.le_refl _) (by show geB least (if c.a ≤ c.a then c.c else g c.a) = false; rw [if_pos (Int.le_refl _), geB_f (by omega)])
        by_cases hb : bg < 0
        · by_cases hbt : b ≤ T
          · exact (h3 hb b hb1 hbt).to (by omega) hg
          · exact .mk' (Int.le_refl b) (by omega) hb2 (by show geB least (if c.a ≤ b then c.c else g b) = false; rw [hgb b (by omega), h1 b (by omega)]; simpa using hb)
        · by_cases hbb : b < bg
          · exact (h4 (by omega) b hb1 hbb).to (by omega) hg
          · exact .mk' (s := c.a) (by omega) (by omega) (Int.le_refl _) (by show geB least (if c.a ≤ c.a then c.c else g c.a) = false; rw [if_pos (Int.le_refl _), geB_f (by omega)])
    · rw [if_neg hlow]
      by_cases hb : bg < 0
      · rw [if_pos hb]
        refine ih c.a c.a (fun t => if c.a ≤ t then c.c else g t) hp2 hlater hA' (by omega) hca (fun h => by omega) (fun t ht => ?_) (fun _ => ⟨by omega, by omega, fun t ht => ?_⟩) (fun h => by omega) (fun _ b hb1 hb2 => ?_)
        · show geB least (if c.a ≤ t then c.c else g t) = _
          rw [if_pos ht, geB_t (by omega), decide_eq_true (by omega)]
        · show geB least (if c.a ≤ t then c.c else g t) = _
          rw [if_pos ht, geB_t (by omega)]
        · by_cases hbt : b ≤ T
          · exact (h3 hb b hb1 hbt).to (by omega) hg
          · exact .mk' (Int.le_refl b) (by omega) (by omega) (by show geB least (if c.a ≤ b then c.c else g b) = false; rw [hgb b (by omega), h1 b (by omega)]; simpa using hb)
      · rw [if_neg hb]
        obtain ⟨k1, k2, k3⟩ := h2 (by omega)
        refine ih bg c.a (fun t => if c.a ≤ t then c.c else g t) hp2 hlater hA' (by omega) hca hm (fun t ht => ?_) (fun _ => ⟨k1, by omega, fun t ht => ?_⟩) (fun h => by omega) (fun h b hb1 hb2 => (h4 h b hb1 hb2).to (by omega) hg)
        · show geB least (if c.a ≤ t then c.c else g t) = _
          rw [if_pos ht, geB_t (by omega), decide_eq_true (by omega)]
        · show geB least (if c.a ≤ t then c.c else g t) = _
          by_cases hct : c.a ≤ t
          · rw [if_pos hct, geB_t (by omega)]
          · rw [if_neg hct]; exact k3 t ht
theorem chOk_strict {n : Int} : ∀ {cs : List T3} {p : Option T3}, chOk n p cs = true → cs.Pairwise (fun a b => ltC a b = true) := by
  intro cs
  induction cs with
  | nil => intro p _; exact List.Pairwise.nil
  | cons d ds ih =>
    intro p h
    rw [chOk] at h
    simp only [Bool.and_eq_true] at h
    exact List.pairwise_cons.2 ⟨fun c hc => chOk_all h.2.2 c hc, ih h.2.2⟩
def bg0 (x : TZ) (zone least fr : Int) : Int := if least ≤ lvl x.ch zone fr then fr else -1
theorem faGo_eq {x : TZ} (hv : vZoned x = true) (zone least fr ticks : Int) (hfr : 0 ≤ fr ∧ fr ≤ 10000) (htk : 1 ≤ ticks) : faGo zone least fr ticks x.ch (bg0 x zone least fr) = faOf (fun t => geB least (lvl x.ch zone t)) fr ticks := by
  have hc := (vZoned_iff hv).2.2.2.2
  obtain ⟨h1, h2⟩ := chOk_sorted hc
  have h3 := chOk_strict hc
  rw [faGo_filter]
  have hres := faGo_res zone least fr ticks hfr.1 htk (x.ch.filter fun c => decide (fr < c.a)) (bg0 x zone least fr) fr (fun _ => lvl x.ch zone fr) (h3.sublist List.filter_sublist)
    (fun c hc _ => by simpa using (List.mem_filter.1 hc).2) (fun c hc => (okC_iff.1 (h2 c (List.mem_filter.1 hc).1)).1.2) (Int.le_refl _) hfr.2
    (by unfold bg0; split <;> intro <;> omega) (fun t _ => by unfold bg0; by_cases h : least ≤ lvl x.ch zone fr
                                                              · rw [if_pos h, geB_t h, decide_eq_true hfr.1]
                                                              · rw [if_neg h, geB_f h]; rfl)
    (fun h => by
      unfold bg0 at h ⊢
      by_cases hl : least ≤ lvl x.ch zone fr
      · rw [if_pos hl]; exact ⟨by omega, by omega, fun _ _ => geB_t hl⟩
      · rw [if_neg hl] at h; omega)
    (fun h b hb1 hb2 => by
      unfold bg0 at h
      by_cases hl : least ≤ lvl x.ch zone fr
      · rw [if_pos hl] at h; omega
      · exact .mk' hb2 (by omega) (Int.le_refl _) (geB_f hl))
    (fun h b hb1 hb2 => by
      unfold bg0 at hb2
      split at hb2 <;> omega)
  rw [← hres.eq]
  have key : ∀ t, fr ≤ t → lvl x.ch zone t = lvlGo zone t (lvl x.ch zone fr) (x.ch.filter fun c => decide (fr < c.a)) := fun t ht => lvlGo_filter ht 0 h1
  have e : ∀ b, fr ≤ b → goodB (fun t => geB least (lvlGo zone t (lvl x.ch zone fr) (x.ch.filter fun c => decide (fr < c.a)))) ticks b = goodB (fun t => geB least (lvl x.ch zone t)) ticks b := fun b hb => by
    unfold goodB
    congr 1
    funext i
    exact congrArg (fun z => decide (10000 < b + (i : Int)) || geB least z) (key (b + i) (by omega)).symm
  unfold faOf
  generalize (10001 - fr).toNat = n
  have : ∀ (n : Nat) (b : Int), fr ≤ b → findFrom (goodB (fun t => geB least (lvlGo zone t (lvl x.ch zone fr) (x.ch.filter fun c => decide (fr < c.a)))) ticks) n b = findFrom (goodB (fun t => geB least (lvl x.ch zone t)) ticks) n b := by
    intro n
    induction n with
    | zero => intro b _; rfl
    | succ n ih => intro b hb; rw [findFrom, findFrom, e b hb, ih (b + 1) (by omega)]
  exact this n fr (Int.le_refl _)
def faTup (r : Int) : Int × Int := if r < 0 then (0, 3) else (r, 0)
def firstAbove (x : TZ) (zone least fr ticks : Int) : Int × Int := if codeZ x zone fr = 0 then (if (-100 ≤ least ∧ least ≤ 100) ∧ (1 ≤ ticks ∧ ticks ≤ 10000) then faTup (faOf (fun t => geB least (lvl x.ch zone t)) fr ticks) else (0, 2)) else (0, codeZ x zone fr)
end Go.Proofs.YtofjnmeblmbnmaaDoor
namespace Go.Proofs.YtofjnmeblmbnmaaDoor
open Go.RowKit

def posC (cs : List T3) (c : T3) : Nat := (cs.takeWhile fun x => ltC x c).length
def hasC (cs : List T3) (c : T3) : Bool := cs.any fun x => decide (x.a = c.a ∧ x.b = c.b)
def insC (cs : List T3) (c : T3) : List T3 := cs.take (posC cs c) ++ c :: cs.drop (posC cs c)
def addChange (x : TZ) (c : T3) : TZ × Int :=
  if vZoned x = false then (⟨0, [], []⟩, 1) else if okC x.z c = false then (⟨0, [], []⟩, 2) else if hasC x.ch c = true then (⟨0, [], []⟩, 4) else if 60 ≤ x.ch.length then (⟨0, [], []⟩, 5) else (⟨x.z, x.of, insC x.ch c⟩, 0)
theorem ltC_trans {a b c : T3} (h1 : ltC a b = true) (h2 : ltC b c = true) : ltC a c = true := by
  rw [ltC_iff] at *; omega
theorem ltC_flip {a c : T3} (h : ltC c a = false) (hne : ¬ (a.a = c.a ∧ a.b = c.b)) : ltC a c = true := by
  have h1 : ¬ (c.a < a.a ∨ (c.a = a.a ∧ c.b < a.b)) := by rw [← ltC_iff, h]; simp
  rw [ltC_iff]; omega
theorem ltC_asym {a c : T3} (h : ltC c a = true) : ltC a c = false := by
  rw [Bool.eq_false_iff]; intro h2; rw [ltC_iff] at h h2; omega
theorem pos_eq {c : T3} : ∀ {cs : List T3} {k : Nat}, k ≤ cs.length → (∀ j x, j < k → cs[j]? = some x → ltC x c = true) → (∀ x, cs[k]? = some x → ltC x c = false) → posC cs c = k := by
  intro cs
  induction cs with
  | nil => intro k hk _ _; simp at hk; subst hk; rfl
  | cons y cs ih =>
    intro k hk h1 h2
    cases k with
    | zero => have := h2 y rfl; simp [posC, List.takeWhile, this]
    | succ k =>
      have h0 := h1 0 y (by omega) rfl
      have h3 := ih (k := k) (by simpa using hk) (fun j x hj hx => h1 (j + 1) x (by omega) (by simpa using hx)) (fun x hx => h2 x (by simpa using hx))
      unfold posC at h3 ⊢
      rw [List.takeWhile_cons, if_pos h0, List.length_cons, h3]
theorem pos_end {cs : List T3} {c : T3} {k : Nat} (hp : cs.Pairwise fun a b => ltC a b = true) (hno : hasC cs c = false) (hk : k ≤ cs.length) (h2 : ∀ x, cs[k]? = some x → ltC c x = true) (h3 : k = 0 ∨ ∃ x, cs[k - 1]? = some x ∧ ltC c x = false) : posC cs c = k := by
  refine pos_eq hk (fun j x hj hx => ?_) (fun x hx => ltC_asym (h2 x hx))
  rcases h3 with h3 | ⟨y, hy, hyc⟩
  · omega
  · have hne : ¬ (y.a = c.a ∧ y.b = c.b) := by
      have := List.any_eq_false.1 hno y (List.mem_of_getElem? hy)
      simpa using this
    have hyl := ltC_flip hyc hne
    by_cases hjk : j = k - 1
    · subst hjk; rw [hy] at hx; simp only [Option.some.injEq] at hx; subst hx; exact hyl
    · obtain ⟨hj1, rfl⟩ := List.getElem?_eq_some_iff.1 hx
      obtain ⟨hk1, rfl⟩ := List.getElem?_eq_some_iff.1 hy
      exact ltC_trans (List.pairwise_iff_getElem.1 hp j (k - 1) hj1 hk1 (by omega)) hyl
theorem pos_le (cs : List T3) (c : T3) : posC cs c ≤ cs.length := by
  unfold posC
  induction cs with
  | nil => simp
  | cons y cs ih => rw [List.takeWhile_cons]; split <;> simp <;> omega
theorem insC_len (cs : List T3) (c : T3) : (insC cs c).length = cs.length + 1 := by
  have := pos_le cs c
  rw [insC, List.length_append, List.length_cons, List.length_take, List.length_drop]; omega
theorem insC_mem {cs : List T3} {c x : T3} (h : x ∈ insC cs c) : x = c ∨ x ∈ cs := by
  rw [insC, List.mem_append, List.mem_cons] at h
  rcases h with h | h | h
  · exact .inr (List.mem_of_mem_take h)
  · exact .inl h
  · exact .inr (List.mem_of_mem_drop h)
theorem addChange_ok {x : TZ} {c : T3} (h : (addChange x c).2 = 0) : (addChange x c).1 = ⟨x.z, x.of, insC x.ch c⟩ ∧ x.ch.length < 60 ∧ vZoned x = true ∧ okC x.z c = true ∧ hasC x.ch c = false := by
  unfold addChange at h ⊢
  by_cases h1 : vZoned x = false
  · rw [if_pos h1] at h; cases h
  · rw [if_neg h1] at h ⊢
    by_cases h2 : okC x.z c = false
    · rw [if_pos h2] at h; cases h
    · rw [if_neg h2] at h ⊢
      by_cases h3 : hasC x.ch c = true
      · rw [if_pos h3] at h; cases h
      · rw [if_neg h3] at h ⊢
        by_cases h4 : 60 ≤ x.ch.length
        · rw [if_pos h4] at h; cases h
        · rw [if_neg h4] at h ⊢
          exact ⟨rfl, by omega, by simpa using h1, by simpa using h2, by simpa using h3⟩
end Go.Proofs.YtofjnmeblmbnmaaDoor
namespace Go.Proofs.YtofjnmeblmbnmaaDoor
open Go.RowKit
theorem lvlGo_app {zone tick : Int} : ∀ (u v : List T3) (acc : Int), lvlGo zone tick acc (u ++ v) = lvlGo zone tick (lvlGo zone tick acc u) v := by
  intro u
  induction u with
  | nil => intro v acc; rfl
  | cons c u ih => intro v acc; rw [List.cons_append, lvlGo, ih, lvlGo]
theorem lvlGo_off {zone tick : Int} : ∀ {cs : List T3} {acc : Int}, (∀ c ∈ cs, ¬ (c.b = zone ∧ c.a ≤ tick)) → lvlGo zone tick acc cs = acc := by
  intro cs
  induction cs with
  | nil => intro acc _; rfl
  | cons c cs ih =>
    intro acc h
    rw [lvlGo, if_neg (h c (List.mem_cons_self ..))]
    exact ih fun d hd => h d (List.mem_cons_of_mem _ hd)
theorem chOk_pw {n : Int} : ∀ {cs : List T3} {p : Option T3}, chOk n p cs = true → (∀ c ∈ cs, okC n c = true) ∧ cs.Pairwise fun a b => ltC a b = true := by
  intro cs
  induction cs with
  | nil => intro p _; exact ⟨fun c hc => (by cases hc), List.Pairwise.nil⟩
  | cons d ds ih =>
    intro p h
    rw [chOk] at h
    simp only [Bool.and_eq_true] at h
    obtain ⟨h1, h2⟩ := ih h.2.2
    refine ⟨fun c hc => ?_, List.pairwise_cons.2 ⟨chOk_all h.2.2, h2⟩⟩
    rcases List.mem_cons.1 hc with rfl | hc
    · exact h.1
    · exact h1 c hc
theorem chOk_mk {n : Int} : ∀ {cs : List T3} {p : Option T3}, (∀ c ∈ cs, okC n c = true) → (cs.Pairwise fun a b => ltC a b = true) → (∀ c, cs.head? = some c → okNext p c = true) → chOk n p cs = true := by
  intro cs
  induction cs with
  | nil => intro p _ _ _; rfl
  | cons d ds ih =>
    intro p h1 h2 h3
    rw [chOk]
    simp only [Bool.and_eq_true]
    rw [List.pairwise_cons] at h2
    refine ⟨h1 d (List.mem_cons_self ..), h3 d rfl, ih (fun c hc => h1 c (List.mem_cons_of_mem _ hc)) h2.2 fun c hc => ?_⟩
    exact h2.1 c (List.mem_of_mem_head? (by rw [hc]; rfl))
theorem pos_parts {c : T3} : ∀ {cs : List T3}, (cs.Pairwise fun a b => ltC a b = true) → hasC cs c = false → (∀ x ∈ cs.take (posC cs c), ltC x c = true) ∧ ∀ x ∈ cs.drop (posC cs c), ltC c x = true := by
  intro cs
  induction cs with
  | nil => intro _ _; exact ⟨fun x hx => (by simp at hx), fun x hx => (by simp at hx)⟩
  | cons y cs ih =>
    intro hp hh
    rw [List.pairwise_cons] at hp
    have hh2 : hasC cs c = false := by
      unfold hasC at hh ⊢
      rw [List.any_cons, Bool.or_eq_false_iff] at hh
      exact hh.2
    have hy : ¬ (y.a = c.a ∧ y.b = c.b) := by
      unfold hasC at hh
      rw [List.any_cons, Bool.or_eq_false_iff, decide_eq_false_iff_not] at hh
      exact hh.1
    cases hlt : ltC y c
    · have e : posC (y :: cs) c = 0 := by unfold posC; rw [List.takeWhile_cons, if_neg (by rw [hlt]; decide)]; rfl
      rw [e]
      have hcy : ltC c y = true := ltC_flip hlt (fun h => hy ⟨h.1.symm, h.2.symm⟩)
      refine ⟨fun x hx => (by simp at hx), fun x hx => ?_⟩
      rw [List.drop_zero] at hx
      rcases List.mem_cons.1 hx with rfl | hx
      · exact hcy
      · exact ltC_trans hcy (hp.1 x hx)
    · have e : posC (y :: cs) c = posC cs c + 1 := by unfold posC; rw [List.takeWhile_cons, if_pos hlt, List.length_cons]
      rw [e, List.take_succ_cons, List.drop_succ_cons]
      obtain ⟨h1, h2⟩ := ih hp.2 hh2
      refine ⟨fun x hx => ?_, h2⟩
      rcases List.mem_cons.1 hx with rfl | hx
      · exact hlt
      · exact h1 x hx
theorem insC_pw {cs : List T3} {c : T3} (hp : cs.Pairwise fun a b => ltC a b = true) (hh : hasC cs c = false) : (insC cs c).Pairwise fun a b => ltC a b = true := by
  obtain ⟨h1, h2⟩ := pos_parts hp hh
  unfold insC
  rw [List.pairwise_append]
  refine ⟨hp.sublist (List.take_sublist _ _), List.pairwise_cons.2 ⟨h2, hp.sublist (List.drop_sublist _ _)⟩, fun x hx y hy => ?_⟩
  rcases List.mem_cons.1 hy with rfl | hy
  · exact h1 x hx
  · exact ltC_trans (h1 x hx) (h2 y hy)
theorem insC_lvl {cs : List T3} {c : T3} (hp : cs.Pairwise fun a b => ltC a b = true) (hh : hasC cs c = false) : lvl (insC cs c) c.b c.a = c.c := by
  obtain ⟨h1, h2⟩ := pos_parts hp hh
  unfold lvl insC
  rw [lvlGo_app, lvlGo, if_pos ⟨rfl, Int.le_refl _⟩]
  refine lvlGo_off fun x hx => ?_
  have := ltC_iff.1 (h2 x hx)
  omega
/-- What an added change brings. -/
theorem added_ok {x : TZ} {y : T3} (h : (addChange x y).2 = 0) : vZoned (addChange x y).1 = true ∧ (addChange x y).1.ch.length = x.ch.length + 1 ∧ levelAt (addChange x y).1 y.b y.a = (y.c, 0) := by
  obtain ⟨e, hl, hv, hok, hh⟩ := addChange_ok h
  obtain ⟨hz, hof, hch, hall, hco⟩ := vZoned_iff hv
  obtain ⟨hco1, hco2⟩ := chOk_pw hco
  have hpw := insC_pw hco2 hh
  have hv2 : vZoned (addChange x y).1 = true := by
    rw [e]
    unfold vZoned
    simp only [Bool.and_eq_true, inB_iff, decide_eq_true_eq, List.all_eq_true]
    refine ⟨hz, hof, by rw [insC_len]; omega, hall, chOk_mk (fun c hc => ?_) hpw (fun c _ => rfl)⟩
    rcases insC_mem hc with rfl | hc
    · exact hok
    · exact hco1 c hc
  obtain ⟨o1, o2, _⟩ := okC_iff.1 hok
  refine ⟨hv2, by rw [e]; exact insC_len _ _, ?_⟩
  have hc : codeZ (addChange x y).1 y.b y.a = 0 := by
    unfold codeZ
    rw [if_pos hv2, if_pos]
    rw [e]
    exact ⟨o2, o1⟩
  unfold levelAt
  rw [if_pos hc]
  rw [e]
  dsimp only
  rw [insC_lvl hco2 hh]
/-- The ticks with a level are counted one by one. -/
theorem ticks_ok {x : TZ} {zone least e : Int} (h : (ticksAbove x zone least e).2 = 0) : (0 ≤ e ∧ e ≤ 10000) ∧ (ticksAbove x zone least e).1 = cntAt (fun t => geB least (lvl x.ch zone t)) e.toNat ∧ ∀ k, 0 ≤ k → k ≤ e → levelAt x zone k = (lvl x.ch zone k, 0) := by
  unfold ticksAbove at h ⊢
  by_cases hc : codeZ x zone e = 0
  · rw [if_pos hc] at h ⊢
    by_cases hl : -100 ≤ least ∧ least ≤ 100
    · rw [if_pos hl]
      obtain ⟨hv, hz, he⟩ := codeZ_ok hc
      refine ⟨he, rfl, fun k h0 h1 => ?_⟩
      unfold levelAt
      rw [if_pos (by unfold codeZ; rw [if_pos hv, if_pos ⟨hz, h0, by omega⟩])]
    · rw [if_neg hl] at h; cases h
  · rw [if_neg hc] at h
    exact (hc h).elim
end Go.Proofs.YtofjnmeblmbnmaaDoor
namespace Go.Proofs.YtofjnmeblmbnmaaDoor
open Go.RowKit

structure TN where
  way : List Int
  p : Int
  q : Int
def TN.Fits (x : TN) : Prop := (∀ z ∈ x.way, -9223372036854775808 ≤ z ∧ z ≤ 9223372036854775807) ∧ (-9223372036854775808 ≤ x.p ∧ x.p ≤ 9223372036854775807) ∧ (-9223372036854775808 ≤ x.q ∧ x.q ≤ 9223372036854775807)
/-- The cells of an element: its slice's value, and m numbers. -/
def Nc (m : Nat) (x : Value × TN) : List Value := x.1 :: [Value.int .i64 x.2.p, .int .i64 x.2.q].take m
theorem Nc_len {m : Nat} (hm : m ≤ 2) (x : Value × TN) : (Nc m x).length = m + 1 := by simp [Nc]; omega
def WayAt (w : World) (B : Nat) (p : Value × TN) : Prop := ∃ A c, p.1 = .slice A p.2.way.length c ∧ RdI w B A p.2.way
def RN (m : Nat) (w : World) (B : Nat) (A : Option Addr) (x : List TN) : Prop := ∃ ps : List (Value × TN), ps.map (·.2) = x ∧ Rd w B A (ps.flatMap (Nc m)) ∧ ∀ p ∈ ps, WayAt w B p
section
variable {m : Nat} {w w' : World} {B B' : Nat} {A : Option Addr} {x : List TN}
theorem RN.nil (m : Nat) (w : World) (B : Nat) (A : Option Addr) : RN m w B A [] := ⟨[], rfl, Rd.nil _ _ _, fun p hp => by cases hp⟩
theorem RN.below (h : RN m w B A x) (k : Below B w w') : RN m w' B A x := by
  obtain ⟨ps, h1, h2, h3⟩ := h
  refine ⟨ps, h1, h2.below k, fun p hp => ?_⟩
  obtain ⟨A', c, e, r⟩ := h3 p hp
  exact ⟨A', c, e, r.below k⟩
theorem RN.more (h : RN m w B A x) (k : B ≤ B') : RN m w B' A x := by
  obtain ⟨ps, h1, h2, h3⟩ := h
  refine ⟨ps, h1, h2.more k, fun p hp => ?_⟩
  obtain ⟨A', c, e, r⟩ := h3 p hp
  exact ⟨A', c, e, r.more k⟩
theorem RN.at_ (hm : m ≤ 2) (h : RN m w B A x) {k : Nat} (hk : k < x.length) : ∃ b o e Aw cw, A = some ⟨b, o, none⟩ ∧ b < B ∧ x[k]? = some e ∧ RdI w B Aw e.way ∧ w.cell? ⟨b, o + k * (m + 1), none⟩ = some (.slice Aw e.way.length cw) ∧
    (1 ≤ m → w.cell? ⟨b, o + k * (m + 1) + 1, none⟩ = some (.int .i64 e.p)) ∧ (2 ≤ m → w.cell? ⟨b, o + k * (m + 1) + 2, none⟩ = some (.int .i64 e.q)) := by
  obtain ⟨ps, h1, h2, h3⟩ := h
  have hl : ps.length = x.length := by rw [← h1]; simp
  obtain ⟨b, o, p, hA, hb, hp, hc⟩ := Rd.elem (Nc m) (m + 1) (Nc_len hm) h2 (by omega) (k := k) (by omega)
  obtain ⟨Aw, cw, he, hr⟩ := h3 p (List.mem_of_getElem? hp)
  refine ⟨b, o, p.2, Aw, cw, hA, hb, by rw [← h1, List.getElem?_map, hp]; rfl, hr, ?_, fun h => ?_, fun h => ?_⟩
  · have := hc 0 (by omega); rw [Nat.add_zero] at this; rw [this, ← he]; rfl
  · have := hc 1 (by omega)
    rw [this]
    match m, h, hm with
    | 1, _, _ => rfl
    | 2, _, _ => rfl
  · have := hc 2 (by omega)
    rw [this]
    obtain rfl : m = 2 := by omega
    rfl
end
def SmallN (x : List TN) : Prop := x.length + (x.map fun e => e.way.length).sum ≤ 1048576
theorem sum_get {x : List TN} : ∀ {k : Nat} {e : TN}, x[k]? = some e → e.way.length ≤ (x.map fun e => e.way.length).sum := by
  induction x with
  | nil => intro k e h; simp at h
  | cons a x ih =>
    intro k e h
    rw [List.map_cons, List.sum_cons]
    cases k with
    | zero => simp at h; subst h; omega
    | succ k => have := ih (k := k) (by simpa using h); omega
theorem SmallN.way {x : List TN} (h : SmallN x) {k : Nat} {e : TN} (he : x[k]? = some e) : e.way.length ≤ 1048576 := by
  have := sum_get he; unfold SmallN at h; omega
theorem Only.wider {lo hi lo' hi' : Nat} {w w' : World} (h : Only lo hi w w') (h1 : lo' ≤ lo) (h2 : hi ≤ hi') : Only lo' hi' w w' :=
  ⟨h.1, h.2.1, h.2.2.1, h.2.2.2.1, fun k hk ho => h.2.2.2.2 k hk (by omega)⟩
theorem OwnV.tight {e : TypeId} {s : Nat} {w : World} {lo hi g : Nat} {v : Value} {n : Nat} {xs : List Value} (h : OwnV e s w lo hi v n xs) (hg : v.ownBlock = some g) : OwnV e s w g (g + 1) v n xs := by
  refine ⟨h.1, h.2.1, ?_⟩
  rcases h.2.2 with h0 | ⟨ho, hlt⟩
  · exact .inl h0
  · refine .inr ⟨⟨ho.1, ?_⟩, fun g' hg' => by rw [hg] at hg'; cases hg'; omega⟩
    rcases ho.2 with h0 | ⟨g', cap, cur, rfl, hb, hgg, rest⟩
    · exact .inl h0
    · simp [Value.ownBlock] at hg
      subst hg
      exact .inr ⟨g', cap, cur, rfl, Nat.le_refl _, hgg, rest⟩
/-- The elements' lists are rows of the call's own, one behind the other, none in the block. -/
def FamO (w : World) (blk : Option Nat) : Nat → Nat → List (Value × TN) → Prop
  | _, _, [] => True
  | lo, hi, p :: ps => ∃ a b, lo ≤ a ∧ a ≤ b ∧ b ≤ hi ∧ (∀ g, blk = some g → b ≤ g ∨ g < a) ∧ O_Int64S w a b p.1 p.2.way ∧ FamO w blk b hi ps
theorem FamO.kept {w w' : World} {blk : Option Nat} {lo' hi' hi : Nat} (k : Only lo' hi' w w') : ∀ {ps : List (Value × TN)} {lo : Nat}, FamO w blk lo hi ps → (hi ≤ lo' ∨ hi' ≤ lo) → FamO w' blk lo hi ps := by
  intro ps
  induction ps with
  | nil => intro lo _ _; trivial
  | cons p ps ih =>
    intro lo h hd
    obtain ⟨a, b, h1, h2, h3, h4, h5, h6⟩ := h
    exact ⟨a, b, h1, h2, h3, h4, h5.kept k (by omega), ih h6 (by omega)⟩
theorem FamO.keptB {w w' : World} {g hi : Nat} (k : Only g (g + 1) w w') : ∀ {ps : List (Value × TN)} {lo : Nat}, FamO w (some g) lo hi ps → FamO w' (some g) lo hi ps := by
  intro ps
  induction ps with
  | nil => intro lo _; trivial
  | cons p ps ih =>
    intro lo h
    obtain ⟨a, b, h1, h2, h3, h4, h5, h6⟩ := h
    exact ⟨a, b, h1, h2, h3, h4, h5.kept k (by have := h4 g rfl; omega), ih h6⟩
theorem FamO.below {w w' : World} {blk : Option Nat} {B hi : Nat} (k : Below B w w') (hB : hi ≤ B) : ∀ {ps : List (Value × TN)} {lo : Nat}, FamO w blk lo hi ps → FamO w' blk lo hi ps := by
  intro ps
  induction ps with
  | nil => intro lo _; trivial
  | cons p ps ih =>
    intro lo h
    obtain ⟨a, b, h1, h2, h3, h4, h5, h6⟩ := h
    exact ⟨a, b, h1, h2, h3, h4, h5.below k (by omega), ih h6⟩
theorem FamO.widen {w : World} {blk : Option Nat} {hi hi' : Nat} (k2 : hi ≤ hi') : ∀ {ps : List (Value × TN)} {lo lo' : Nat}, FamO w blk lo hi ps → lo' ≤ lo → FamO w blk lo' hi' ps := by
  intro ps
  induction ps with
  | nil => intro lo lo' _ _; trivial
  | cons p ps ih =>
    intro lo lo' h k1
    obtain ⟨a, b, h1, h2, h3, h4, h5, h6⟩ := h
    exact ⟨a, b, by omega, h2, by omega, h4, h5, ih h6 (Nat.le_refl _)⟩
theorem FamO.blk {w : World} {blk blk' : Option Nat} {hi : Nat} : ∀ {ps : List (Value × TN)} {lo : Nat}, FamO w blk lo hi ps → (∀ g, blk' = some g → hi ≤ g ∨ g < lo) → FamO w blk' lo hi ps := by
  intro ps
  induction ps with
  | nil => intro lo _ _; trivial
  | cons p ps ih =>
    intro lo h k
    obtain ⟨a, b, h1, h2, h3, h4, h5, h6⟩ := h
    exact ⟨a, b, h1, h2, h3, fun g hg => by have := k g hg; omega, h5, ih h6 fun g hg => by have := k g hg; omega⟩
theorem FamO.snoc {w : World} {blk : Option Nat} {mid a b hi : Nat} {p : Value × TN} (h1 : mid ≤ a) (h2 : a ≤ b) (h3 : b ≤ hi) (h4 : ∀ g, blk = some g → b ≤ g ∨ g < a) (h5 : O_Int64S w a b p.1 p.2.way) : ∀ {ps : List (Value × TN)} {lo : Nat}, lo ≤ mid → FamO w blk lo mid ps → FamO w blk lo hi (ps ++ [p]) := by
  intro ps
  induction ps with
  | nil => intro lo hl _; exact ⟨a, b, by omega, h2, h3, h4, h5, trivial⟩
  | cons p' ps ih =>
    intro lo hl h
    obtain ⟨a', b', k1, k2, k3, k4, k5, k6⟩ := h
    exact ⟨a', b', k1, k2, by omega, k4, k5, ih k3 k6⟩
theorem FamO.way {w : World} {blk : Option Nat} {hi : Nat} : ∀ {ps : List (Value × TN)} {lo : Nat}, FamO w blk lo hi ps → ∀ p ∈ ps, WayAt w w.heap.size p := by
  intro ps
  induction ps with
  | nil => intro lo _ p hp; cases hp
  | cons p ps ih =>
    intro lo h
    obtain ⟨a, b, h1, h2, h3, h4, h5, h6⟩ := h
    intro p' hp
    rcases List.mem_cons.1 hp with rfl | hp
    · exact h5.r
    · exact ih h6 p' hp
theorem FamO.at_ {w : World} {blk : Option Nat} {hi : Nat} : ∀ {ps : List (Value × TN)} {lo k : Nat} {p : Value × TN}, FamO w blk lo hi ps → ps[k]? = some p → ∃ a b, lo ≤ a ∧ a ≤ b ∧ b ≤ hi ∧ (∀ g, blk = some g → b ≤ g ∨ g < a) ∧ O_Int64S w a b p.1 p.2.way := by
  intro ps
  induction ps with
  | nil => intro lo k p _ h; simp at h
  | cons p' ps ih =>
    intro lo k p h hp
    obtain ⟨a, b, h1, h2, h3, h4, h5, h6⟩ := h
    cases k with
    | zero => simp at hp; subst hp; exact ⟨a, b, h1, h2, h3, h4, h5⟩
    | succ k =>
      obtain ⟨a', b', k1, k2, k3, k4, k5⟩ := ih h6 (k := k) (p := p) (by simpa using hp)
      exact ⟨a', b', by omega, k2, k3, k4, k5⟩
/-- A list of elements, all of it the call's own. -/
def ON (T : TypeId) (m : Nat) (w : World) (lo hi : Nat) (v : Value) (x : List TN) : Prop :=
  ∃ ps : List (Value × TN), ps.map (·.2) = x ∧ OwnV T (m + 1) w lo hi v x.length (ps.flatMap (Nc m)) ∧ FamO w v.ownBlock lo hi ps ∧ SmallN x
section
variable {T : TypeId} {m : Nat} {w w' : World} {lo hi lo' hi' B : Nat} {v : Value} {x : List TN}
theorem ON.small (h : ON T m w lo hi v x) : SmallN x := by obtain ⟨_, _, _, _, h⟩ := h; exact h
theorem ON.kept (h : ON T m w lo hi v x) (k : Only lo' hi' w w') (hd : hi ≤ lo' ∨ hi' ≤ lo) : ON T m w' lo hi v x := by
  obtain ⟨ps, h1, h2, h3, h4⟩ := h
  exact ⟨ps, h1, h2.kept k hd, h3.kept k hd, h4⟩
theorem ON.below (h : ON T m w lo hi v x) (k : Below B w w') (hd : hi ≤ B) : ON T m w' lo hi v x := by
  obtain ⟨ps, h1, h2, h3, h4⟩ := h
  exact ⟨ps, h1, h2.below k hd, h3.below k hd, h4⟩
theorem ON.widen (h : ON T m w lo hi v x) (h1 : lo' ≤ lo) (h2 : hi ≤ hi') : ON T m w lo' hi' v x := by
  obtain ⟨ps, k1, k2, k3, k4⟩ := h
  exact ⟨ps, k1, k2.widen h1 h2, k3.widen h2 h1, k4⟩
theorem ON.nil (T : TypeId) (m : Nat) (w : World) (lo hi : Nat) (A : Option Addr) (c : Nat) : ON T m w lo hi (.slice A 0 c) [] := ⟨[], rfl, OwnV.nil _ _ _ _ _ _ _, trivial, by unfold SmallN; simp⟩
theorem ON.r (h : ON T m w lo hi v x) : ∃ A c, v = .slice A x.length c ∧ RN m w w.heap.size A x := by
  obtain ⟨ps, h1, h2, h3, _⟩ := h
  obtain ⟨A, c, rfl, r⟩ := h2.rd
  exact ⟨A, c, rfl, ps, h1, r, h3.way⟩
end
/-- What the marks make of the elements, and how many marks there are. -/
def mkN (m : Nat) : List TN → Int → List TN
  | [], _ => []
  | e :: es, k => ⟨mark_Int64S e.way k, if 1 ≤ m then k + e.way.length else e.p, if 2 ≤ m then k + e.way.length + 1 else e.q⟩ :: mkN m es (k + e.way.length + m)
def cntN (m : Nat) : List TN → Int
  | [] => 0
  | e :: es => e.way.length + m + cntN m es
theorem mkN_len (m : Nat) : ∀ (x : List TN) (k : Int), (mkN m x k).length = x.length := by
  intro x
  induction x with
  | nil => intro k; rfl
  | cons e es ih => intro k; rw [mkN, List.length_cons, List.length_cons, ih]
theorem mkN_sum (m : Nat) : ∀ (x : List TN) (k : Int), ((mkN m x k).map fun e => e.way.length) = x.map fun e => e.way.length := by
  intro x
  induction x with
  | nil => intro k; rfl
  | cons e es ih => intro k; rw [mkN, List.map_cons, List.map_cons, ih]; simp [mark_Int64S, marks_len]
theorem mkN_small {m : Nat} {x : List TN} {k : Int} (h : SmallN x) : SmallN (mkN m x k) := by unfold SmallN at *; rw [mkN_len, mkN_sum]; exact h
theorem mkN_append (m : Nat) : ∀ (x y : List TN) (k : Int), mkN m (x ++ y) k = mkN m x k ++ mkN m y (k + cntN m x) := by
  intro x
  induction x with
  | nil => intro y k; simp [mkN, cntN]
  | cons e es ih => intro y k; rw [List.cons_append, mkN, mkN, cntN, ih, List.cons_append]; congr 3; omega
theorem cntN_append (m : Nat) : ∀ (x y : List TN), cntN m (x ++ y) = cntN m x + cntN m y := by
  intro x
  induction x with
  | nil => intro y; simp [cntN]
  | cons e es ih => intro y; rw [List.cons_append, cntN, cntN, ih]; omega
theorem cntN_bd (m : Nat) (hm : m ≤ 2) : ∀ (x : List TN), 0 ≤ cntN m x ∧ cntN m x ≤ (x.map fun e => e.way.length).sum + 2 * (x.length : Int) := by
  intro x
  induction x with
  | nil => simp [cntN]
  | cons e es ih => rw [cntN, List.map_cons, List.sum_cons, List.length_cons]; omega
theorem mkN_get (m : Nat) : ∀ {x : List TN} {j : Nat} {e : TN} (k : Int), x[j]? = some e → (mkN m x k)[j]? = some ⟨mark_Int64S e.way (k + cntN m (x.take j)), if 1 ≤ m then k + cntN m (x.take j) + e.way.length else e.p, if 2 ≤ m then k + cntN m (x.take j) + e.way.length + 1 else e.q⟩ := by
  intro x
  induction x with
  | nil => intro j e k h; simp at h
  | cons a x ih =>
    intro j e k h
    cases j with
    | zero => simp at h; subst h; simp [mkN, cntN]
    | succ j =>
      rw [mkN, List.getElem?_cons_succ, ih _ (by simpa using h), List.take_succ_cons, cntN]
      rw [show k + a.way.length + m + cntN m (x.take j) = k + (a.way.length + m + cntN m (x.take j)) by omega]
theorem cntN_take {m : Nat} {x : List TN} {j : Nat} {e : TN} (h : x[j]? = some e) : cntN m (x.take (j + 1)) = cntN m (x.take j) + (e.way.length + m) := by
  obtain ⟨hl, he⟩ := List.getElem?_eq_some_iff.1 h
  rw [List.take_succ_eq_append_getElem hl, he, cntN_append, cntN, cntN]; omega
end Go.Proofs.YtofjnmeblmbnmaaDoor
namespace Go.Proofs.YtofjnmeblmbnmaaDoor
open Go.RowKit

def BoxN (w : World) (b : Nat) (cs : Array Value) (e : TypeId) : Prop := w.heap[b]? = some (.cells cs e (0, 0))
theorem BoxN.new (w : World) (cs : Array Value) (e : TypeId) : BoxN (w.alloc (.cells cs e)) w.heap.size cs e := heap_alloc_new w _
theorem BoxN.lt {w : World} {b : Nat} {cs : Array Value} {e : TypeId} (h : BoxN w b cs e) : b < w.heap.size := lt_of_block h
theorem BoxN.alloc {w : World} {b : Nat} {cs : Array Value} {e : TypeId} (h : BoxN w b cs e) (o : Obj) : BoxN (w.alloc o) b cs e := by
  have := h.lt
  unfold BoxN at *
  rw [heap_alloc_old _ _ this]; exact h
theorem BoxN.below {w w' : World} {b B : Nat} {cs : Array Value} {e : TypeId} (h : BoxN w b cs e) (k : Below B w w') (hb : b < B) : BoxN w' b cs e := (k.block b hb).trans h
theorem BoxN.cell {w : World} {b : Nat} {cs : Array Value} {e : TypeId} (h : BoxN w b cs e) (j : Nat) : w.cell? ⟨b, j, none⟩ = cs.toList[j]? := by
  rw [cell_of_row w b j cs e (0, 0) h]; simp
theorem BoxN.fro {w : World} {b : Nat} {cs : Array Value} {e : TypeId} (h : BoxN w b cs e) (j : Nat) : w.frozen? ⟨b, j, none⟩ = false := frozen_of_row w b j cs e h
theorem BoxN.set {w : World} {b : Nat} {cs : Array Value} {e : TypeId} (h : BoxN w b cs e) (j : Nat) (v : Value) : BoxN (w.setCell ⟨b, j, none⟩ v) b (cs.setIfInBounds j v) e := by
  unfold BoxN at *
  simp [World.setCell, Array.getElem?_modify, h]
theorem BoxN.other {w : World} {b b' : Nat} {cs : Array Value} {e : TypeId} (h : BoxN w b cs e) (hne : b' ≠ b) (j : Nat) (v : Value) : BoxN (w.setCell ⟨b', j, none⟩ v) b cs e := by
  unfold BoxN at *
  rw [heap_setCell_other _ ⟨b', j, none⟩ _ v (Ne.symm hne)]; exact h
theorem onlyN_set {w : World} {b j lo hi : Nat} {v : Value} (h1 : lo ≤ b) (h2 : b < hi) : Only lo hi w (w.setCell ⟨b, j, none⟩ v) :=
  ⟨rfl, rfl, rfl, by simp, fun k _ ho => heap_setCell_other w ⟨b, j, none⟩ _ v (by simp; omega)⟩
def sizeN (x : List TN) : Nat := x.length + (x.map fun e => e.way.length).sum
def LenN (x : List TN) : Prop := x.length ≤ 9223372036854775807 ∧ ∀ e ∈ x, e.way.length ≤ 9223372036854775807
theorem smallN {x : List TN} (h : (sizeN x : Int) ≤ 1048576) : SmallN x := by unfold sizeN at h; unfold SmallN; omega
def zp : Value × TN := (.slice none 0 0, ⟨[], 0, 0⟩)
theorem nest_len {m n k : Nat} {ps : List (Value × TN)} (h : ps.length = k) (hk : k ≤ n) : (ps ++ List.replicate (n - k) zp).length = n := by simp; omega
theorem nest_get {n k : Nat} {ps : List (Value × TN)} (h : ps.length = k) (hk : k < n) : (ps ++ List.replicate (n - k) zp)[k]? = some zp := by
  rw [List.getElem?_append_right (by omega), List.getElem?_replicate, if_pos (by omega)]
theorem nest_set {n k : Nat} {ps : List (Value × TN)} (h : ps.length = k) (hk : k < n) (p : Value × TN) : (ps ++ List.replicate (n - k) zp).set k p = (ps ++ [p]) ++ List.replicate (n - (k + 1)) zp := by
  rw [List.set_append_right _ _ (by omega), h, Nat.sub_self, show n - k = (n - (k + 1)) + 1 by omega, List.replicate_succ, List.set_cons_zero, List.append_assoc]; rfl
theorem set_set_same {α : Type} (xs : List α) (k : Nat) (a b : α) : (xs.set k a).set k b = xs.set k b := by simp
theorem store1 {L : List (Value × TN)} {k : Nat} {y : Value × TN} (h : L[k]? = some y) (sv : Value) (e : TN) : ((L.flatMap (Nc 1)).set (k * 2) sv).set (k * 2 + 1) (.int .i64 e.p) = (L.set k (sv, e)).flatMap (Nc 1) := by
  have h1 := flatMap_set (Nc 1) 2 (fun _ => rfl) L k 0 y (sv, y.2) sv h (by omega) rfl
  rw [Nat.add_zero] at h1
  have h2 := flatMap_set (Nc 1) 2 (fun _ => rfl) (L.set k (sv, y.2)) k 1 (sv, y.2) (sv, e) (.int .i64 e.p) (List.getElem?_set_self (lt_of_get h)) (by omega) rfl
  rw [h1, h2, set_set_same]
theorem store2 {L : List (Value × TN)} {k : Nat} {y : Value × TN} (h : L[k]? = some y) (sv : Value) (e : TN) : (((L.flatMap (Nc 2)).set (k * 3) sv).set (k * 3 + 1) (.int .i64 e.p)).set (k * 3 + 2) (.int .i64 e.q) = (L.set k (sv, e)).flatMap (Nc 2) := by
  have h1 := flatMap_set (Nc 2) 3 (fun _ => rfl) L k 0 y (sv, y.2) sv h (by omega) rfl
  rw [Nat.add_zero] at h1
  have h2 := flatMap_set (Nc 2) 3 (fun _ => rfl) (L.set k (sv, y.2)) k 1 (sv, y.2) (sv, ⟨y.2.way, e.p, y.2.q⟩) (.int .i64 e.p) (List.getElem?_set_self (lt_of_get h)) (by omega) rfl
  have h3 := flatMap_set (Nc 2) 3 (fun _ => rfl) ((L.set k (sv, y.2)).set k (sv, ⟨y.2.way, e.p, y.2.q⟩)) k 2 (sv, ⟨y.2.way, e.p, y.2.q⟩) (sv, e) (.int .i64 e.q) (List.getElem?_set_self (by rw [List.length_set]; exact lt_of_get h)) (by omega) rfl
  rw [h1, h2, h3, set_set_same, set_set_same]
theorem store0 {L : List (Value × TN)} {k : Nat} {y : Value × TN} (h : L[k]? = some y) (sv : Value) (e : TN) : (L.flatMap (Nc 0)).set (k * 1) sv = (L.set k (sv, e)).flatMap (Nc 0) := by
  have h1 := flatMap_set (Nc 0) 1 (fun _ => rfl) L k 0 y (sv, e) sv h (by omega) rfl
  rw [Nat.add_zero] at h1
  exact h1
theorem szF_add {n k : Nat} {l : Int} (h : (n : Int) ≤ l) : szF (n + k) l = szF k (l - n) := by unfold szF; split <;> split <;> omega

end Go.Proofs.YtofjnmeblmbnmaaDoor
