/-
  Zones: the first tick from which on a level is great enough; in the program and in the reference.
-/
import Derived.Test.YticgaiboolojkaaZon7
namespace Go.Proofs.Yticgaiboolojkaa
open Go.RowKit

def findFrom (q : Int → Bool) : Nat → Int → Int
  | 0, _ => -1
  | n + 1, b => if q b then b else findFrom q n (b + 1)
theorem findFrom_eq {q : Int → Bool} {r : Int} : ∀ {n : Nat} {b : Int}, b ≤ r → r < b + n → q r = true → (∀ c, b ≤ c → c < r → q c = false) → findFrom q n b = r := by
  intro n
  induction n with
  | zero => intro b h1 h2; omega
  | succ n ih =>
    intro b h1 h2 h3 h4
    rw [findFrom]
    by_cases hb : b = r
    · subst hb; rw [if_pos h3]
    · rw [h4 b (by omega) (by omega)]
      simp only [Bool.false_eq_true, if_false]
      exact ih (by omega) (by omega) h3 fun c hc => h4 c (by omega)
theorem findFrom_none {q : Int → Bool} : ∀ {n : Nat} {b : Int}, (∀ c, b ≤ c → c < b + n → q c = false) → findFrom q n b = -1 := by
  intro n
  induction n with
  | zero => intro b _; rfl
  | succ n ih =>
    intro b h
    rw [findFrom, h b (by omega) (by omega)]
    simp only [Bool.false_eq_true, if_false]
    exact ih fun c hc hd => h c (by omega) (by omega)
/-- From b on p holds for so many ticks, or up to the last one. -/
def goodB (p : Int → Bool) (ticks b : Int) : Bool := (List.range ticks.toNat).all fun i => decide (10000 < b + (i : Int)) || p (b + i)
theorem goodB_t {p : Int → Bool} {ticks b : Int} (h : ∀ s, b ≤ s → s < b + ticks → s ≤ 10000 → p s = true) : goodB p ticks b = true := by
  unfold goodB
  rw [List.all_eq_true]
  intro i hi
  have hi' := List.mem_range.1 hi
  by_cases h1 : 10000 < b + (i : Int)
  · simp [h1]
  · rw [h _ (by omega) (by omega) (by omega)]; simp
theorem goodB_f {p : Int → Bool} {ticks b s : Int} (h1 : b ≤ s) (h2 : s < b + ticks) (h3 : s ≤ 10000) (h4 : p s = false) : goodB p ticks b = false := by
  cases hg : goodB p ticks b
  · rfl
  · unfold goodB at hg
    rw [List.all_eq_true] at hg
    have := hg (s - b).toNat (List.mem_range.2 (by omega))
    rw [show b + (((s - b).toNat : Nat) : Int) = s by omega, h4] at this
    simp at this
    omega
def faOf (p : Int → Bool) (fr ticks : Int) : Int := findFrom (goodB p ticks) (10001 - fr).toNat fr
/-- A tick below b's window, or within it, at which p fails. -/
def Bad (p : Int → Bool) (ticks b hi : Int) : Prop := ∃ s, b ≤ s ∧ s < b + ticks ∧ s ≤ hi ∧ p s = false
theorem fa_found {p : Int → Bool} {fr ticks r : Int} (h1 : fr ≤ r) (h2 : r ≤ 10000) (h3 : ∀ s, r ≤ s → s < r + ticks → s ≤ 10000 → p s = true) (h4 : ∀ b, fr ≤ b → b < r → Bad p ticks b 10000) : faOf p fr ticks = r :=
  findFrom_eq h1 (by omega) (goodB_t h3) fun c hc hd => by obtain ⟨s, a, b, c, d⟩ := h4 c hc hd; exact goodB_f a b c d
theorem fa_none {p : Int → Bool} {fr ticks : Int} (h4 : ∀ b, fr ≤ b → b ≤ 10000 → Bad p ticks b 10000) : faOf p fr ticks = -1 :=
  findFrom_none fun c hc hd => by obtain ⟨s, a, b, c, d⟩ := h4 c hc (by omega); exact goodB_f a b c d
/-- The reference's way from change to change. -/
def faGo (zone least fr ticks : Int) : List T3 → Int → Int
  | [], bg => bg
  | c :: cs, bg => if c.b = zone ∧ fr < c.a then (if 0 ≤ bg ∧ ticks ≤ c.a - bg then bg else faGo zone least fr ticks cs (if c.c < least then -1 else if bg < 0 then c.a else bg)) else faGo zone least fr ticks cs bg
theorem faGo_drop {zone least fr ticks bg : Int} {cs : List T3} {k : Nat} {c : T3} (h : cs[k]? = some c) : faGo zone least fr ticks (cs.drop k) bg = if c.b = zone ∧ fr < c.a then (if 0 ≤ bg ∧ ticks ≤ c.a - bg then bg else faGo zone least fr ticks (cs.drop (k + 1)) (if c.c < least then -1 else if bg < 0 then c.a else bg)) else faGo zone least fr ticks (cs.drop (k + 1)) bg := by rw [drop_cons h, faGo]
theorem faGo_filter (zone least fr ticks : Int) : ∀ (cs : List T3) (bg : Int), faGo zone least fr ticks cs bg = faGo zone least fr ticks (cs.filter fun c => decide (fr < c.a)) bg := by
  intro cs
  induction cs with
  | nil => intro bg; rfl
  | cons c cs ih =>
    intro bg
    by_cases h : fr < c.a
    · rw [List.filter_cons_of_pos (by simpa using h), faGo, faGo]
      simp only [ih]
    · rw [List.filter_cons_of_neg (by simpa using h), faGo, if_neg fun k => h k.2, ih]
theorem lvlGo_none {zone t : Int} : ∀ {cs : List T3} {acc : Int}, (∀ c ∈ cs, c.b = zone → t < c.a) → lvlGo zone t acc cs = acc := by
  intro cs
  induction cs with
  | nil => intro acc _; rfl
  | cons c cs ih =>
    intro acc h
    rw [lvlGo, if_neg fun k => by have := h c (List.mem_cons_self ..) k.1; omega]
    exact ih fun d hd => h d (List.mem_cons_of_mem _ hd)
theorem lvlGo_filter {zone fr t : Int} (ht : fr ≤ t) : ∀ {cs : List T3} (acc : Int), cs.Pairwise (fun a b => a.a ≤ b.a) → lvlGo zone t acc cs = lvlGo zone t (lvlGo zone fr acc cs) (cs.filter fun c => decide (fr < c.a)) := by
  intro cs
  induction cs with
  | nil => intro acc _; rfl
  | cons c cs ih =>
    intro acc hp
    obtain ⟨hp1, hp2⟩ := List.pairwise_cons.1 hp
    by_cases h : fr < c.a
    · have hall : ∀ d ∈ c :: cs, fr < d.a := fun d hd => by
        rcases List.mem_cons.1 hd with rfl | hd
        · exact h
        · have := hp1 d hd; omega
      rw [lvlGo_late (acc := acc) hall, List.filter_eq_self.2 fun d hd => by simpa using hall d hd]
    · rw [List.filter_cons_of_neg (by simpa using h), lvlGo, lvlGo]
      have e : (if c.b = zone ∧ c.a ≤ t then c.c else acc) = if c.b = zone ∧ c.a ≤ fr then c.c else acc := by
        by_cases hz : c.b = zone
        · rw [if_pos ⟨hz, by omega⟩, if_pos ⟨hz, by omega⟩]
        · rw [if_neg fun k => hz k.1, if_neg fun k => hz k.1]
      rw [e]
      exact ih _ hp2
def FaRes (p : Int → Bool) (fr ticks r : Int) : Prop := (r = -1 ∧ ∀ b, fr ≤ b → b ≤ 10000 → Bad p ticks b 10000) ∨ (0 ≤ r ∧ fr ≤ r ∧ r ≤ 10000 ∧ (∀ s, r ≤ s → s < r + ticks → s ≤ 10000 → p s = true) ∧ ∀ b, fr ≤ b → b < r → Bad p ticks b 10000)
theorem FaRes.eq {p : Int → Bool} {fr ticks r : Int} (h : FaRes p fr ticks r) : faOf p fr ticks = r := by
  rcases h with ⟨rfl, h⟩ | ⟨_, h1, h2, h3, h4⟩
  · exact fa_none h
  · exact fa_found h1 h2 h3 h4
theorem Bad.mk' {p : Int → Bool} {ticks b hi s : Int} (h1 : b ≤ s) (h2 : s < b + ticks) (h3 : s ≤ hi) (h4 : p s = false) : Bad p ticks b hi := ⟨s, h1, h2, h3, h4⟩
theorem Bad.to {p q : Int → Bool} {ticks b hi hi' : Int} (h : Bad p ticks b hi) (hh : hi ≤ hi') (hq : ∀ s, s ≤ hi → q s = p s) : Bad q ticks b hi' := by
  obtain ⟨s, a, b, c, d⟩ := h
  exact ⟨s, a, b, by omega, by rw [hq s c]; exact d⟩
theorem faGo_res (zone least fr ticks : Int) (hfr : 0 ≤ fr) (htk : 1 ≤ ticks) : ∀ (cs : List T3) (bg T : Int) (g : Int → Int), cs.Pairwise (fun a b => ltC a b = true) → (∀ c ∈ cs, c.b = zone → T < c.a) → (∀ c ∈ cs, c.a ≤ 10000) → fr ≤ T → T ≤ 10000 →
    (bg < 0 → bg = -1) → (∀ t, T ≤ t → geB least (g t) = decide (0 ≤ bg)) → (0 ≤ bg → fr ≤ bg ∧ bg ≤ T ∧ ∀ t, bg ≤ t → geB least (g t) = true) →
    (bg < 0 → ∀ b, fr ≤ b → b ≤ T → Bad (fun t => geB least (g t)) ticks b T) → (0 ≤ bg → ∀ b, fr ≤ b → b < bg → Bad (fun t => geB least (g t)) ticks b T) →
    FaRes (fun t => geB least (lvlGo zone t (g t) cs)) fr ticks (faGo zone least fr ticks cs bg) := by
  intro cs
  induction cs with
  | nil =>
    intro bg T g _ _ _ hT hT' hm h1 h2 h3 h4
    simp only [faGo, lvlGo]
    by_cases hb : bg < 0
    · refine .inl ⟨hm hb, fun b hb1 hb2 => ?_⟩
      by_cases hbt : b ≤ T
      · exact (h3 hb b hb1 hbt).to hT' fun _ _ => rfl
      · exact .mk' (Int.le_refl b) (by omega) hb2 (by rw [h1 b (by omega)]; simpa using hb)
    · have hb' : 0 ≤ bg := by omega
      obtain ⟨k1, k2, k3⟩ := h2 hb'
      exact .inr ⟨hb', k1, by omega, fun s hs _ _ => k3 s hs, fun b hb1 hb2 => (h4 hb' b hb1 hb2).to hT' fun _ _ => rfl⟩
  | cons c cs ih =>
    intro bg T g hp hH hA hT hT' hm h1 h2 h3 h4
    obtain ⟨hp1, hp2⟩ := List.pairwise_cons.1 hp
    have hA' : ∀ d ∈ cs, d.a ≤ 10000 := fun d hd => hA d (List.mem_cons_of_mem _ hd)
    by_cases hz : c.b = zone
    case neg =>
      rw [faGo, if_neg fun k => hz k.1]
      have := ih bg T g hp2 (fun d hd => hH d (List.mem_cons_of_mem _ hd)) hA' hT hT' hm h1 h2 h3 h4
      have e : (fun t => geB least (lvlGo zone t (g t) (c :: cs))) = fun t => geB least (lvlGo zone t (g t) cs) := by
        funext t; rw [lvlGo, if_neg fun k => hz k.1]
      rw [e]; exact this
    have hTc := hH c (List.mem_cons_self ..) hz
    have hca := hA c (List.mem_cons_self ..)
    have hlater : ∀ d ∈ cs, d.b = zone → c.a < d.a := fun d hd hdz => by have := ltC_iff.1 (hp1 d hd); omega
    rw [faGo, if_pos ⟨hz, by omega⟩]
    by_cases hr : 0 ≤ bg ∧ ticks ≤ c.a - bg
    · rw [if_pos hr]
      obtain ⟨k1, k2, k3⟩ := h2 hr.1
      have hsame : ∀ s, s < c.a → lvlGo zone s (g s) (c :: cs) = g s := fun s hs => lvlGo_none fun d hd hdz => by
        rcases List.mem_cons.1 hd with rfl | hd
        · exact hs
        · have := hlater d hd hdz; omega
      refine .inr ⟨hr.1, k1, by omega, fun s hs1 hs2 _ => ?_, fun b hb1 hb2 => (h4 hr.1 b hb1 hb2).to hT' fun s hs => ?_⟩
      · show geB least (lvlGo zone s (g s) (c :: cs)) = true
        rw [hsame s (by omega)]; exact k3 s hs1
      · show geB least (lvlGo zone s (g s) (c :: cs)) = _
        rw [hsame s (by omega)]
    rw [if_neg hr]
    have hg : ∀ s, s ≤ T → (fun t => geB least (if c.a ≤ t then c.c else g t)) s = (fun t => geB least (g t)) s := fun s hs => by
      show geB least (if c.a ≤ s then c.c else g s) = _
      rw [if_neg (by omega)]
    have e : (fun t => geB least (lvlGo zone t (g t) (c :: cs))) = fun t => geB least (lvlGo zone t (if c.a ≤ t then c.c else g t) cs) := by
      funext t; rw [lvlGo]; simp only [hz, true_and]
    rw [e]
    have hgb : ∀ b, b < c.a → geB least (if c.a ≤ b then c.c else g b) = geB least (g b) := fun b hb => by rw [if_neg (by omega)]
    by_cases hlow : c.c < least
    · rw [if_pos hlow]
      refine ih (-1) c.a (fun t => if c.a ≤ t then c.c else g t) hp2 hlater hA' (by omega) hca (fun _ => rfl) (fun t ht => ?_) (fun h => by omega) (fun _ b hb1 hb2 => ?_) (fun h => by omega)
      · show geB least (if c.a ≤ t then c.c else g t) = _
        rw [if_pos ht, geB_f (by omega)]; rfl
      · by_cases hbc : b = c.a
        · exact .mk' (s := c.a) (by omega) (by omega) (Int.le_refl _) (by show geB least (if c.a ≤ c.a then c.c else g c.a) = false; rw [if_pos (Int.le_refl _), geB_f (by omega)])
        by_cases hb : bg < 0
        · by_cases hbt : b ≤ T
          · exact (h3 hb b hb1 hbt).to (by omega) hg
          · exact .mk' (Int.le_refl b) (by omega) hb2 (by show geB least (if c.a ≤ b then c.c else g b) = false; rw [hgb b (by omega), h1 b (by omega)]; simpa using hb)
        · by_cases hbb : b < bg
          · exact (h4 (by omega) b hb1 hbb).to (by omega) hg
          · exact .mk' (s := c.a) (by omega) (by omega) (Int.le_refl _) (by show geB least (if c.a ≤ c.a then c.c else g c.a) = false; rw [if_pos (Int.le_refl _), geB_f (by omega)])
    · rw [if_neg hlow]
      by_cases hb : bg < 0
      · rw [if_pos hb]
        refine ih c.a c.a (fun t => if c.a ≤ t then c.c else g t) hp2 hlater hA' (by omega) hca (fun h => by omega) (fun t ht => ?_) (fun _ => ⟨by omega, by omega, fun t ht => ?_⟩) (fun h => by omega) (fun _ b hb1 hb2 => ?_)
        · show geB least (if c.a ≤ t then c.c else g t) = _
          rw [if_pos ht, geB_t (by omega), decide_eq_true (by omega)]
        · show geB least (if c.a ≤ t then c.c else g t) = _
          rw [if_pos ht, geB_t (by omega)]
        · by_cases hbt : b ≤ T
          · exact (h3 hb b hb1 hbt).to (by omega) hg
          · exact .mk' (Int.le_refl b) (by omega) (by omega) (by show geB least (if c.a ≤ b then c.c else g b) = false; rw [hgb b (by omega), h1 b (by omega)]; simpa using hb)
      · rw [if_neg hb]
        obtain ⟨k1, k2, k3⟩ := h2 (by omega)
        refine ih bg c.a (fun t => if c.a ≤ t then c.c else g t) hp2 hlater hA' (by omega) hca hm (fun t ht => ?_) (fun _ => ⟨k1, by omega, fun t ht => ?_⟩) (fun h => by omega) (fun h b hb1 hb2 => (h4 h b hb1 hb2).to (by omega) hg)
        · show geB least (if c.a ≤ t then c.c else g t) = _
          rw [if_pos ht, geB_t (by omega), decide_eq_true (by omega)]
        · show geB least (if c.a ≤ t then c.c else g t) = _
          by_cases hct : c.a ≤ t
          · rw [if_pos hct, geB_t (by omega)]
          · rw [if_neg hct]; exact k3 t ht
theorem chOk_strict {n : Int} : ∀ {cs : List T3} {p : Option T3}, chOk n p cs = true → cs.Pairwise (fun a b => ltC a b = true) := by
  intro cs
  induction cs with
  | nil => intro p _; exact List.Pairwise.nil
  | cons d ds ih =>
    intro p h
    rw [chOk] at h
    simp only [Bool.and_eq_true] at h
    exact List.pairwise_cons.2 ⟨fun c hc => chOk_all h.2.2 c hc, ih h.2.2⟩
def bg0 (x : TZ) (zone least fr : Int) : Int := if least ≤ lvl x.ch zone fr then fr else -1
theorem faGo_eq {x : TZ} (hv : vZoned x = true) (zone least fr ticks : Int) (hfr : 0 ≤ fr ∧ fr ≤ 10000) (htk : 1 ≤ ticks) : faGo zone least fr ticks x.ch (bg0 x zone least fr) = faOf (fun t => geB least (lvl x.ch zone t)) fr ticks := by
  have hc := (vZoned_iff hv).2.2.2.2
  obtain ⟨h1, h2⟩ := chOk_sorted hc
  have h3 := chOk_strict hc
  rw [faGo_filter]
  have hres := faGo_res zone least fr ticks hfr.1 htk (x.ch.filter fun c => decide (fr < c.a)) (bg0 x zone least fr) fr (fun _ => lvl x.ch zone fr) (h3.sublist List.filter_sublist)
    (fun c hc _ => by simpa using (List.mem_filter.1 hc).2) (fun c hc => (okC_iff.1 (h2 c (List.mem_filter.1 hc).1)).1.2) (Int.le_refl _) hfr.2
    (by unfold bg0; split <;> intro <;> omega) (fun t _ => by unfold bg0; by_cases h : least ≤ lvl x.ch zone fr
                                                              · rw [if_pos h, geB_t h, decide_eq_true hfr.1]
                                                              · rw [if_neg h, geB_f h]; rfl)
    (fun h => by
      unfold bg0 at h ⊢
      by_cases hl : least ≤ lvl x.ch zone fr
      · rw [if_pos hl]; exact ⟨by omega, by omega, fun _ _ => geB_t hl⟩
      · rw [if_neg hl] at h; omega)
    (fun h b hb1 hb2 => by
      unfold bg0 at h
      by_cases hl : least ≤ lvl x.ch zone fr
      · rw [if_pos hl] at h; omega
      · exact .mk' hb2 (by omega) (Int.le_refl _) (geB_f hl))
    (fun h b hb1 hb2 => by
      unfold bg0 at hb2
      split at hb2 <;> omega)
  rw [← hres.eq]
  have key : ∀ t, fr ≤ t → lvl x.ch zone t = lvlGo zone t (lvl x.ch zone fr) (x.ch.filter fun c => decide (fr < c.a)) := fun t ht => lvlGo_filter ht 0 h1
  have e : ∀ b, fr ≤ b → goodB (fun t => geB least (lvlGo zone t (lvl x.ch zone fr) (x.ch.filter fun c => decide (fr < c.a)))) ticks b = goodB (fun t => geB least (lvl x.ch zone t)) ticks b := fun b hb => by
    unfold goodB
    congr 1
    funext i
    exact congrArg (fun z => decide (10000 < b + (i : Int)) || geB least z) (key (b + i) (by omega)).symm
  unfold faOf
  generalize (10001 - fr).toNat = n
  have : ∀ (n : Nat) (b : Int), fr ≤ b → findFrom (goodB (fun t => geB least (lvlGo zone t (lvl x.ch zone fr) (x.ch.filter fun c => decide (fr < c.a)))) ticks) n b = findFrom (goodB (fun t => geB least (lvl x.ch zone t)) ticks) n b := by
    intro n
    induction n with
    | zero => intro b _; rfl
    | succ n ih => intro b hb; rw [findFrom, findFrom, e b hb, ih (b + 1) (by omega)]
  exact this n fr (Int.le_refl _)
def faTup (r : Int) : Int × Int := if r < 0 then (0, 3) else (r, 0)
def firstAbove (x : TZ) (zone least fr ticks : Int) : Int × Int := if codeZ x zone fr = 0 then (if (-100 ≤ least ∧ least ≤ 100) ∧ (1 ≤ ticks ∧ ticks ≤ 10000) then faTup (faOf (fun t => geB least (lvl x.ch zone t)) fr ticks) else (0, 2)) else (0, codeZ x zone fr)
end Go.Proofs.Yticgaiboolojkaa
