/-
  Zones: the first tick from which on a level is great enough; in the program and in the reference.
-/
import Derived.Test.YtklfjekpeoigoaaQPressed7
namespace Go.Proofs.Ytklfjekpeoigoaa
open Go.RowKit

def findFrom (q : Int → Bool) : Nat → Int → Int
  | 0, _ => -1
  | n + 1, b => if q b then b else findFrom q n (b + 1)
theorem findFrom_eq {q : Int → Bool} {r : Int} : ∀ {n : Nat} {b : Int}, b ≤ r → r < b + n → q r = true → (∀ c, b ≤ c → c < r → q c = false) → findFrom q n b = r := by
  intro n
  induction n with
  | zero => intro b h1 h2; omega
  | succ n ih =>
    intro b h1 h2 h3 h4
    rw [findFrom]
    by_cases hb : b = r
    · subst hb; rw [if_pos h3]
    · rw [h4 b (by omega) (by omega)]
      simp only [Bool.false_eq_true, if_false]
      exact ih (by omega) (by omega) h3 fun c hc => h4 c (by omega)
theorem findFrom_none {q : Int → Bool} : ∀ {n : Nat} {b : Int}, (∀ c, b ≤ c → c < b + n → q c = false) → findFrom q n b = -1 := by
  intro n
  induction n with
  | zero => intro b _; rfl
  | succ n ih =>
    intro b h
    rw [findFrom, h b (by omega) (by omega)]
    simp only [Bool.false_eq_true, if_false]
    exact ih fun c hc hd => h c (by omega) (by omega)
/-- From b on p holds for so many ticks, or up to the last one. -/
def goodB (p : Int → Bool) (ticks b : Int) : Bool := (List.range ticks.toNat).all fun i => decide (10000 < b + (i : Int)) || p (b + i)
theorem goodB_t {p : Int → Bool} {ticks b : Int} (h : ∀ s, b ≤ s → s < b + ticks → s ≤ 10000 → p s = true) : goodB p ticks b = true := by
  unfold goodB
  rw [List.all_eq_true]
  intro i hi
  have hi' := List.mem_range.1 hi
  by_cases h1 : 10000 < b + (i : Int)
  · simp [h1]
  · rw [h _ (by omega) (by omega) (by omega)]; simp
theorem goodB_f {p : Int → Bool} {ticks b s : Int} (h1 : b ≤ s) (h2 : s < b + ticks) (h3 : s ≤ 10000) (h4 : p s = false) : goodB p ticks b = false := by
  cases hg : goodB p ticks b
  · rfl
  · unfold goodB at hg
    rw [List.all_eq_true] at hg
    have := hg (s - b).toNat (List.mem_range.2 (by omega))
    rw [show b + (((s - b).toNat : Nat) : Int) = s by omega, h4] at this
    simp at this
    omega
def faOf (p : Int → Bool) (fr ticks : Int) : Int := findFrom (goodB p ticks) (10001 - fr).toNat fr
/-- A tick below b's window, or within it, at which p fails. -/
def Bad (p : Int → Bool) (ticks b hi : Int) : Prop := ∃ s, b ≤ s ∧ s < b + ticks ∧ s ≤ hi ∧ p s = false
theorem fa_found {p : Int → Bool} {fr ticks r : Int} (h1 : fr ≤ r) (h2 : r ≤ 10000) (h3 : ∀ s, r ≤ s → s < r + ticks → s ≤ 10000 → p s = true) (h4 : ∀ b, fr ≤ b → b < r → Bad p ticks b 10000) : faOf p fr ticks = r :=
  findFrom_eq h1 (by omega) (goodB_t h3) fun c hc hd => by obtain ⟨s, a, b, c, d⟩ := h4 c hc hd; exact goodB_f a b c d
theorem fa_none {p : Int → Bool} {fr ticks : Int} (h4 : ∀ b, fr ≤ b → b ≤ 10000 → Bad p ticks b 10000) : faOf p fr ticks = -1 :=
  findFrom_none fun c hc hd => by obtain ⟨s, a, b, c, d⟩ := h4 c hc (by omega); exact goodB_f a b c d
/-- The reference's way from change to change. -/
def faGo (zone least fr ticks : Int) : List T3 → Int → Int
  | [], bg => bg
  | c :: cs, bg => if c.b = zone ∧ fr < c.a then (if 0 ≤ bg ∧ ticks ≤ c.a - bg then bg else faGo zone least fr ticks cs (if c.c < least then -1 else if bg < 0 then c.a else bg)) else faGo zone least fr ticks cs bg
theorem faGo_drop {zone least fr ticks bg : Int} {cs : List T3} {k : Nat} {c : T3} (h : cs[k]? = some c) : faGo zone least fr ticks (cs.drop k) bg = if c.b = zone ∧ fr < c.a then (if 0 ≤ bg ∧ ticks ≤ c.a - bg then bg else faGo zone least fr ticks (cs.drop (k + 1)) (if c.c < least then -1 else if bg < 0 then c.a else bg)) else faGo zone least fr ticks (cs.drop (k + 1)) bg := by rw [drop_cons h, faGo]
theorem faGo_filter (zone least fr ticks : Int) : ∀ (cs : List T3) (bg : Int), faGo zone least fr ticks cs bg = faGo zone least fr ticks (cs.filter fun c => decide (fr < c.a)) bg := by
  intro cs
  induction cs with
  | nil => intro bg; rfl
  | cons c cs ih =>
    intro bg
    by_cases h : fr < c.a
    · rw [List.filter_cons_of_pos (by simpa using h), faGo, faGo]
      simp only [ih]
    · rw [List.filter_cons_of_neg (by simpa using h), faGo, if_neg fun k => h k.2, ih]
theorem lvlGo_none {zone t : Int} : ∀ {cs : List T3} {acc : Int}, (∀ c ∈ cs, c.b = zone → t < c.a) → lvlGo zone t acc cs = acc := by
  intro cs
  induction cs with
  | nil => intro acc _; rfl
  | cons c cs ih =>
    intro acc h
    rw [lvlGo, if_neg fun k => by have := h c (List.mem_cons_self ..) k.1; omega]
    exact ih fun d hd => h d (List.mem_cons_of_mem _ hd)
theorem lvlGo_filter {zone fr t : Int} (ht : fr ≤ t) : ∀ {cs : List T3} (acc : Int), cs.Pairwise (fun a b => a.a ≤ b.a) → lvlGo zone t acc cs = lvlGo zone t (lvlGo zone fr acc cs) (cs.filter fun c => decide (fr < c.a)) := by
  intro cs
  induction cs with
  | nil => intro acc _; rfl
  | cons c cs ih =>
    intro acc hp
    obtain ⟨hp1, hp2⟩ := List.pairwise_cons.1 hp
    by_cases h : fr < c.a
    · have hall : ∀ d ∈ c :: cs, fr < d.a := fun d hd => by
        rcases List.mem_cons.1 hd with rfl | hd
        · exact h
        · have := hp1 d hd; omega
      rw [lvlGo_late (acc := acc) hall, List.filter_eq_self.2 fun d hd => by simpa using hall d hd]
    · rw [List.filter_cons_of_neg (by simpa using h), lvlGo, lvlGo]
      have e : (if c.b = zone ∧ c.a ≤ t then c.c else acc) = if c.b = zone ∧ c.a ≤ fr then c.c else acc := by
        by_cases hz : c.b = zone
        · rw [if_pos ⟨hz, by omega⟩, if_pos ⟨hz, by omega⟩]
        · rw [if_neg fun k => hz k.1, if_neg fun k => hz k.1]
      rw [e]
      exact ih _ hp2
def FaRes (p : Int → Bool) (fr ticks r : Int) : Prop := (r = -1 ∧ ∀ b, fr ≤ b → b ≤ 10000 → Bad p ticks b 10000) ∨ (0 ≤ r ∧ fr ≤ r ∧ r ≤ 10000 ∧ (∀ s, r ≤ s → s < r + ticks → s ≤ 10000 → p s = true) ∧ ∀ b, fr ≤ b → b < r → Bad p ticks b 10000)
theorem FaRes.eq {p : Int → Bool} {fr ticks r : Int} (h : FaRes p fr ticks r) : faOf p fr ticks = r := by
  rcases h with ⟨rfl, h⟩ | ⟨_, h1, h2, h3, h4⟩
  · exact fa_none h
  · exact fa_found h1 h2 h3 h4
theorem Bad.mk' {p : Int → Bool} {ticks b hi s : Int} (h1 : b ≤ s) (h2 : s < b + ticks) (h3 : s ≤ hi) (h4 : p s = false) : Bad p ticks b hi := ⟨s, h1, h2, h3, h4⟩
theorem Bad.to {p q : Int → Bool} {ticks b hi hi' : Int} (h : Bad p ticks b hi) (hh : hi ≤ hi') (hq : ∀ s, s ≤ hi → q s = p s) : Bad q ticks b hi' := by
  obtain ⟨s, a, b, c, d⟩ := h
  exact ⟨s, a, b, by omega, by rw [hq s c]; exact d⟩
theorem faGo_res (zone least fr ticks : Int) (hfr : 0 ≤ fr) (htk : 1 ≤ ticks) : ∀ (cs : List T3) (bg T : Int) (g : Int → Int), cs.Pairwise (fun a b => ltC a b = true) → (∀ c ∈ cs, c.b = zone → T < c.a) → (∀ c ∈ cs, c.a ≤ 10000) → fr ≤ T → T ≤ 10000 →
    (bg < 0 → bg = -1) → (∀ t, T ≤ t → geB least (g t) = decide (0 ≤ bg)) → (0 ≤ bg → fr ≤ bg ∧ bg ≤ T ∧ ∀ t, bg ≤ t → geB least (g t) = true) →
    (bg < 0 → ∀ b, fr ≤ b → b ≤ T → Bad (fun t => geB least (g t)) ticks b T) → (0 ≤ bg → ∀ b, fr ≤ b → b < bg → Bad (fun t => geB least (g t)) ticks b T) →
    FaRes (fun t => geB least (lvlGo zone t (g t) cs)) fr ticks (faGo zone least fr ticks cs bg) := by
  intro cs
  induction cs with
  | nil =>
    intro bg T g _ _ _ hT hT' hm h1 h2 h3 h4
    simp only [faGo, lvlGo]
    by_cases hb : bg < 0
    · refine .inl ⟨hm hb, fun b hb1 hb2 => ?_⟩
      by_cases hbt : b ≤ T
      · exact (h3 hb b hb1 hbt).to hT' fun _ _ => rfl
      · exact .mk' (Int.le_refl b) (by omega) hb2 (by rw [h1 b (by omega)]; simpa using hb)
    · have hb' : 0 ≤ bg := by omega
      obtain ⟨k1, k2, k3⟩ := h2 hb'
      exact .inr ⟨hb', k1, by omega, fun s hs _ _ => k3 s hs, fun b hb1 hb2 => (h4 hb' b hb1 hb2).to hT' fun _ _ => rfl⟩
  | cons c cs ih =>
    intro bg T g hp hH hA hT hT' hm h1 h2 h3 h4
    obtain ⟨hp1, hp2⟩ := List.pairwise_cons.1 hp
    have hA' : ∀ d ∈ cs, d.a ≤ 10000 := fun d hd => hA d (List.mem_cons_of_mem _ hd)
    by_cases hz : c.b = zone
    case neg =>
      rw [faGo, if_neg fun k => hz k.1]
      have := ih bg T g hp2 (fun d hd => hH d (List.mem_cons_of_mem _ hd)) hA' hT hT' hm h1 h2 h3 h4
      have e : (fun t => geB least (lvlGo zone t (g t) (c :: cs))) = fun t => geB least (lvlGo zone t (g t) cs) := by
        funext t; rw [lvlGo, if_neg fun k => hz k.1]
      rw [e]; exact this
    have hTc := hH c (List.mem_cons_self ..) hz
    have hca := hA c (List.mem_cons_self ..)
    have hlater : ∀ d ∈ cs, d.b = zone → c.a < d.a := fun d hd hdz => by have := ltC_iff.1 (hp1 d hd); omega
    rw [faGo, if_pos ⟨hz, by omega⟩]
    by_cases hr : 0 ≤ bg ∧ ticks ≤ c.a - bg
    · rw [if_pos hr]
      obtain ⟨k1, k2, k3⟩ := h2 hr.1
      have hsame : ∀ s, s < c.a → lvlGo zone s (g s) (c :: cs) = g s := fun s hs => lvlGo_none fun d hd hdz => by
        rcases List.mem_cons.1 hd with rfl | hd
        · exact hs
        · have := hlater d hd hdz; omega
      refine .inr ⟨hr.1, k1, by omega, fun s hs1 hs2 _ => ?_, fun b hb1 hb2 => (h4 hr.1 b hb1 hb2).to hT' fun s hs => ?_⟩
      · show geB least (lvlGo zone s (g s) (c :: cs)) = true
        rw [hsame s (by omega)]; exact k3 s hs1
      · show geB least (lvlGo zone s (g s) (c :: cs)) = _
        rw [hsame s (by omega)]
    rw [if_neg hr]
    have hg : ∀ s, s ≤ T → (fun t => geB least (if c.a ≤ t then c.c else g t)) s = (fun t => geB least (g t)) s := fun s hs => by
      show geB least (if c.a ≤ s then c.c else g s) = _
      rw [if_neg (by omega)]
    have e : (fun t => geB least (lvlGo zone t (g t) (c :: cs))) = fun t => geB least (lvlGo zone t (if c.a ≤ t then c.c else g t) cs) := by
      funext t; rw [lvlGo]; simp only [hz, true_and]
    rw [e]
    have hgb : ∀ b, b < c.a → geB least (if c.a ≤ b then c.c else g b) = geB least (g b) := fun b hb => by rw [if_neg (by omega)]
    by_cases hlow : c.c < least
    · rw [if_pos hlow]
      refine ih (-1) c.a (fun t => if c.a ≤ t then c.c else g t) hp2 hlater hA' (by omega) hca (fun _ => rfl) (fun t ht => ?_) (fun h => by omega) (fun _ b hb1 hb2 => ?_) (fun h => by omega)
      · show geB least (if c.a ≤ t then c.c else g t) = _
        rw [if_pos ht, geB_f (by omega)]; rfl
      · by_cases hbc : b = c.a
        · exact .mk' (s := c.a) (by omega) (by omega) (Int.le_refl _) (by show geB least (if c.a ≤ c.a then c.c else g c.a) = false; rw [if_pos (Int.le_refl _), geB_f (by omega)])
        by_cases hb : bg < 0
        · by_cases hbt : b ≤ T
          · exact (h3 hb b hb1 hbt).to (by omega) hg
          · exact .mk' (Int.le_refl b) (by omega) hb2 (by show geB least (if c.a ≤ b then c.c else g b) = false; rw [hgb b (by omega), h1 b (by omega)]; simpa using hb)
        · by_cases hbb : b < bg
          · exact (h4 (by omega) b hb1 hbb).to (by omega) hg
          · exact .mk' (s := c.a) (by omega) (by omega) (Int.le_refl _) (by show geB least (if c.a ≤ c.a then c.c else g c.a) = false; rw [if_pos (Int.le_refl _), geB_f (by omega)])
    · rw [if_neg hlow]
      by_cases hb : bg < 0
      · rw [if_pos hb]
        refine ih c.a c.a (fun t => if c.a ≤ t then c.c else g t) hp2 hlater hA' (by omega) hca (fun h => by omega) (fun t ht => ?_) (fun _ => ⟨by omega, by omega, fun t ht => ?_⟩) (fun h => by omega) (fun _ b hb1 hb2 => ?_)
        · show geB least (if c.a ≤ t then c.c else g t) = _
          rw [if_pos ht, geB_t (by omega), decide_eq_true (by omega)]
        · show geB least (if c.a ≤ t then c.c else g t) = _
          rw [if_pos ht, geB_t (by omega)]
        · by_cases hbt : b ≤ T
          · exact (h3 hb b hb1 hbt).to (by omega) hg
          · exact .mk' (Int.le_refl b) (by omega) (by omega) (by show geB least (if c.a ≤ b then c.c else g b) = false; rw [hgb b (by omega), h1 b (by omega)]; simpa using hb)
      · rw [if_neg hb]
        obtain ⟨k1, k2, k3⟩ := h2 (by omega)
        refine ih bg c.a (fun t => if c.a ≤ t then c.c else g t) hp2 hlater hA' (by omega) hca hm (fun t ht => ?_) (fun _ => ⟨k1, by omega, fun t ht => ?_⟩) (fun h => by omega) (fun h b hb1 hb2 => (h4 h b hb1 hb2).to (by omega) hg)
        · show geB least (if c.a ≤ t then c.c else g t) = _
          rw [if_pos ht, geB_t (by omega), decide_eq_true (by omega)]
        · show geB least (if c.a ≤ t then c.c else g t) = _
          by_cases hct : c.a ≤ t
          · rw [if_pos hct, geB_t (by omega)]
          · rw [if_neg hct]; exact k3 t ht
theorem chOk_strict {n : Int} : ∀ {cs : List T3} {p : Option T3}, chOk n p cs = true → cs.Pairwise (fun a b => ltC a b = true) := by
  intro cs
  induction cs with
  | nil => intro p _; exact List.Pairwise.nil
  | cons d ds ih =>
    intro p h
    rw [chOk] at h
    simp only [Bool.and_eq_true] at h
    exact List.pairwise_cons.2 ⟨fun c hc => chOk_all h.2.2 c hc, ih h.2.2⟩
def bg0 (x : TZ) (zone least fr : Int) : Int := if least ≤ lvl x.ch zone fr then fr else -1
theorem faGo_eq {x : TZ} (hv : vZoned x = true) (zone least fr ticks : Int) (hfr : 0 ≤ fr ∧ fr ≤ 10000) (htk : 1 ≤ ticks) : faGo zone least fr ticks x.ch (bg0 x zone least fr) = faOf (fun t => geB least (lvl x.ch zone t)) fr ticks := by
  have hc := (vZoned_iff hv).2.2.2.2
  obtain ⟨h1, h2⟩ := chOk_sorted hc
  have h3 := chOk_strict hc
  rw [faGo_filter]
  have hres := faGo_res zone least fr ticks hfr.1 htk (x.ch.filter fun c => decide (fr < c.a)) (bg0 x zone least fr) fr (fun _ => lvl x.ch zone fr) (h3.sublist List.filter_sublist)
    (fun c hc _ => by simpa using (List.mem_filter.1 hc).2) (fun c hc => (okC_iff.1 (h2 c (List.mem_filter.1 hc).1)).1.2) (Int.le_refl _) hfr.2
    (by unfold bg0; split <;> intro <;> omega) (fun t _ => by unfold bg0; by_cases h : least ≤ lvl x.ch zone fr
                                                              · rw [if_pos h, geB_t h, decide_eq_true hfr.1]
                                                              · rw [if_neg h, geB_f h]; rfl)
    (fun h => by
      unfold bg0 at h ⊢
      by_cases hl : least ≤ lvl x.ch zone fr
      · rw [if_pos hl]; exact ⟨by omega, by omega, fun _ _ => geB_t hl⟩
      · rw [if_neg hl] at h; omega)
    (fun h b hb1 hb2 => by
      unfold bg0 at h
      by_cases hl : least ≤ lvl x.ch zone fr
      · rw [if_pos hl] at h; omega
      · exact .mk' hb2 (by omega) (Int.le_refl _) (geB_f hl))
    (fun h b hb1 hb2 => by
      unfold bg0 at hb2
      split at hb2 <;> omega)
  rw [← hres.eq]
  have key : ∀ t, fr ≤ t → lvl x.ch zone t = lvlGo zone t (lvl x.ch zone fr) (x.ch.filter fun c => decide (fr < c.a)) := fun t ht => lvlGo_filter ht 0 h1
  have e : ∀ b, fr ≤ b → goodB (fun t => geB least (lvlGo zone t (lvl x.ch zone fr) (x.ch.filter fun c => decide (fr < c.a)))) ticks b = goodB (fun t => geB least (lvl x.ch zone t)) ticks b := fun b hb => by
    unfold goodB
    congr 1
    funext i
    exact congrArg (fun z => decide (10000 < b + (i : Int)) || geB least z) (key (b + i) (by omega)).symm
  unfold faOf
  generalize (10001 - fr).toNat = n
  have : ∀ (n : Nat) (b : Int), fr ≤ b → findFrom (goodB (fun t => geB least (lvlGo zone t (lvl x.ch zone fr) (x.ch.filter fun c => decide (fr < c.a)))) ticks) n b = findFrom (goodB (fun t => geB least (lvl x.ch zone t)) ticks) n b := by
    intro n
    induction n with
    | zero => intro b _; rfl
    | succ n ih => intro b hb; rw [findFrom, findFrom, e b hb, ih (b + 1) (by omega)]
  exact this n fr (Int.le_refl _)
def faTup (r : Int) : Int × Int := if r < 0 then (0, 3) else (r, 0)
def firstAbove (x : TZ) (zone least fr ticks : Int) : Int × Int := if codeZ x zone fr = 0 then (if (-100 ≤ least ∧ least ≤ 100) ∧ (1 ≤ ticks ∧ ticks ≤ 10000) then faTup (faOf (fun t => geB least (lvl x.ch zone t)) fr ticks) else (0, 2)) else (0, codeZ x zone fr)
set_option maxRecDepth 100000 in
set_option maxHeartbeats 4000000 in
theorem S_FirstAbove (x : TZ) (v : Value) (zone least from_ ticks : Int) (w : World) (hs : Small_Zoned x) (hf : Fit_Zoned x) (h : R_Zoned w w.heap.size v x) (_ : -9223372036854775808 ≤ zone) (_ : zone ≤ 9223372036854775807) (_ : -9223372036854775808 ≤ least) (_ : least ≤ 9223372036854775807) (_ : -9223372036854775808 ≤ from_) (_ : from_ ≤ 9223372036854775807) (_ : -9223372036854775808 ≤ ticks) (_ : ticks ≤ 9223372036854775807) :
    Calls Try.prog 103 #[v, .int .i64 zone, .int .i64 least, .int .i64 from_, .int .i64 ticks] w fun r w' => r = .returned (.tuple #[.int .i64 (firstAbove x zone least from_ ticks).1, .int .i64 (firstAbove x zone least from_ ticks).2]) ∧ Below w.heap.size w w' := by
  have h0 := h
  obtain ⟨A, c, A2, c2, rfl, h1, h2⟩ := h0
  have b0 : Below w.heap.size w (w.alloc (.cells #[.int .i64 x.z, .slice A x.of.length c, .slice A2 x.ch.length c2] 114)) := (by repeat (first | exact Below.refl _ _ | assumption | (refine Below.alloc ?_ (by simp <;> omega) _) | refine Below.drew ?_ | refine bdn ?_ _))
  have HC := hide (l09Code_any x A c A2 c2 w.heap.size zone from_ (w.alloc (.cells #[.int .i64 x.z, .slice A x.of.length c, .slice A2 x.ch.length c2] 114)) hs (by simp [go_sem]) (by simp [go_sem]) (by simp [go_sem]) ((h1.below b0).more b0.size) ((h2.below b0).more b0.size))
  have z0 : w.heap.size + 1 ≤ (w.alloc (.cells #[.int .i64 x.z, .slice A x.of.length c, .slice A2 x.ch.length c2] 114)).heap.size := by simp
  have X0 := hide (BoxAt.new w #[.int .i64 x.z, .slice A x.of.length c, .slice A2 x.ch.length c2] 114)
  have HM := hide h2
  have HV := hide fun (hv : vZoned x = true) W (hW : Below (w.heap.size + 1) (w.alloc (.cells #[.int .i64 x.z, .slice A x.of.length c, .slice A2 x.ch.length c2] 114)) W) => l09Level_any x A2 c2 w.heap.size zone from_ W hv (by have := (X0.out.below hW (by omega)).cell 2; simpa using this) ((HM.out.below (b0.trans (hW.mono (by omega)))).more (by have := hW.size; omega))
  clear h h1 h2
  by_cases hc : codeZ x zone from_ = 0
  case neg =>
    have HR := hide (show firstAbove x zone least from_ ticks = (0, codeZ x zone from_) by simp [firstAbove, hc])
    have hne : (codeZ x zone from_ != 0) = true := by simp [hc]
    have hnf : (codeZ x zone from_ == 0) = false := by simp [hc]
    generalize codeZ x zone from_ = cd at *
    go_enter Try.func103, Try.ntmps103
    go_wp2_with (go_at_call 223; refine (HC.out).mono ?_; rintro e w1 ⟨rfl, hb1⟩)
    go_ret2
    exact ⟨by rw [HR.out]; rfl, b0.trans (hb1.mono b0.size)⟩
  obtain ⟨hv, hz, he⟩ := codeZ_ok hc
  have HI := hide fun W => l09Least_any least W
  by_cases hl : -100 ≤ least ∧ least ≤ 100
  case neg =>
    have HR := hide (show firstAbove x zone least from_ ticks = (0, 2) by simp only [firstAbove, hc, if_true]; exact if_neg fun h => hl h.1)
    rw [hc] at HC
    rw [show inB (-100) 100 least = false from inB_f (by omega)] at HI
    clear hc hv hl
    go_enter Try.func103, Try.ntmps103
    go_wp2_with (first | (go_at_call 223; refine (HC.out).mono ?_; rintro e w1 ⟨rfl, hb1⟩) | (go_at_call 224; refine (HI.out _).mono ?_; rintro e w' ⟨rfl, rfl⟩))
    go_ret2
    exact ⟨by rw [HR.out]; rfl, b0.trans (hb1.mono b0.size)⟩
  by_cases hk : 1 ≤ ticks ∧ ticks ≤ 10000
  case neg =>
    have HR := hide (show firstAbove x zone least from_ ticks = (0, 2) by simp only [firstAbove, hc, if_true]; exact if_neg fun h => hk h.2)
    rw [hc] at HC
    rw [inB_t hl] at HI
    have hk' : ticks < 1 ∨ 10000 < ticks := by omega
    clear hc hv hl hk
    go_enter Try.func103, Try.ntmps103
    go_wp2_with (first | (go_at_call 148; first | (refine (l00In_t _ _ _ _ (by omega)).mono ?_; rintro e w' ⟨rfl, rfl⟩) | (refine (l00In_f _ _ _ _ (by omega)).mono ?_; rintro e w' ⟨rfl, rfl⟩)) | (go_at_call 223; refine (HC.out).mono ?_; rintro e w1 ⟨rfl, hb1⟩) | (go_at_call 224; refine (HI.out _).mono ?_; rintro e w' ⟨rfl, rfl⟩))
    go_ret2
    exact ⟨by rw [HR.out]; rfl, b0.trans (hb1.mono b0.size)⟩
  have HR := hide (show firstAbove x zone least from_ ticks = faTup (faOf (fun t => geB least (lvl x.ch zone t)) from_ ticks) by simp only [firstAbove, hc, if_true]; exact if_pos ⟨hl, hk⟩)
  rw [hc] at HC
  rw [inB_t hl] at HI
  obtain ⟨hl1, hl2⟩ := hl
  obtain ⟨he1, he2⟩ := he
  obtain ⟨hk1, hk2⟩ := hk
  have HE := hide (faGo_eq hv zone least from_ ticks ⟨he1, he2⟩ hk1)
  have HO := hide (chOk_sorted (vZoned_iff hv).2.2.2.2).2
  have h60 := (vZoned_iff hv).2.2.1
  have HV' := hide fun W hW => HV.out hv W hW
  clear HV
  have HV := HV'
  clear HV' hc hv
  by_cases gf : least ≤ lvl x.ch zone from_
  · have BG := hide (show bg0 x zone least from_ = from_ from if_pos gf)
    have HV2 := hide fun W hW => HV.out W hW
    clear HV
    have HV := HV2
    clear HV2
    have HLV := hide (show lvl x.ch zone from_ = lvl x.ch zone from_ from rfl)
    go_enter Try.func103, Try.ntmps103
    go_wp2_with (first | (go_at_call 148; first | (refine (l00In_t _ _ _ _ (by omega)).mono ?_; rintro e w' ⟨rfl, rfl⟩) | (refine (l00In_f _ _ _ _ (by omega)).mono ?_; rintro e w' ⟨rfl, rfl⟩)) | (go_at_call 223; refine (HC.out).mono ?_; rintro e w1 ⟨rfl, hb1⟩; have hb2 : Below (w.heap.size + 1) (w.alloc (.cells #[.int .i64 x.z, .slice A x.of.length c, .slice A2 x.ch.length c2] 114)) w1 := hb1.mono z0) | (go_at_call 224; refine (HI.out _).mono ?_; rintro e w' ⟨rfl, rfl⟩) | (go_at_call 225; refine (HV.out _ hb2).mono ?_; rintro e w' ⟨rfl, rfl⟩))
    have hb3 : Below (w.heap.size + 1) (w.alloc (.cells #[.int .i64 x.z, .slice A x.of.length c, .slice A2 x.ch.length c2] 114)) w1 := hb2
    clear HC HI HV
    go_loopg [13, 14] (x.ch.length) (fun g s1 i wr => ∃ (k : Nat) (bg : Int), k ≤ x.ch.length ∧ Hid (g = x.ch.length - k) ∧ i = .int .i64 k ∧ s1 = .int .i64 bg ∧ -1 ≤ bg ∧ bg ≤ 10000 ∧
      Hid (faOf (fun t => geB least (lvl x.ch zone t)) from_ ticks = faGo zone least from_ ticks (x.ch.drop k) bg) ∧ Below (w.heap.size + 1) (w.alloc (.cells #[.int .i64 x.z, .slice A x.of.length c, .slice A2 x.ch.length c2] 114)) wr)
    case atStart => exact ⟨0, from_, by omega, by simp [Hid], rfl, rfl, by omega, by omega, by have := HE.out; rw [BG.out] at this; simpa [Hid] using this.symm, hb3⟩
    case round =>
      obtain ⟨k, bg, hk, hg, rfl, rfl, hg1, hg2, HS, hb⟩ := hrel
      clear hb3 hb2 hb1 HE BG
      have hsz : w.heap.size + 1 ≤ wr.heap.size := by have := hb.size; omega
      have X1 := X0.out.below hb (by omega)
      have hxl := X1.lt
      have k2 := X1.cell 2
      simp only [List.getElem?_cons_succ, List.getElem?_cons_zero] at k2
      have bw : Below w.heap.size w wr := b0.trans (hb.mono (by omega))
      by_cases hlt : k < x.ch.length
      · obtain ⟨b1, o1, z1, rfl, hbb, hz1, hca, hcb, hcc⟩ := (HM.out.below bw).at_ hlt
        have hok := okC_iff.1 (HO.out z1 (List.mem_of_getElem? hz1))
        obtain ⟨⟨ha1, ha2⟩, _, ⟨hc1, hc2⟩⟩ := hok
        have HS' := HS.out
        rw [faGo_drop hz1] at HS'
        clear hz1 HS
        by_cases gz : z1.b = zone
        case neg =>
          have HQ := hide (HS'.trans (if_neg fun h => gz h.1))
          have hB : (z1.b != zone) = true := by simp [gz]
          clear HS' gz
          go_wp2_with fail
          go_roundg (x.ch.length - (k + 1))
          case measure => have := hg.out; omega
          case rel => exact ⟨k + 1, bg, by omega, rfl, by go_num, rfl, hg1, hg2, HQ, hb.alloc hsz _⟩
        have hB : (z1.b != zone) = false := by simp [gz]
        by_cases ga : from_ < z1.a
        case neg =>
          have HQ := hide (HS'.trans (if_neg fun h => ga h.2))
          clear HS' gz
          go_wp2_with fail
          go_roundg (x.ch.length - (k + 1))
          case measure => have := hg.out; omega
          case rel => exact ⟨k + 1, bg, by omega, rfl, by go_num, rfl, hg1, hg2, HQ, hb.alloc hsz _⟩
        rw [if_pos ⟨gz, ga⟩] at HS'
        clear gz
        by_cases gb : 0 ≤ bg
        · by_cases gt : ticks ≤ z1.a - bg
          · have HQ := hide (HS'.trans (if_pos ⟨gb, gt⟩))
            clear HS'
            go_wp2_with fail
            go_ret2
            exact ⟨by rw [HR.out, HQ.out, faTup, if_neg (by omega)]; rfl, bw.alloc (by omega) _⟩
          rw [if_neg fun h => gt h.2] at HS'
          by_cases gl : z1.c < least
          · have HQ := hide (HS'.trans (by rw [if_pos gl]))
            clear HS'
            go_wp2_with fail
            go_roundg (x.ch.length - (k + 1))
            case measure => have := hg.out; omega
            case rel => exact ⟨k + 1, -1, by omega, rfl, by go_num, rfl, by omega, by omega, HQ, hb.alloc hsz _⟩
          · have HQ := hide (HS'.trans (by rw [if_neg gl, if_neg (show ¬ bg < 0 by omega)]))
            clear HS'
            go_wp2_with fail
            go_roundg (x.ch.length - (k + 1))
            case measure => have := hg.out; omega
            case rel => exact ⟨k + 1, bg, by omega, rfl, by go_num, rfl, hg1, hg2, HQ, hb.alloc hsz _⟩
        · rw [if_neg fun h => gb h.1] at HS'
          by_cases gl : z1.c < least
          · have HQ := hide (HS'.trans (by rw [if_pos gl]))
            clear HS'
            go_wp2_with fail
            go_roundg (x.ch.length - (k + 1))
            case measure => have := hg.out; omega
            case rel => exact ⟨k + 1, -1, by omega, rfl, by go_num, rfl, by omega, by omega, HQ, hb.alloc hsz _⟩
          · have HQ := hide (HS'.trans (by rw [if_neg gl, if_pos (show bg < 0 by omega)]))
            clear HS'
            go_wp2_with fail
            go_roundg (x.ch.length - (k + 1))
            case measure => have := hg.out; omega
            case rel => exact ⟨k + 1, z1.a, by omega, rfl, by go_num, rfl, by omega, by omega, HQ, hb.alloc hsz _⟩
      · have HQ := hide (HS.out.trans (show faGo zone least from_ ticks (x.ch.drop k) bg = bg by rw [List.drop_eq_nil_of_le (by omega), faGo]))
        clear HS
        by_cases gb : bg < 0
        · go_wp2_with fail
          go_ret2
          exact ⟨by rw [HR.out, HQ.out, faTup, if_pos gb]; rfl, bw⟩
        · go_wp2_with fail
          go_ret2
          exact ⟨by rw [HR.out, HQ.out, faTup, if_neg (by omega)]; rfl, bw⟩
  · have BG := hide (show bg0 x zone least from_ = -1 from if_neg gf)
    go_enter Try.func103, Try.ntmps103
    go_wp2_with (first | (go_at_call 148; first | (refine (l00In_t _ _ _ _ (by omega)).mono ?_; rintro e w' ⟨rfl, rfl⟩) | (refine (l00In_f _ _ _ _ (by omega)).mono ?_; rintro e w' ⟨rfl, rfl⟩)) | (go_at_call 223; refine (HC.out).mono ?_; rintro e w1 ⟨rfl, hb1⟩; have hb2 : Below (w.heap.size + 1) (w.alloc (.cells #[.int .i64 x.z, .slice A x.of.length c, .slice A2 x.ch.length c2] 114)) w1 := hb1.mono z0) | (go_at_call 224; refine (HI.out _).mono ?_; rintro e w' ⟨rfl, rfl⟩) | (go_at_call 225; refine (HV.out _ hb2).mono ?_; rintro e w' ⟨rfl, rfl⟩))
    have hb3 : Below (w.heap.size + 1) (w.alloc (.cells #[.int .i64 x.z, .slice A x.of.length c, .slice A2 x.ch.length c2] 114)) w1 := hb2
    clear HC HI HV
    go_loopg [13, 14] (x.ch.length) (fun g s1 i wr => ∃ (k : Nat) (bg : Int), k ≤ x.ch.length ∧ Hid (g = x.ch.length - k) ∧ i = .int .i64 k ∧ s1 = .int .i64 bg ∧ -1 ≤ bg ∧ bg ≤ 10000 ∧
      Hid (faOf (fun t => geB least (lvl x.ch zone t)) from_ ticks = faGo zone least from_ ticks (x.ch.drop k) bg) ∧ Below (w.heap.size + 1) (w.alloc (.cells #[.int .i64 x.z, .slice A x.of.length c, .slice A2 x.ch.length c2] 114)) wr)
    case atStart => exact ⟨0, -1, by omega, by simp [Hid], rfl, rfl, by omega, by omega, by have := HE.out; rw [BG.out] at this; simpa [Hid] using this.symm, hb3⟩
    case round =>
      obtain ⟨k, bg, hk, hg, rfl, rfl, hg1, hg2, HS, hb⟩ := hrel
      clear hb3 hb2 hb1 HE BG
      have hsz : w.heap.size + 1 ≤ wr.heap.size := by have := hb.size; omega
      have X1 := X0.out.below hb (by omega)
      have hxl := X1.lt
      have k2 := X1.cell 2
      simp only [List.getElem?_cons_succ, List.getElem?_cons_zero] at k2
      have bw : Below w.heap.size w wr := b0.trans (hb.mono (by omega))
      by_cases hlt : k < x.ch.length
      · obtain ⟨b1, o1, z1, rfl, hbb, hz1, hca, hcb, hcc⟩ := (HM.out.below bw).at_ hlt
        have hok := okC_iff.1 (HO.out z1 (List.mem_of_getElem? hz1))
        obtain ⟨⟨ha1, ha2⟩, _, ⟨hc1, hc2⟩⟩ := hok
        have HS' := HS.out
        rw [faGo_drop hz1] at HS'
        clear hz1 HS
        by_cases gz : z1.b = zone
        case neg =>
          have HQ := hide (HS'.trans (if_neg fun h => gz h.1))
          have hB : (z1.b != zone) = true := by simp [gz]
          clear HS' gz
          go_wp2_with fail
          go_roundg (x.ch.length - (k + 1))
          case measure => have := hg.out; omega
          case rel => exact ⟨k + 1, bg, by omega, rfl, by go_num, rfl, hg1, hg2, HQ, hb.alloc hsz _⟩
        have hB : (z1.b != zone) = false := by simp [gz]
        by_cases ga : from_ < z1.a
        case neg =>
          have HQ := hide (HS'.trans (if_neg fun h => ga h.2))
          clear HS' gz
          go_wp2_with fail
          go_roundg (x.ch.length - (k + 1))
          case measure => have := hg.out; omega
          case rel => exact ⟨k + 1, bg, by omega, rfl, by go_num, rfl, hg1, hg2, HQ, hb.alloc hsz _⟩
        rw [if_pos ⟨gz, ga⟩] at HS'
        clear gz
        by_cases gb : 0 ≤ bg
        · by_cases gt : ticks ≤ z1.a - bg
          · have HQ := hide (HS'.trans (if_pos ⟨gb, gt⟩))
            clear HS'
            go_wp2_with fail
            go_ret2
            exact ⟨by rw [HR.out, HQ.out, faTup, if_neg (by omega)]; rfl, bw.alloc (by omega) _⟩
          rw [if_neg fun h => gt h.2] at HS'
          by_cases gl : z1.c < least
          · have HQ := hide (HS'.trans (by rw [if_pos gl]))
            clear HS'
            go_wp2_with fail
            go_roundg (x.ch.length - (k + 1))
            case measure => have := hg.out; omega
            case rel => exact ⟨k + 1, -1, by omega, rfl, by go_num, rfl, by omega, by omega, HQ, hb.alloc hsz _⟩
          · have HQ := hide (HS'.trans (by rw [if_neg gl, if_neg (show ¬ bg < 0 by omega)]))
            clear HS'
            go_wp2_with fail
            go_roundg (x.ch.length - (k + 1))
            case measure => have := hg.out; omega
            case rel => exact ⟨k + 1, bg, by omega, rfl, by go_num, rfl, hg1, hg2, HQ, hb.alloc hsz _⟩
        · rw [if_neg fun h => gb h.1] at HS'
          by_cases gl : z1.c < least
          · have HQ := hide (HS'.trans (by rw [if_pos gl]))
            clear HS'
            go_wp2_with fail
            go_roundg (x.ch.length - (k + 1))
            case measure => have := hg.out; omega
            case rel => exact ⟨k + 1, -1, by omega, rfl, by go_num, rfl, by omega, by omega, HQ, hb.alloc hsz _⟩
          · have HQ := hide (HS'.trans (by rw [if_neg gl, if_pos (show bg < 0 by omega)]))
            clear HS'
            go_wp2_with fail
            go_roundg (x.ch.length - (k + 1))
            case measure => have := hg.out; omega
            case rel => exact ⟨k + 1, z1.a, by omega, rfl, by go_num, rfl, by omega, by omega, HQ, hb.alloc hsz _⟩
      · have HQ := hide (HS.out.trans (show faGo zone least from_ ticks (x.ch.drop k) bg = bg by rw [List.drop_eq_nil_of_le (by omega), faGo]))
        clear HS
        by_cases gb : bg < 0
        · go_wp2_with fail
          go_ret2
          exact ⟨by rw [HR.out, HQ.out, faTup, if_pos gb]; rfl, bw⟩
        · go_wp2_with fail
          go_ret2
          exact ⟨by rw [HR.out, HQ.out, faTup, if_neg (by omega)]; rfl, bw⟩
set_option maxRecDepth 100000 in
set_option maxHeartbeats 4000000 in
theorem P_FirstAbove (x : TZ) (v : Value) (zone least from_ ticks : Int) (w : World) (hs : Small_Zoned x) (hf : Fit_Zoned x) (h : R_Zoned w w.heap.size v x) (_ : -9223372036854775808 ≤ zone) (_ : zone ≤ 9223372036854775807) (_ : -9223372036854775808 ≤ least) (_ : least ≤ 9223372036854775807) (_ : -9223372036854775808 ≤ from_) (_ : from_ ≤ 9223372036854775807) (_ : -9223372036854775808 ≤ ticks) (_ : ticks ≤ 9223372036854775807) :
    Calls Try.prog 102 #[v, .int .i64 zone, .int .i64 least, .int .i64 from_, .int .i64 ticks] w fun r w' => r = .returned (.tuple #[.int .i64 (firstAbove x zone least from_ ticks).1, .int .i64 (firstAbove x zone least from_ ticks).2]) ∧ Below w.heap.size w w' := by
  have h0 := h
  obtain ⟨A, c, A2, c2, rfl, h1, h2⟩ := h0
  have b0 : Below w.heap.size w (w.alloc (.cells #[.int .i64 x.z, .slice A x.of.length c, .slice A2 x.ch.length c2] 114)) := (by repeat (first | exact Below.refl _ _ | assumption | (refine Below.alloc ?_ (by simp <;> omega) _) | refine Below.drew ?_ | refine bdn ?_ _))
  have HC := hide (zoneCode_any x _ zone from_ _ hs hf ((h.below b0).more b0.size))
  have z0 : w.heap.size + 1 ≤ (w.alloc (.cells #[.int .i64 x.z, .slice A x.of.length c, .slice A2 x.ch.length c2] 114)).heap.size := by simp
  have X0 := hide (BoxAt.new w #[.int .i64 x.z, .slice A x.of.length c, .slice A2 x.ch.length c2] 114)
  have HM := hide h2
  have HL := hide fun tick W (hW : Below w.heap.size w W) => levelAt_any x (.agg #[.int .i64 x.z, .slice A x.of.length c, .slice A2 x.ch.length c2]) zone tick W hs ((h.below hW).more hW.size)
  clear h h1 h2
  by_cases hc : codeZ x zone from_ = 0
  case neg =>
    have HR := hide (show firstAbove x zone least from_ ticks = (0, codeZ x zone from_) by simp [firstAbove, hc])
    have hne : (codeZ x zone from_ != 0) = true := by simp [hc]
    have hnf : (codeZ x zone from_ == 0) = false := by simp [hc]
    generalize codeZ x zone from_ = cd at *
    go_enter Try.func102, Try.ntmps102
    go_wp2_with (go_at_call 220; refine (HC.out).mono ?_; rintro e w1 ⟨rfl, hb1⟩)
    go_ret2
    exact ⟨by rw [HR.out]; rfl, b0.trans (hb1.mono b0.size)⟩
  obtain ⟨hv, hz, he⟩ := codeZ_ok hc
  have HI := hide fun W => isLevel_any least W
  by_cases hl : -100 ≤ least ∧ least ≤ 100
  case neg =>
    have HR := hide (show firstAbove x zone least from_ ticks = (0, 2) by simp only [firstAbove, hc, if_true]; exact if_neg fun h => hl h.1)
    rw [hc] at HC
    rw [show inB (-100) 100 least = false from inB_f (by omega)] at HI
    clear hc hv hl
    go_enter Try.func102, Try.ntmps102
    go_wp2_with (first | (go_at_call 220; refine (HC.out).mono ?_; rintro e w1 ⟨rfl, hb1⟩) | (go_at_call 221; refine (HI.out _).mono ?_; rintro e w' ⟨rfl, rfl⟩))
    go_ret2
    exact ⟨by rw [HR.out]; rfl, b0.trans (hb1.mono b0.size)⟩
  by_cases hk : 1 ≤ ticks ∧ ticks ≤ 10000
  case neg =>
    have HR := hide (show firstAbove x zone least from_ ticks = (0, 2) by simp only [firstAbove, hc, if_true]; exact if_neg fun h => hk h.2)
    rw [hc] at HC
    rw [inB_t hl] at HI
    have hk' : ticks < 1 ∨ 10000 < ticks := by omega
    clear hc hv hl hk
    go_enter Try.func102, Try.ntmps102
    go_wp2_with (first | (go_at_call 186; first | (refine (within_t _ _ _ _ (by omega)).mono ?_; rintro e w' ⟨rfl, rfl⟩) | (refine (within_f _ _ _ _ (by omega)).mono ?_; rintro e w' ⟨rfl, rfl⟩)) | (go_at_call 220; refine (HC.out).mono ?_; rintro e w1 ⟨rfl, hb1⟩) | (go_at_call 221; refine (HI.out _).mono ?_; rintro e w' ⟨rfl, rfl⟩))
    go_ret2
    exact ⟨by rw [HR.out]; rfl, b0.trans (hb1.mono b0.size)⟩
  have HR := hide (show firstAbove x zone least from_ ticks = faTup (faOf (fun t => geB least (lvl x.ch zone t)) from_ ticks) by simp only [firstAbove, hc, if_true]; exact if_pos ⟨hl, hk⟩)
  rw [hc] at HC
  rw [inB_t hl] at HI
  obtain ⟨hl1, hl2⟩ := hl
  obtain ⟨he1, he2⟩ := he
  obtain ⟨hk1, hk2⟩ := hk
  clear hc hv
  go_enter Try.func102, Try.ntmps102
  go_wp2_with (first | (go_at_call 186; first | (refine (within_t _ _ _ _ (by omega)).mono ?_; rintro e w' ⟨rfl, rfl⟩) | (refine (within_f _ _ _ _ (by omega)).mono ?_; rintro e w' ⟨rfl, rfl⟩)) | (go_at_call 220; refine (HC.out).mono ?_; rintro e w1 ⟨rfl, hb1⟩) | (go_at_call 221; refine (HI.out _).mono ?_; rintro e w' ⟨rfl, rfl⟩))
  have hb2 : Below (w.heap.size + 1) (w.alloc (.cells #[.int .i64 x.z, .slice A x.of.length c, .slice A2 x.ch.length c2] 114)) w1 := hb1.mono z0
  go_loopg [13, 14] ((10001 - from_).toNat) (fun g s i wr => ∃ (t n : Int), from_ ≤ t ∧ t ≤ 10001 ∧ Hid (g = (10001 - t).toNat) ∧ i = .int .i64 t ∧ s = .int .i64 n ∧ 0 ≤ n ∧ n ≤ t - from_ ∧ n < ticks ∧ (10001 ≤ t → n = 0) ∧
    Hid (∀ s, t - n ≤ s → s < t → geB least (lvl x.ch zone s) = true) ∧ Hid (∀ b, from_ ≤ b → b < t - n → Bad (fun t => geB least (lvl x.ch zone t)) ticks b 10000) ∧ Below (w.heap.size + 1) (w.alloc (.cells #[.int .i64 x.z, .slice A x.of.length c, .slice A2 x.ch.length c2] 114)) wr)
  case atStart => exact ⟨from_, 0, by omega, by omega, by simp [Hid], rfl, rfl, by omega, by omega, by omega, fun _ => rfl, hide (fun s h1 h2 => by omega), hide (fun b h1 h2 => by omega), hb2⟩
  case round =>
    obtain ⟨t, n, ht1, ht2, hg, rfl, rfl, hn1, hn2, hn3, hn4, H1, H2, hb⟩ := hrel
    clear hb2 hb1
    have hsz : w.heap.size + 1 ≤ wr.heap.size := by have := hb.size; omega
    have X1 := X0.out.below hb (by omega)
    have k0 := X1.cell 0
    have k1 := X1.cell 1
    have k2 := X1.cell 2
    simp only [List.getElem?_cons_succ, List.getElem?_cons_zero] at k0 k1 k2
    have bw : Below w.heap.size w wr := b0.trans (hb.mono (by omega))
    by_cases hlt : t ≤ 10000
    · have HN := hide hn4
      clear hn4
      have HQ := hide (HL.out t wr bw)
      by_cases gl : least ≤ lvl x.ch zone t
      · have HG := hide (geB_t gl)
        have H1' : Hid (∀ s, t + 1 - (n + 1) ≤ s → s < t + 1 → geB least (lvl x.ch zone s) = true) := fun s h1 h2 => by
          by_cases hs : s = t
          · rw [hs]; exact HG.out
          · exact H1.out s (by omega) (by omega)
        have HR1 : Hid ((∀ s, t - n ≤ s → s < t - n + ticks → s ≤ 10000 → geB least (lvl x.ch zone s) = true) → faOf (fun t => geB least (lvl x.ch zone t)) from_ ticks = t - n) := fun h => fa_found (by omega) (by omega) h H2.out
        clear HG H1
        have HLL := hide (show True from trivial)
        generalize hlv : lvl x.ch zone t = lv at *
        have hlv' := hide hlv
        clear hlv
        by_cases gt : n + 1 = ticks
        · have hB : (n + 1 == ticks) = true := by simp [gt]
          have HF := hide (HR1.out fun s h1 h2 _ => H1'.out s (by omega) (by omega))
          have gt' := hide gt
          clear gt
          go_wp2_with (go_at_call 222; refine (HQ.out).mono ?_; rintro e w2 ⟨rfl, hb5⟩)
          go_ret2
          exact ⟨by rw [HR.out, HF.out, faTup, if_neg (by omega)]; congr 4; go_num, bw.trans (hb5.mono bw.size)⟩
        have hB : (n + 1 == ticks) = false := by simp [gt]
        by_cases gm : t = 10000
        · have hB2 : (t == 10000) = true := by simp [gm]
          have HF := hide (HR1.out fun s h1 _ h3 => H1'.out s (by omega) (by omega))
          have gm' := hide gm
          clear gm
          go_wp2_with (go_at_call 222; refine (HQ.out).mono ?_; rintro e w2 ⟨rfl, hb5⟩)
          go_ret2
          exact ⟨by rw [HR.out, HF.out, faTup, if_neg (by omega)]; congr 4; go_num, bw.trans (hb5.mono bw.size)⟩
        have hB2 : (t == 10000) = false := by simp [gm]
        have gm2 : t < 10000 := by omega
        have gt2 : n + 1 < ticks := by omega
        clear gm gt
        go_wp2_with (go_at_call 222; refine (HQ.out).mono ?_; rintro e w2 ⟨rfl, hb5⟩)
        go_roundg ((10001 - (t + 1)).toNat)
        case measure => have := hg.out; omega
        case rel => exact ⟨t + 1, n + 1, by omega, by omega, rfl, by go_num, by go_num, by omega, by omega, by omega, fun _ => by omega, H1', hide (fun b h1 h2 => H2.out b h1 (by omega)), hb.trans (hb5.mono hsz)⟩
      · have HG := hide (geB_f gl)
        have H2' : Hid (∀ b, from_ ≤ b → b < t + 1 - 0 → Bad (fun t => geB least (lvl x.ch zone t)) ticks b 10000) := fun b h1 h2 => by
          by_cases hbn : b < t - n
          · exact H2.out b h1 hbn
          · exact .mk' (s := t) (by omega) (by omega) hlt HG.out
        clear HG H1 H2
        generalize hlv : lvl x.ch zone t = lv at *
        have hlv' := hide hlv
        clear hlv
        have hB : ((0 : Int) == ticks) = false := by simp; omega
        by_cases gm : t = 10000
        · have hB2 : (t == 10000) = true := by simp [gm]
          have gm' := hide gm
          clear gm
          go_wp2_with (go_at_call 222; refine (HQ.out).mono ?_; rintro e w2 ⟨rfl, hb5⟩)
          go_roundg ((10001 - (t + 1)).toNat)
          case measure => have := hg.out; omega
          case rel => exact ⟨t + 1, 0, by omega, by omega, rfl, by go_num, rfl, by omega, by omega, by omega, fun _ => rfl, hide (fun s h1 h2 => by omega), H2', hb.trans (hb5.mono hsz)⟩
        · have hB2 : (t == 10000) = false := by simp [gm]
          clear gm
          go_wp2_with (go_at_call 222; refine (HQ.out).mono ?_; rintro e w2 ⟨rfl, hb5⟩)
          go_roundg ((10001 - (t + 1)).toNat)
          case measure => have := hg.out; omega
          case rel => exact ⟨t + 1, 0, by omega, by omega, rfl, by go_num, rfl, by omega, by omega, by omega, fun _ => rfl, hide (fun s h1 h2 => by omega), H2', hb.trans (hb5.mono hsz)⟩
    · have hn0 := hn4 (by omega)
      have HF := hide (show faOf (fun t => geB least (lvl x.ch zone t)) from_ ticks = -1 from fa_none fun b h1 h2 => H2.out b h1 (by omega))
      clear hn4 H1 H2
      go_wp2_with fail
      go_ret2
      exact ⟨by rw [HR.out, HF.out]; rfl, bw⟩
end Go.Proofs.Ytklfjekpeoigoaa
