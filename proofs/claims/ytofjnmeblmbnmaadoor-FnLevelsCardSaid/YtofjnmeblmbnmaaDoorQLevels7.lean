/-
  Runs and their spans: the plain law of the earliest start.
  Times, ways, runs and wishes: which are valid; in the program and in the reference.
  The laws' helpers mark and held for lists whose elements hold a list of numbers, by contract.
  Runs: copies of their own, and a run delayed; in the program and in the reference.
  Drawn times and ways.
  Drawn wishes.
  Orders of wishes: the codes; in the program and in the reference.
  Drawn times and wishes, off bytes; small helpers of the laws.
  Drawn runs.
  The spans of a run and the earliest start; in the program.
  The spans of a run, and whether a run fits; in the reference.
  Helpers of the laws on runs: a number off bytes; the spans of a run by the reference.
  A run meets none of some others: the law's own helper.
  The earliest start; in the reference.
-/
import Derived.Test.YtofjnmeblmbnmaaDoorQLevels5
import Derived.Test.YtofjnmeblmbnmaaDoorQLevels0
import Derived.Test.YtofjnmeblmbnmaaDoorQLevels1
import Derived.Deep.RegionHeld3
import Derived.Test.YtofjnmeblmbnmaaDoorQLevels6
namespace Go.Proofs.YtofjnmeblmbnmaaDoor
open Go.RowKit

def tmOf (ts : List Int) (t : Int) : Int := (ts[t.toNat]?).getD 0
/-- The spans of a run: tube, begin, end. -/
def spGo (ts : List Int) : Int → List Int → List T3
  | _, [] => []
  | f, t :: r => ⟨t, f, f + tmOf ts t⟩ :: spGo ts (f + tmOf ts t) r
def meet (s o : T3) : Bool := decide (s.a = o.a ∧ s.b < o.c ∧ o.b < s.c)
theorem meet_iff {s o : T3} : meet s o = true ↔ s.a = o.a ∧ s.b < o.c ∧ o.b < s.c := by simp [meet]
def fits (ts : List Int) (tk : List T3) (way : List Int) (f : Int) : Bool := (spGo ts f way).all fun s => tk.all fun o => !meet s o
def OkTimes (ts : List Int) : Prop := (1 ≤ ts.length ∧ ts.length ≤ 24) ∧ ∀ z ∈ ts, 1 ≤ z ∧ z ≤ 1000
def OkWay (ts way : List Int) : Prop := (1 ≤ way.length ∧ way.length ≤ 12) ∧ ∀ t ∈ way, 0 ≤ t ∧ t ≤ (ts.length : Int) - 1
theorem tmOf_bd {ts : List Int} (h : OkTimes ts) {t : Int} (ht : 0 ≤ t ∧ t ≤ (ts.length : Int) - 1) : 1 ≤ tmOf ts t ∧ tmOf ts t ≤ 1000 := by
  unfold tmOf
  rw [List.getElem?_eq_getElem (show t.toNat < ts.length by omega)]
  exact h.2 _ (List.getElem_mem _)
theorem spGo_shift (ts : List Int) (d : Int) : ∀ (way : List Int) (f : Int), spGo ts (f + d) way = (spGo ts f way).map fun s => ⟨s.a, s.b + d, s.c + d⟩ := by
  intro way
  induction way with
  | nil => intro f; rfl
  | cons t r ih =>
    intro f
    rw [spGo, spGo, List.map_cons, ← ih, show f + d + tmOf ts t = f + tmOf ts t + d by omega]
theorem spGo_ge {ts : List Int} (hts : OkTimes ts) : ∀ {way : List Int} {f : Int}, (∀ t ∈ way, 0 ≤ t ∧ t ≤ (ts.length : Int) - 1) → ∀ s ∈ spGo ts f way, f ≤ s.b ∧ s.b < s.c ∧ s.c ≤ f + 1000 * way.length := by
  intro way
  induction way with
  | nil => intro f _ s hs; cases hs
  | cons t r ih =>
    intro f h s hs
    have ht := tmOf_bd hts (h t (List.mem_cons_self ..))
    rw [spGo] at hs
    rw [List.length_cons]
    rcases List.mem_cons.1 hs with rfl | hs
    · dsimp only; omega
    · have := ih (fun t ht => h t (List.mem_cons_of_mem _ ht)) s hs
      omega
theorem spGo_len (ts : List Int) : ∀ (way : List Int) (f : Int), (spGo ts f way).length = way.length := by
  intro way
  induction way with
  | nil => intro f; rfl
  | cons t r ih => intro f; rw [spGo, List.length_cons, List.length_cons, ih]
/-- The longest wait for spans that meet. -/
def waitIn (s : T3) : List T3 → Int → Int
  | [], w => w
  | o :: os, w => waitIn s os (if meet s o then max w (o.c - s.b) else w)
def waitOf (tk : List T3) : List T3 → Int → Int
  | [], w => w
  | s :: ss, w => waitOf tk ss (waitIn s tk w)
theorem waitIn_spec (s : T3) : ∀ (os : List T3) (w : Int), w ≤ waitIn s os w ∧ (∀ o ∈ os, meet s o = true → o.c - s.b ≤ waitIn s os w) ∧ (waitIn s os w = w ∨ ∃ o ∈ os, meet s o = true ∧ waitIn s os w = o.c - s.b) := by
  intro os
  induction os with
  | nil => intro w; exact ⟨Int.le_refl _, fun o ho => (by cases ho), .inl rfl⟩
  | cons o os ih =>
    intro w
    rw [waitIn]
    obtain ⟨i1, i2, i3⟩ := ih (if meet s o then max w (o.c - s.b) else w)
    by_cases hm : meet s o = true
    · rw [if_pos hm] at *
      refine ⟨by omega, fun o' ho hm' => ?_, ?_⟩
      · rcases List.mem_cons.1 ho with rfl | ho
        · omega
        · exact i2 o' ho hm'
      · rcases i3 with h | ⟨o', ho, hm', h⟩
        · by_cases hw : o.c - s.b ≤ w
          · left; rw [h]; omega
          · right; exact ⟨o, List.mem_cons_self .., hm, by rw [h]; omega⟩
        · exact .inr ⟨o', List.mem_cons_of_mem _ ho, hm', h⟩
    · rw [if_neg hm] at *
      refine ⟨i1, fun o' ho hm' => ?_, ?_⟩
      · rcases List.mem_cons.1 ho with rfl | ho
        · exact absurd hm' hm
        · exact i2 o' ho hm'
      · rcases i3 with h | ⟨o', ho, hm', h⟩
        · exact .inl h
        · exact .inr ⟨o', List.mem_cons_of_mem _ ho, hm', h⟩
theorem waitOf_spec (tk : List T3) : ∀ (ss : List T3) (w : Int), w ≤ waitOf tk ss w ∧ (∀ s ∈ ss, ∀ o ∈ tk, meet s o = true → o.c - s.b ≤ waitOf tk ss w) ∧ (waitOf tk ss w = w ∨ ∃ s ∈ ss, ∃ o ∈ tk, meet s o = true ∧ waitOf tk ss w = o.c - s.b) := by
  intro ss
  induction ss with
  | nil => intro w; exact ⟨Int.le_refl _, fun o ho => (by cases ho), .inl rfl⟩
  | cons s ss ih =>
    intro w
    rw [waitOf]
    obtain ⟨i1, i2, i3⟩ := ih (waitIn s tk w)
    obtain ⟨k1, k2, k3⟩ := waitIn_spec s tk w
    refine ⟨by omega, fun s' hs o ho hm => ?_, ?_⟩
    · rcases List.mem_cons.1 hs with rfl | hs
      · have := k2 o ho hm; omega
      · exact i2 s' hs o ho hm
    · rcases i3 with h | ⟨s', hs, o, ho, hm, h⟩
      · rcases k3 with h' | ⟨o, ho, hm, h'⟩
        · exact .inl (h.trans h')
        · exact .inr ⟨s, List.mem_cons_self .., o, ho, hm, h.trans h'⟩
      · exact .inr ⟨s', List.mem_cons_of_mem _ hs, o, ho, hm, h⟩
theorem fits_iff {ts : List Int} {tk : List T3} {way : List Int} {f : Int} : fits ts tk way f = true ↔ ∀ s ∈ spGo ts f way, ∀ o ∈ tk, meet s o = false := by
  unfold fits
  rw [List.all_eq_true]
  constructor
  · intro h s hs o ho
    have := List.all_eq_true.1 (h s hs) o ho
    simpa using this
  · intro h s hs
    exact List.all_eq_true.2 fun o ho => by simp [h s hs o ho]
/-- No wait: it fits. A wait: it does not, nor anywhere before the wait is over. -/
theorem wait_zero {ts : List Int} {tk : List T3} {way : List Int} {f : Int} (h : waitOf tk (spGo ts f way) 0 = 0) : fits ts tk way f = true := by
  rw [fits_iff]
  intro s hs o ho
  cases hm : meet s o
  · rfl
  · have h1 := (waitOf_spec tk (spGo ts f way) 0).2.1 s hs o ho hm
    have h2 := (meet_iff.1 hm).2.1
    omega
theorem wait_pos {ts : List Int} {tk : List T3} {way : List Int} {f : Int} (h : waitOf tk (spGo ts f way) 0 ≠ 0) : 0 < waitOf tk (spGo ts f way) 0 ∧ ∀ g, f ≤ g → g < f + waitOf tk (spGo ts f way) 0 → fits ts tk way g = false := by
  obtain ⟨h1, _, h3⟩ := waitOf_spec tk (spGo ts f way) 0
  rcases h3 with h3 | ⟨s, hs, o, ho, hm, h3⟩
  · exact absurd h3 h
  · refine ⟨by omega, fun g hg1 hg2 => ?_⟩
    obtain ⟨m1, m2, m3⟩ := meet_iff.1 hm
    have hs' : (⟨s.a, s.b + (g - f), s.c + (g - f)⟩ : T3) ∈ spGo ts g way := by
      have := spGo_shift ts (g - f) way f
      rw [show f + (g - f) = g by omega] at this
      rw [this]
      exact List.mem_map.2 ⟨s, hs, rfl⟩
    cases hf : fits ts tk way g
    · rfl
    · have := fits_iff.1 hf _ hs' o ho
      have h4 : meet ⟨s.a, s.b + (g - f), s.c + (g - f)⟩ o = true := meet_iff.2 ⟨m1, by dsimp only; omega, by dsimp only; omega⟩
      rw [this] at h4; cases h4
/-- The least tick from f on at which p holds, sought so many ticks long. -/
def seek (p : Int → Bool) : Nat → Int → Int
  | 0, b => b
  | n + 1, b => if p b then b else seek p n (b + 1)
theorem seek_eq {p : Int → Bool} {r : Int} : ∀ {n : Nat} {b : Int}, b ≤ r → r ≤ b + n → p r = true → (∀ c, b ≤ c → c < r → p c = false) → seek p n b = r := by
  intro n
  induction n with
  | zero => intro b h1 h2 _ _; rw [seek]; omega
  | succ n ih =>
    intro b h1 h2 h3 h4
    rw [seek]
    by_cases hb : b = r
    · subst hb; rw [if_pos h3]
    · rw [h4 b (by omega) (by omega)]
      simp only [Bool.false_eq_true, if_false]
      exact ih (by omega) (by omega) h3 fun c hc => h4 c (by omega)
def lastC : List T3 → Int → Int
  | [], f => f
  | o :: os, f => lastC os (max f o.c)
theorem lastC_spec : ∀ (os : List T3) (f : Int), f ≤ lastC os f ∧ (∀ o ∈ os, o.c ≤ lastC os f) ∧ (lastC os f = f ∨ ∃ o ∈ os, lastC os f = o.c) := by
  intro os
  induction os with
  | nil => intro f; exact ⟨Int.le_refl _, fun o ho => (by cases ho), .inl rfl⟩
  | cons o os ih =>
    intro f
    rw [lastC]
    obtain ⟨i1, i2, i3⟩ := ih (max f o.c)
    refine ⟨by omega, fun o' ho => ?_, ?_⟩
    · rcases List.mem_cons.1 ho with rfl | ho
      · omega
      · exact i2 o' ho
    · rcases i3 with h | ⟨o', ho, h⟩
      · by_cases hf : o.c ≤ f
        · left; rw [h]; omega
        · right; exact ⟨o, List.mem_cons_self .., by rw [h]; omega⟩
      · exact .inr ⟨o', List.mem_cons_of_mem _ ho, h⟩
def estOf (ts : List Int) (tk : List T3) (way : List Int) (f : Int) : Int := seek (fits ts tk way) (lastC tk f - f).toNat f
theorem fits_last {ts : List Int} (hts : OkTimes ts) {tk : List T3} {way : List Int} (hw : ∀ t ∈ way, 0 ≤ t ∧ t ≤ (ts.length : Int) - 1) {f : Int} : fits ts tk way (lastC tk f) = true := by
  rw [fits_iff]
  intro s hs o ho
  cases hm : meet s o
  · rfl
  · have h1 := (spGo_ge hts hw s hs).1
    have h2 := (lastC_spec tk f).2.1 o ho
    have h3 := (meet_iff.1 hm).2.1
    omega
theorem est_eq {ts : List Int} {tk : List T3} {way : List Int} {f r : Int} (h1 : f ≤ r) (h2 : r ≤ lastC tk f) (h3 : fits ts tk way r = true) (h4 : ∀ c, f ≤ c → c < r → fits ts tk way c = false) : estOf ts tk way f = r :=
  seek_eq h1 (by omega) h3 h4
theorem seek_spec {p : Int → Bool} : ∀ {n : Nat} {b : Int}, p (b + n) = true → b ≤ seek p n b ∧ seek p n b ≤ b + n ∧ p (seek p n b) = true ∧ ∀ c, b ≤ c → c < seek p n b → p c = false := by
  intro n
  induction n with
  | zero => intro b h; rw [seek]; simp at h; exact ⟨by omega, by omega, h, fun c _ _ => by omega⟩
  | succ n ih =>
    intro b h
    rw [seek]
    cases hb : p b
    · simp only [Bool.false_eq_true, if_false]
      obtain ⟨i1, i2, i3, i4⟩ := ih (b := b + 1) (by rw [show b + 1 + (n : Int) = b + ((n + 1 : Nat) : Int) by omega]; exact h)
      refine ⟨by omega, by omega, i3, fun c h1 h2 => ?_⟩
      by_cases hc : c = b
      · rw [hc]; exact hb
      · exact i4 c (by omega) h2
    · simp only [if_true]
      exact ⟨by omega, by omega, hb, fun c _ _ => by omega⟩
theorem est_spec {ts : List Int} (hts : OkTimes ts) {tk : List T3} {way : List Int} (hw : ∀ t ∈ way, 0 ≤ t ∧ t ≤ (ts.length : Int) - 1) (f : Int) : f ≤ estOf ts tk way f ∧ estOf ts tk way f ≤ lastC tk f ∧ fits ts tk way (estOf ts tk way f) = true ∧ ∀ c, f ≤ c → c < estOf ts tk way f → fits ts tk way c = false := by
  have hl := (lastC_spec tk f).1
  obtain ⟨i1, i2, i3, i4⟩ := seek_spec (p := fits ts tk way) (n := (lastC tk f - f).toNat) (b := f) (by rw [show f + (((lastC tk f - f).toNat : Nat) : Int) = lastC tk f by omega]; exact fits_last hts hw)
  exact ⟨i1, by unfold estOf; omega, i3, i4⟩
/-- The ticks at which a run leaves a span's end in the same tube. -/
def candJ (ts : List Int) (o : T3) : Int → List Int → List Int
  | _, [] => []
  | bf, t :: r => if t = o.a then (o.c - bf) :: candJ ts o (bf + tmOf ts t) r else candJ ts o (bf + tmOf ts t) r
theorem cand_mem {ts : List Int} {o : T3} : ∀ {way : List Int} {g bf : Int} {s : T3}, s ∈ spGo ts (g + bf) way → s.a = o.a → s.b = o.c → g ∈ candJ ts o bf way := by
  intro way
  induction way with
  | nil => intro g bf s hs; cases hs
  | cons t r ih =>
    intro g bf s hs h1 h2
    rw [spGo] at hs
    rw [candJ]
    rcases List.mem_cons.1 hs with rfl | hs
    · dsimp only at h1 h2
      rw [if_pos h1]
      exact List.mem_cons.2 (.inl (by omega))
    · rw [show g + bf + tmOf ts t = g + (bf + tmOf ts t) by omega] at hs
      split
      · exact List.mem_cons_of_mem _ (ih hs h1 h2)
      · exact ih hs h1 h2
def stepB (p : Int → Bool) (f best c : Int) : Int := if f ≤ c ∧ (best < 0 ∨ c < best) ∧ p c = true then c else best
def foldB (p : Int → Bool) (f : Int) : List Int → Int → Int
  | [], b => b
  | c :: cs, b => foldB p f cs (stepB p f b c)
theorem foldB_append (p : Int → Bool) (f : Int) : ∀ (us vs : List Int) (b : Int), foldB p f (us ++ vs) b = foldB p f vs (foldB p f us b) := by
  intro us
  induction us with
  | nil => intro vs b; rfl
  | cons c us ih => intro vs b; rw [List.cons_append, foldB, foldB, ih]
theorem foldB_spec {p : Int → Bool} {f : Int} (hf : 0 ≤ f) : ∀ (cs : List Int) (b : Int), (b = -1 ∨ (f ≤ b ∧ p b = true)) → (foldB p f cs b = -1 ∨ (f ≤ foldB p f cs b ∧ p (foldB p f cs b) = true)) ∧ (0 ≤ b → 0 ≤ foldB p f cs b ∧ foldB p f cs b ≤ b) ∧ ∀ c ∈ cs, f ≤ c → p c = true → 0 ≤ foldB p f cs b ∧ foldB p f cs b ≤ c := by
  intro cs
  induction cs with
  | nil => intro b h; exact ⟨h, fun h => ⟨h, Int.le_refl _⟩, fun c hc => (by cases hc)⟩
  | cons c cs ih =>
    intro b h
    rw [foldB]
    have hs : stepB p f b c = -1 ∨ (f ≤ stepB p f b c ∧ p (stepB p f b c) = true) := by
      unfold stepB; split
      · rename_i hh; exact .inr ⟨hh.1, hh.2.2⟩
      · exact h
    obtain ⟨i1, i2, i3⟩ := ih _ hs
    have hle : 0 ≤ b → 0 ≤ stepB p f b c ∧ stepB p f b c ≤ b := fun hb => by
      unfold stepB; split
      · omega
      · omega
    refine ⟨i1, fun hb => ?_, fun c' hc h1 h2 => ?_⟩
    · have h1 := hle hb; have h2 := i2 h1.1; omega
    · rcases List.mem_cons.1 hc with rfl | hc
      · have h3 : 0 ≤ stepB p f b c' ∧ stepB p f b c' ≤ c' := by
          unfold stepB
          by_cases hb : b < 0 ∨ c' < b
          · rw [if_pos ⟨h1, hb, h2⟩]; omega
          · rw [if_neg fun k => hb k.2.1]; omega
        have := i2 h3.1; omega
      · exact i3 c' hc h1 h2
/-- The least of the ticks that the reference tries is the earliest start. -/
theorem best_est {ts : List Int} (hts : OkTimes ts) {tk : List T3} {way : List Int} (hw : ∀ t ∈ way, 0 ≤ t ∧ t ≤ (ts.length : Int) - 1) {f : Int} (hf : 0 ≤ f) (hn : fits ts tk way f = false) : foldB (fits ts tk way) f (tk.flatMap fun o => candJ ts o 0 way) (-1) = estOf ts tk way f := by
  obtain ⟨e1, e2, e3, e4⟩ := est_spec (tk := tk) hts hw f
  generalize hr : estOf ts tk way f = r at *
  have hfr : f < r := by
    by_cases h : r = f
    · rw [h, hn] at e3; cases e3
    · omega
  have hp := e4 (r - 1) (by omega) (by omega)
  have hmem : r ∈ tk.flatMap fun o => candJ ts o 0 way := by
    have hex : ∃ s ∈ spGo ts (r - 1) way, ∃ o ∈ tk, meet s o = true := by
      refine Classical.byContradiction fun hne => ?_
      have : fits ts tk way (r - 1) = true := fits_iff.2 fun s hs o ho => by
        cases hm : meet s o
        · rfl
        · exact absurd ⟨s, hs, o, ho, hm⟩ hne
      rw [hp] at this; cases this
    obtain ⟨s, hs, o, ho, hm⟩ := hex
    obtain ⟨m1, m2, m3⟩ := meet_iff.1 hm
    have hs' : (⟨s.a, s.b + 1, s.c + 1⟩ : T3) ∈ spGo ts r way := by
      have := spGo_shift ts 1 way (r - 1)
      rw [show r - 1 + 1 = r by omega] at this
      rw [this]
      exact List.mem_map.2 ⟨s, hs, rfl⟩
    have hnm := fits_iff.1 e3 _ hs' o ho
    have hsb : s.b + 1 = o.c := by
      refine Classical.byContradiction fun hne => ?_
      have : meet ⟨s.a, s.b + 1, s.c + 1⟩ o = true := meet_iff.2 ⟨m1, by dsimp only; omega, by dsimp only; omega⟩
      rw [hnm] at this; cases this
    exact List.mem_flatMap.2 ⟨o, ho, cand_mem (s := ⟨s.a, s.b + 1, s.c + 1⟩) (by rw [Int.add_zero]; exact hs') m1 hsb⟩
  obtain ⟨i1, _, i3⟩ := foldB_spec (p := fits ts tk way) hf (tk.flatMap fun o => candJ ts o 0 way) (-1) (.inl rfl)
  have h3 := i3 r hmem (by omega) e3
  rcases i1 with h | ⟨h1, h2⟩
  · omega
  · refine Classical.byContradiction fun hne => ?_
    have := e4 _ h1 (by omega)
    rw [this] at h2; cases h2
end Go.Proofs.YtofjnmeblmbnmaaDoor
namespace Go.Proofs.YtofjnmeblmbnmaaDoor
open Go.RowKit

def okTimes (ts : List Int) : Bool := inB 1 24 ts.length && ts.all (inB 1 1000)
def okWayB (ts way : List Int) : Bool := inB 1 12 way.length && way.all (inB 0 ((ts.length : Int) - 1))
def okWishB (ts : List Int) (e : TN) : Bool := okWayB ts e.way && (inB 0 10000 e.p && inB 0 10000 e.q)
def okRunB (ts : List Int) (e : TN) : Bool := okWayB ts e.way && inB 0 100000 e.p
def vWishes (ts : List Int) (l : List TN) : Bool := okTimes ts && (decide (l.length ≤ 6) && l.all (okWishB ts))
def vRuns (ts : List Int) (l : List TN) : Bool := okTimes ts && (decide (l.length ≤ 12) && l.all (okRunB ts))
theorem okTimes_iff {ts : List Int} : okTimes ts = true ↔ OkTimes ts := by
  unfold okTimes OkTimes
  rw [Bool.and_eq_true, inB_iff, List.all_eq_true]
  constructor
  · intro h; exact ⟨⟨by omega, by omega⟩, fun z hz => inB_iff.1 (h.2 z hz)⟩
  · intro h; exact ⟨⟨by omega, by omega⟩, fun z hz => inB_iff.2 (h.2 z hz)⟩
theorem okWay_iff {ts way : List Int} : okWayB ts way = true ↔ OkWay ts way := by
  unfold okWayB OkWay
  rw [Bool.and_eq_true, inB_iff, List.all_eq_true]
  constructor
  · intro h; exact ⟨⟨by omega, by omega⟩, fun z hz => inB_iff.1 (h.2 z hz)⟩
  · intro h; exact ⟨⟨by omega, by omega⟩, fun z hz => inB_iff.2 (h.2 z hz)⟩
def OkWish (ts : List Int) (e : TN) : Prop := OkWay ts e.way ∧ (0 ≤ e.p ∧ e.p ≤ 10000) ∧ (0 ≤ e.q ∧ e.q ≤ 10000)
def OkRun (ts : List Int) (e : TN) : Prop := OkWay ts e.way ∧ (0 ≤ e.p ∧ e.p ≤ 100000)
theorem vWishes_iff {ts : List Int} {l : List TN} : vWishes ts l = true ↔ OkTimes ts ∧ l.length ≤ 6 ∧ ∀ e ∈ l, OkWish ts e := by
  unfold vWishes OkWish okWishB
  simp only [Bool.and_eq_true, okTimes_iff, decide_eq_true_eq, List.all_eq_true, okWay_iff, inB_iff]
theorem vRuns_iff {ts : List Int} {l : List TN} : vRuns ts l = true ↔ OkTimes ts ∧ l.length ≤ 12 ∧ ∀ e ∈ l, OkRun ts e := by
  unfold vRuns OkRun okRunB
  simp only [Bool.and_eq_true, okTimes_iff, decide_eq_true_eq, List.all_eq_true, okWay_iff, inB_iff]
end Go.Proofs.YtofjnmeblmbnmaaDoor
namespace Go.Proofs.YtofjnmeblmbnmaaDoor
open Go.RowKit

theorem own_only {w w' : World} {g a b n c s : Nat} {e : TypeId} {xs : List Value} (h : w.ownsRow g e s (.slice (some ⟨g, 0, none⟩) n c) n xs) (k : Only a b w w') (hd : b ≤ g ∨ g < a) : w'.ownsRow g e s (.slice (some ⟨g, 0, none⟩) n c) n xs := by
  refine ⟨h.1, ?_⟩
  rcases h.2 with h0 | ⟨g', cap, cur, he, hb, hg, rest⟩
  · exact .inl h0
  · simp only [Value.slice.injEq, Option.some.injEq, Addr.mk.injEq, and_true, true_and] at he
    obtain ⟨rfl, rfl⟩ := he
    exact .inr ⟨g, _, cur, rfl, hb, (k.2.2.2.2 g (lt_of_block hg) (by omega)).trans hg, rest⟩
theorem onv_block {e : TypeId} {s : Nat} {w : World} {lo hi n : Nat} {v : Value} {xs : List Value} (h : OwnV e s w lo hi v n xs) (hn : 0 < n) : ∃ g c, v = .slice (some ⟨g, 0, none⟩) n c ∧ lo ≤ g ∧ g < hi ∧ w.ownsRow g e s v n xs ∧ w.ownsRow lo e s v n xs := by
  obtain ⟨⟨A, c, rfl⟩, _, h0 | ⟨ho, hlt⟩⟩ := h
  · omega
  · rcases ho.2 with ⟨_, h0⟩ | ⟨g, cap, cur, he, hb, hg, rest⟩
    · omega
    · simp only [Value.slice.injEq, true_and] at he
      obtain ⟨rfl, rfl⟩ := he
      exact ⟨g, _, rfl, hb, hlt g rfl, ⟨ho.1, .inr ⟨g, _, cur, rfl, Nat.le_refl _, hg, rest⟩⟩, ho⟩
theorem set_mid {α : Type} {us vs : List α} {p q : α} {j : Nat} (h : us.length = j) : (us ++ p :: vs).set j q = (us ++ [q]) ++ vs := by
  rw [List.set_append_right _ _ (by omega), h, Nat.sub_self, List.set_cons_zero, List.append_assoc]; rfl
theorem get_mid {α : Type} {us vs : List α} {p : α} {j : Nat} (h : us.length = j) : (us ++ p :: vs)[j]? = some p := by
  rw [List.getElem?_append_right (by omega), h, Nat.sub_self]; rfl
theorem mark1 {L : List (Value × TN)} {k : Nat} {p : Value × TN} (h : L[k]? = some p) (way : List Int) (a : Int) : (L.flatMap (Nc 1)).set (k * 2 + 1) (.int .i64 a) = (L.set k (p.1, ⟨way, a, p.2.q⟩)).flatMap (Nc 1) :=
  flatMap_set (Nc 1) 2 (fun _ => rfl) L k 1 p (p.1, ⟨way, a, p.2.q⟩) (.int .i64 a) h (by omega) rfl
theorem mark2 {L : List (Value × TN)} {k : Nat} {p : Value × TN} (h : L[k]? = some p) (way : List Int) (a b : Int) : ((L.flatMap (Nc 2)).set (k * 3 + 1) (.int .i64 a)).set (k * 3 + 2) (.int .i64 b) = (L.set k (p.1, ⟨way, a, b⟩)).flatMap (Nc 2) := by
  have h1 := flatMap_set (Nc 2) 3 (fun _ => rfl) L k 1 p (p.1, ⟨way, a, p.2.q⟩) (.int .i64 a) h (by omega) rfl
  have h2 := flatMap_set (Nc 2) 3 (fun _ => rfl) (L.set k (p.1, ⟨way, a, p.2.q⟩)) k 2 (p.1, ⟨way, a, p.2.q⟩) (p.1, ⟨way, a, b⟩) (.int .i64 b) (List.getElem?_set_self (lt_of_get h)) (by omega) rfl
  rw [h1, h2, set_set_same]
theorem mark0 {L : List (Value × TN)} {k : Nat} {p : Value × TN} (h : L[k]? = some p) (z : TN) : L.flatMap (Nc 0) = (L.set k (p.1, z)).flatMap (Nc 0) := by
  have h1 := flatMap_set (Nc 0) 1 (fun _ => rfl) L k 0 p (p.1, z) p.1 h (by omega) rfl
  rw [Nat.add_zero, Nat.mul_one] at h1
  rw [← h1]
  have h2 := flatMap_get (Nc 0) 1 (fun _ => rfl) L k 0 p h (by omega)
  rw [Nat.add_zero, Nat.mul_one] at h2
  refine (List.ext_getElem? fun i => ?_)
  by_cases hi : i = k
  · subst hi; rw [List.getElem?_set_self (lt_of_get h2), h2]; rfl
  · rw [List.getElem?_set_ne (fun e => hi e.symm)]
theorem take_next {α : Type} {x : List α} {j : Nat} {e : α} (h : x[j]? = some e) : x.take (j + 1) = x.take j ++ [e] := by
  obtain ⟨hl, he⟩ := List.getElem?_eq_some_iff.1 h
  rw [List.take_succ_eq_append_getElem hl, he]
theorem mkN_next {m : Nat} {x : List TN} {j : Nat} {e : TN} (h : x[j]? = some e) (k : Int) : mkN m (x.take (j + 1)) k = mkN m (x.take j) k ++ [⟨mark_Int64S e.way (k + cntN m (x.take j)), if 1 ≤ m then k + cntN m (x.take j) + e.way.length else e.p, if 2 ≤ m then k + cntN m (x.take j) + e.way.length + 1 else e.q⟩] := by
  rw [take_next h, mkN_append, mkN, mkN]
theorem cntN_le {m : Nat} (hm : m ≤ 2) {x : List TN} (hs : SmallN x) (j : Nat) : 0 ≤ cntN m (x.take j) ∧ cntN m (x.take j) ≤ 4194304 := by
  have h1 := cntN_bd m hm x
  have h2 := cntN_bd m hm (x.take j)
  have h3 := cntN_bd m hm (x.drop j)
  have h4 := cntN_append m (x.take j) (x.drop j)
  rw [List.take_append_drop] at h4
  unfold SmallN at hs
  omega
end Go.Proofs.YtofjnmeblmbnmaaDoor
namespace Go.Proofs.YtofjnmeblmbnmaaDoor
open Go.RowKit

section
variable {P : Program}
theorem op_app {o : Oper} {a : Act} {K : Act → World → Prop} {Q : Exit → Act → World → Prop} (w : World) (s x : Operand) (t : TypeId)
    (ho : o.op = .call { callee := .builtin .append, args := #[s, x], argTypes := #[t, t] })
    (base : Nat) (e : TypeId) (i : TypeInfo) (z : Value) (size bytes : Nat) (ht : P.underlying t = some (.slice e)) (hi : P.info? e = some i) (hz : i.zero = some z)
    (hsize : i.size = size) (hby : i.bytes = bytes) (hzs : z.cells.size = size) (hsz : 0 < size)
    (v : Value) (n : Nat) (xs : List Value) (hs : a.eval s = v) (hown : w.ownsRow base e size v n xs)
    (B : Nat) (A : Option Addr) (m c : Nat) (news : List Value) (hx : a.eval x = .slice A m c) (hl : news.length = m * size) (hr : Rd w B A news) (h1 : ∀ u ∈ news, u.oneCell' = true)
    (hn : n + m ≤ 1099511627776) (hb : bytes ≤ 64) (hbase : base ≤ w.heap.size)
    (h : ∀ v' w', w'.ownsRow base e size v' (n + m) (xs ++ news) → w.grownBy w' v.ownBlock → (v'.ownBlock = v.ownBlock ∨ v'.ownBlock = some w.heap.size) → K (a.put o.dst v') w') :
    o.wp P a w K Q := by
  obtain ⟨v', w', hrun, h2, h3, h4⟩ := run_app (P := P) w base t o.type e i z size bytes ht hi hz hsize hby hzs hsz v n xs hown B A m c news hl hr h1 (by unfold maxLen; omega)
    (Nat.le_trans (Nat.mul_le_mul hn hb) (by omega)) hbase
  unfold Oper.wp execOp
  simp only [ho, resolve, invoke, builtin, Sem.run_bind, Sem.run_pure, Result.andThen_ok, List.map_toArray, List.map_cons, List.map_nil, hs, hx, hrun]
  exact h v' w' h2 h3 h4
end
theorem famO_grown {w w' : World} {v v' : Value} {lo : Nat} {ps : List (Value × TN)} {T : TypeId} {s n : Nat} {xs : List Value} (h : FamO w v.ownBlock lo w.heap.size ps) (ho : w.ownsRow lo T s v n xs) (hg : w.grownBy w' v.ownBlock) (hb : v'.ownBlock = v.ownBlock ∨ v'.ownBlock = some w.heap.size) : FamO w' v'.ownBlock lo w'.heap.size ps := by
  have key : ∀ {ps : List (Value × TN)} {lo' : Nat}, FamO w v.ownBlock lo' w.heap.size ps → FamO w' v'.ownBlock lo' w'.heap.size ps := by
    intro ps
    induction ps with
    | nil => intro lo' _; trivial
    | cons p ps ih =>
      intro lo' h
      obtain ⟨a, b, h1, h2, h3, h4, h5, h6⟩ := h
      refine ⟨a, b, h1, h2, Nat.le_trans h3 hg.size, fun g hgg => ?_, ?_, ih h6⟩
      · rcases hb with h | h
        · exact h4 g (by rw [← h]; exact hgg)
        · rw [h] at hgg; cases hgg; exact .inl h3
      · cases hv : v.ownBlock with
        | none =>
          rw [hv] at hg
          exact h5.below (B := w.heap.size) ⟨hg.os, hg.tape, hg.output, hg.size, fun k hk => hg.block k hk (by simp)⟩ h3
        | some g0 =>
          have hg0 := (ho.lt g0 hv).2
          rw [hv] at hg
          exact h5.kept (lo' := g0) (hi' := g0 + 1) ⟨hg.os, hg.tape, hg.output, hg.size, fun k hk ho' => hg.block k hk (by simp; omega)⟩ (by have := h4 g0 hv; omega)
  exact key h
set_option maxRecDepth 100000 in
set_option maxHeartbeats 1000000 in
theorem l00OwnN_any (xs : List Int) (A : Option Addr) (c : Nat) (w : World) (hx : xs.length ≤ 1048576) (h1 : RdI w w.heap.size A xs) :
    Calls Tryd.prog 113 #[.slice A xs.length c] w fun e w' => ∃ A' c', e = .returned (.slice A' xs.length c') ∧ w'.ownsRow w.heap.size 2 1 (.slice A' xs.length c') xs.length (xs.map (Value.int .i64)) ∧ Below w.heap.size w w' := by
  obtain ⟨i0, hi0, hz0, hs0, hb0⟩ := info_parts int64_info
  have HX := hide h1; clear h1
  go_enter Tryd.func113, Tryd.ntmps113
  have ho0 := own_new0 w w.heap.size 2 1 (Nat.le_refl _)
  have hb1 : Below w.heap.size w (w.alloc (.cells #[] 2)) := (Below.refl _ _).alloc (Nat.le_refl _) _
  have HR := hide (Rd.below HX.out hb1)
  go_wp2_with (at_builtin; go_must (refine wp_app _ rfl _ _ 44 rfl w.heap.size 2 i0 (.int .i64 0) 1 8 Tryd.underlying44 hi0 hz0 hs0 hb0 rfl (by decide) _ _ _ rfl ho0 _ _ xs.length c _ rfl (by simp) HR.out (ints_one _) (by omega) (by decide) (by simp) ?_); intro v' w1 hown' hgrow hat)
  go_ret
  simp only [Nat.zero_add, List.nil_append] at hown'
  obtain ⟨A', c', rfl, _⟩ := own_shape hown'
  exact ⟨A', c', rfl, hown', app_below hb1 ho0 hgrow (Nat.le_refl _) (by simp)⟩

def lateR (x : List TN) (k by_ : Int) : List TN := match x[k.toNat]? with | none => x | some e => x.set k.toNat ⟨e.way, e.p + by_, e.q⟩
def delayRun (ts : List Int) (x : List TN) (k by_ : Int) : List TN × Int :=
  if vRuns ts x = true then (if (0 ≤ k ∧ k ≤ (x.length : Int) - 1) ∧ (0 ≤ by_ ∧ by_ ≤ 100000) then (if ((x[k.toNat]?).map fun e => e.p + by_).getD 0 ≤ 100000 then (lateR x k by_, 0) else ([], 5)) else ([], 2)) else ([], 1)
theorem onl_set {T : TypeId} {w : World} {lo hi n g c i : Nat} {x : List TN} {e : TN} {a : Int} (h : ON T 1 w lo hi (.slice (some ⟨g, 0, none⟩) n c) x) (hi' : x[i]? = some e) (hg : lo ≤ g ∧ g < hi) : ON T 1 (w.setCell ⟨g, i * 2 + 1, none⟩ (.int .i64 a)) lo hi (.slice (some ⟨g, 0, none⟩) n c) (x.set i ⟨e.way, a, e.q⟩) := by
  obtain ⟨ps, hP, hO, hF, hS⟩ := h
  obtain ⟨p, hp, hp2⟩ : ∃ p, ps[i]? = some p ∧ p.2 = e := by
    rw [← hP, List.getElem?_map] at hi'
    cases hq : ps[i]? with
    | none => rw [hq] at hi'; cases hi'
    | some p => rw [hq] at hi'; exact ⟨p, rfl, Option.some.inj hi'⟩
  refine ⟨ps.set i (p.1, ⟨e.way, a, e.q⟩), ?_, ?_, ?_, ?_⟩
  · rw [List.map_set, hP]
  · have hm := mark1 hp e.way a
    rw [hp2] at hm
    rw [← hm]
    obtain ⟨h1, h2, h3⟩ := hO
    rw [List.length_set]
    refine ⟨h1, h2, ?_⟩
    rcases h3 with ⟨h0, hx⟩ | ⟨ho, hlt⟩
    · exact absurd (lt_of_get hi') (by omega)
    · obtain ⟨_, _, he⟩ := h1
      simp only [Value.slice.injEq] at he
      obtain ⟨_, rfl, _⟩ := he
      exact .inr ⟨(ho.stored (i * 2 + 1) (.int .i64 a)).1, hlt⟩
  · have hF2 := FamO.keptB (g := g) (onlyN_set (w := w) (b := g) (j := i * 2 + 1) (v := .int .i64 a) (lo := g) (hi := g + 1) (Nat.le_refl _) (by omega)) hF
    have key : ∀ {ps : List (Value × TN)} {lo i : Nat} {p : Value × TN}, FamO (w.setCell ⟨g, i * 2 + 1, none⟩ (.int .i64 a)) (some g) lo hi ps → True := fun _ => trivial
    clear key
    have key : ∀ (W : World) (ps : List (Value × TN)) (lo i : Nat) (p q : Value × TN), ps[i]? = some p → q.1 = p.1 → q.2.way = p.2.way → FamO W (some g) lo hi ps → FamO W (some g) lo hi (ps.set i q) := by
      intro W ps
      induction ps with
      | nil => intro lo i p q h; simp at h
      | cons p' ps ih =>
        intro lo i p q hq h1 h2 hF
        obtain ⟨a1, b1, k1, k2, k3, k4, k5, k6⟩ := hF
        cases i with
        | zero => simp at hq; subst hq; rw [List.set_cons_zero]; exact ⟨a1, b1, k1, k2, k3, k4, by rw [h1, h2]; exact k5, k6⟩
        | succ i => rw [List.set_cons_succ]; exact ⟨a1, b1, k1, k2, k3, k4, k5, ih _ i p q (by simpa using hq) h1 h2 k6⟩
    exact key _ ps lo i p _ hp rfl (by rw [hp2]) hF2
  · unfold SmallN at hS ⊢
    have hm : ((x.set i ⟨e.way, a, e.q⟩).map fun e => e.way.length) = x.map fun e => e.way.length := by
      rw [List.map_set]
      refine List.ext_getElem? fun j => ?_
      by_cases hj : j = i
      · subst hj
        rw [List.getElem?_set_self (by rw [List.length_map]; exact lt_of_get hi'), List.getElem?_map, hi']; rfl
      · rw [List.getElem?_set_ne (fun e => hj e.symm)]
    rw [hm, List.length_set]; exact hS
end Go.Proofs.YtofjnmeblmbnmaaDoor
namespace Go.Proofs.YtofjnmeblmbnmaaDoor
open Go.RowKit

theorem row_only {w w' : World} {lo hi base : Nat} {e : TypeId} {s n : Nat} {v : Value} {xs : List Value} (h : w.ownsRow base e s v n xs) (k : Only lo hi w w') (hd : hi ≤ base) : w'.ownsRow base e s v n xs := by
  refine ⟨h.1, ?_⟩
  rcases h.2 with h0 | ⟨g, cap, cur, he, hb, hg, rest⟩
  · exact .inl h0
  · exact .inr ⟨g, cap, cur, he, hb, (k.2.2.2.2 g (lt_of_block hg) (by omega)).trans hg, rest⟩
theorem only_app {lo hi base : Nat} {w0 w w' : World} {e : TypeId} {s n : Nat} {v : Value} {xs : List Value} (h : Only lo hi w0 w) (ho : w.ownsRow base e s v n xs) (hg : w.grownBy w' v.ownBlock) (hB : w0.heap.size ≤ base) : Only lo hi w0 w' :=
  ⟨hg.os.trans h.1, hg.tape.trans h.2.1, hg.output.trans h.2.2.1, Nat.le_trans h.size hg.size, fun i hi' ho' => (hg.block i (Nat.lt_of_lt_of_le hi' h.size) (fun e => by have := (ho.lt i e.symm).1; omega)).trans (h.2.2.2.2 i hi' ho')⟩
theorem only_alloc {lo hi : Nat} {w0 w : World} (h : Only lo hi w0 w) (o : Obj) : Only lo hi w0 (w.alloc o) := only_trans h (only_of_below ((Below.refl _ _).alloc (Nat.le_refl _) o))
theorem SrcAt.grown {b : Nat} {bs : List Int} {N : Int} {W W' : World} {row : Option Nat} (h : SrcAt b bs N W) (hg : W.grownBy W' row) (hr : ∀ g, row = some g → b < g) : SrcAt b bs N W' :=
  h.below (B := b + 1) ⟨hg.os, hg.tape, hg.output, hg.size, fun k hk => hg.block k (by have := h.lt; omega) (fun e => by have := hr k e.symm; omega)⟩ (Nat.lt_succ_self b)
theorem SrcAt.alloc {b : Nat} {bs : List Int} {N : Int} {W : World} (h : SrcAt b bs N W) (o : Obj) : SrcAt b bs N (W.alloc o) := h.below ((Below.refl _ _).alloc (Nat.le_refl _) o) h.lt
end Go.Proofs.YtofjnmeblmbnmaaDoor
namespace Go.Proofs.YtofjnmeblmbnmaaDoor
open Go.RowKit

theorem BoxN.only {w w' : World} {b lo hi : Nat} {cs : Array Value} {e : TypeId} (h : BoxN w b cs e) (k : Only lo hi w w') (hd : b < lo ∨ hi ≤ b) : BoxN w' b cs e := (k.2.2.2.2 b h.lt hd).trans h
theorem only_setNew {lo hi : Nat} {w0 w : World} (h : Only lo hi w0 w) (a : Addr) (v : Value) (hB : w0.heap.size ≤ a.block) : Only lo hi w0 (w.setCell a v) :=
  ⟨h.1, h.2.1, h.2.2.1, by have := h.size; simpa [World.setCell] using this, fun k hk ho => (Below.heap_setCell _ _ _ _ (by omega)).trans (h.2.2.2.2 k hk ho)⟩
theorem grown_setCell (w : World) (a : Addr) (v : Value) : w.grownBy (w.setCell a v) (some a.block) :=
  ⟨rfl, rfl, rfl, by simp [World.setCell], fun k _ hn => Below.heap_setCell _ _ _ _ (fun e => hn (by rw [e]))⟩
theorem SrcAt.set {b : Nat} {bs : List Int} {N : Int} {W : World} (h : SrcAt b bs N W) (a : Addr) (v : Value) (hb : b < a.block) : SrcAt b bs N (W.setCell a v) :=
  h.below (B := b + 1) ⟨rfl, rfl, rfl, by simp [World.setCell], fun k hk => Below.heap_setCell _ _ _ _ (by omega)⟩ (Nat.lt_succ_self b)
/-- A drawn wish, for n tubes. -/
def WDrawn (n : Nat) (e : TN) : Prop := ((1 ≤ e.way.length ∧ e.way.length ≤ 4) ∧ ∀ z ∈ e.way, 0 ≤ z ∧ z ≤ (n : Int) - 1) ∧ (0 ≤ e.p ∧ e.p ≤ 19) ∧ (0 ≤ e.q ∧ e.q ≤ 78)
end Go.Proofs.YtofjnmeblmbnmaaDoor
namespace Go.Proofs.YtofjnmeblmbnmaaDoor
open Go.RowKit

def hasI (xs : List Int) (v : Int) : Bool := xs.any fun z => decide (z = v)
def ordGo (n : Int) : List Int → List Int → Bool
  | _, [] => true
  | pre, k :: r => inB 0 (n - 1) k && (!hasI pre k && ordGo n (pre ++ [k]) r)
def ordOk (n : Nat) (order : List Int) : Bool := ordGo n [] order && decide (order.length = n)
def codeO (ts : List Int) (l : List TN) (order : List Int) : Int := if vWishes ts l = true then (if ordOk l.length order = true then 0 else 2) else 1
theorem ordGo_drop {n : Int} {xs : List Int} {k : Nat} {z : Int} (h : xs[k]? = some z) : ordGo n (xs.take k) (xs.drop k) = (inB 0 (n - 1) z && (!hasI (xs.take k) z && ordGo n (xs.take (k + 1)) (xs.drop (k + 1)))) := by
  obtain ⟨hl, he⟩ := List.getElem?_eq_some_iff.1 h
  rw [drop_cons h, ordGo, List.take_succ_eq_append_getElem hl, he]
theorem cap_of {e : TypeId} {s : Nat} {w : World} {lo hi : Nat} {v : Value} {n : Nat} {xs : List Value} (h : OwnV e s w lo hi v n xs) : ∀ A m c, v = .slice A m c → m ≤ c := by
  intro A m c hv
  rcases h.2.2 with ⟨h0, _⟩ | ⟨ho, _⟩
  · obtain ⟨A', c', he⟩ := h.1
    rw [hv] at he
    simp only [Value.slice.injEq] at he
    omega
  · obtain ⟨A', c', he, hle, _⟩ := own_shape ho
    rw [hv] at he
    simp only [Value.slice.injEq] at he
    omega
theorem RdI.take {w : World} {B : Nat} {A : Option Addr} {xs : List Int} (h : RdI w B A xs) (k : Nat) : RdI w B A (xs.take k) := fun hn => by
  obtain ⟨b, o, hA, hb, hc⟩ := h (by intro e; apply hn; rw [List.map_eq_nil_iff] at e; rw [e]; simp)
  refine ⟨b, o, hA, hb, fun j u hu => hc j u ?_⟩
  rw [List.getElem?_map] at hu ⊢
  by_cases hj : j < k
  · rw [List.getElem?_take_of_lt hj] at hu; exact hu
  · rw [List.getElem?_eq_none (by rw [List.length_take]; omega)] at hu; cases hu
end Go.Proofs.YtofjnmeblmbnmaaDoor
namespace Go.Proofs.YtofjnmeblmbnmaaDoor
open Go.RowKit

theorem small_drawn {n : Nat} : ∀ {l : List TN}, (∀ e ∈ l, WDrawn n e) → (l.map fun e => e.way.length).sum ≤ 4 * l.length := by
  intro l
  induction l with
  | nil => intro _; simp
  | cons e l ih =>
    intro h
    rw [List.map_cons, List.sum_cons, List.length_cons]
    have h1 := (h e (List.mem_cons_self ..)).1.1.2
    have h2 := ih fun x hx => h x (List.mem_cons_of_mem _ hx)
    omega
theorem below_of_src {w w1 w2 : World} (h : Below w.heap.size w w1) (k : Only w.heap.size (w.heap.size + 1) w1 w2) : Below w.heap.size w w2 := h.trans (k.below (Nat.le_refl _) h.size)
end Go.Proofs.YtofjnmeblmbnmaaDoor
namespace Go.Proofs.YtofjnmeblmbnmaaDoor
open Go.RowKit

/-- A drawn run, for n tubes. -/
def RDrawn (n : Nat) (e : TN) : Prop := ((1 ≤ e.way.length ∧ e.way.length ≤ 4) ∧ ∀ z ∈ e.way, 0 ≤ z ∧ z ≤ (n : Int) - 1) ∧ (0 ≤ e.p ∧ e.p ≤ 49) ∧ e.q = 0
theorem small_runs {n : Nat} : ∀ {l : List TN}, (∀ e ∈ l, RDrawn n e) → (l.map fun e => e.way.length).sum ≤ 4 * l.length := by
  intro l
  induction l with
  | nil => intro _; simp
  | cons e l ih =>
    intro h
    rw [List.map_cons, List.sum_cons, List.length_cons]
    have h1 := (h e (List.mem_cons_self ..)).1.1.2
    have h2 := ih fun x hx => h x (List.mem_cons_of_mem _ hx)
    omega
end Go.Proofs.YtofjnmeblmbnmaaDoor
namespace Go.Proofs.YtofjnmeblmbnmaaDoor
open Go.RowKit

/-- The spans of a run of a list. -/
def spansR (ts : List Int) (e : TN) : List T3 := spGo ts e.p e.way
def takenOf (ts : List Int) (x : List TN) : List T3 := x.flatMap (spansR ts)
def OkPlan (ts : List Int) (x : List TN) : Prop := x.length ≤ 12 ∧ ∀ e ∈ x, OkWay ts e.way ∧ 0 ≤ e.p ∧ e.p ≤ 1000000
theorem tm_get {ts : List Int} {n : Nat} {z : Int} (h : ts[n]? = some z) : tmOf ts (n : Int) = z := by simp [tmOf, h]
theorem spGo_drop {ts way : List Int} {k : Nat} {t : Int} (h : way[k]? = some t) (f : Int) : spGo ts f (way.drop k) = ⟨t, f, f + tmOf ts t⟩ :: spGo ts (f + tmOf ts t) (way.drop (k + 1)) := by rw [drop_cons h, spGo]
theorem taken_bd {ts : List Int} (hts : OkTimes ts) {x : List TN} (h : OkPlan ts x) : ∀ o ∈ takenOf ts x, 0 ≤ o.b ∧ o.b < o.c ∧ o.c ≤ 1012000 := by
  intro o ho
  obtain ⟨e, he, hoe⟩ := List.mem_flatMap.1 ho
  obtain ⟨⟨h1, h2⟩, h3, h4⟩ := h.2 e he
  have := spGo_ge hts h2 o hoe
  omega
theorem taken_len {ts : List Int} {x : List TN} (h : ∀ e ∈ x, e.way.length ≤ 12) : (takenOf ts x).length ≤ 12 * x.length := by
  unfold takenOf
  induction x with
  | nil => simp
  | cons e x ih =>
    rw [List.flatMap_cons, List.length_append, List.length_cons]
    have h1 := h e (List.mem_cons_self ..)
    have h2 := ih fun d hd => h d (List.mem_cons_of_mem _ hd)
    have h3 : (spansR ts e).length = e.way.length := spGo_len _ _ _
    omega
theorem waitIn_drop {s : T3} {tk : List T3} {j : Nat} {o : T3} {w : Int} (h : tk[j]? = some o) : waitIn s (tk.drop j) w = waitIn s (tk.drop (j + 1)) (if meet s o then max w (o.c - s.b) else w) := by rw [drop_cons h, waitIn]
theorem waitOf_drop {tk ss : List T3} {j : Nat} {s : T3} {w : Int} (h : ss[j]? = some s) : waitOf tk (ss.drop j) w = waitOf tk (ss.drop (j + 1)) (waitIn s tk w) := by rw [drop_cons h, waitOf]
theorem lastC_bd {ts : List Int} (hts : OkTimes ts) {x : List TN} (h : OkPlan ts x) {f : Int} (hf : f ≤ 1000000) : lastC (takenOf ts x) f ≤ 1012000 := by
  rcases (lastC_spec (takenOf ts x) f).2.2 with h1 | ⟨o, ho, h1⟩
  · omega
  · have := taken_bd hts h o ho; omega
end Go.Proofs.YtofjnmeblmbnmaaDoor
namespace Go.Proofs.YtofjnmeblmbnmaaDoor
open Go.RowKit

def spTN (s : T3) : TN := ⟨[s.a, s.b, s.c], 0, 0⟩
theorem spans_at {w : World} {B : Nat} {A : Option Addr} {ss : List T3} (h : RN 0 w B A (ss.map spTN)) {k : Nat} (hk : k < ss.length) : ∃ b o s b' o' c', A = some ⟨b, o, none⟩ ∧ b < B ∧ b' < B ∧ ss[k]? = some s ∧ w.cell? ⟨b, o + k, none⟩ = some (.slice (some ⟨b', o', none⟩) 3 c') ∧
    w.cell? ⟨b', o', none⟩ = some (.int .i64 s.a) ∧ w.cell? ⟨b', o' + 1, none⟩ = some (.int .i64 s.b) ∧ w.cell? ⟨b', o' + 2, none⟩ = some (.int .i64 s.c) := by
  obtain ⟨b, o, e, Aw, cw, hA, hb, he, hr, hc, _, _⟩ := h.at_ (by omega) (k := k) (by simpa using hk)
  rw [List.getElem?_map, List.getElem?_eq_getElem hk] at he
  have he' := Option.some.inj he
  subst he'
  obtain ⟨b', o', z0, hA', hb', h0, g0⟩ := hr.at_ (k := 0) (by simp [spTN])
  obtain ⟨_, _, z1, hA1, _, h1, g1⟩ := hr.at_ (k := 1) (by simp [spTN])
  obtain ⟨_, _, z2, hA2, _, h2, g2⟩ := hr.at_ (k := 2) (by simp [spTN])
  subst hA'
  cases hA1; cases hA2
  simp only [spTN, List.getElem?_cons_zero, List.getElem?_cons_succ, Option.some.injEq] at h0 h1 h2
  subst h0 h1 h2
  exact ⟨b, o, ss[k], b', o', cw, hA, hb, hb', List.getElem?_eq_getElem hk, by rw [show o + k = o + k * (0 + 1) by omega]; exact hc, g0, g1, g2⟩
theorem sp_small {ss : List T3} (h : ss.length ≤ 1000) : SmallN (ss.map spTN) := by
  unfold SmallN
  rw [List.length_map, List.map_map]
  have : (ss.map ((fun e : TN => e.way.length) ∘ spTN)).sum = 3 * ss.length := by
    clear h
    induction ss with
    | nil => rfl
    | cons s ss ih => rw [List.map_cons, List.sum_cons, List.length_cons, ih]; simp [spTN]; omega
  rw [this]; omega
theorem sp_get {ts way : List Int} {f : Int} {k : Nat} (h : k < (spGo ts f way).length) : ∃ s, (spGo ts f way)[k]? = some s := ⟨_, List.getElem?_eq_getElem h⟩
def meetAt (ss tt : List T3) : Int := firstI (fun s => tt.any (meet s)) ss 0
end Go.Proofs.YtofjnmeblmbnmaaDoor
namespace Go.Proofs.YtofjnmeblmbnmaaDoor
open Go.RowKit

end Go.Proofs.YtofjnmeblmbnmaaDoor
namespace Go.Proofs.YtofjnmeblmbnmaaDoor
open Go.RowKit

def aloneB (ts : List Int) (ss : List T3) (x : List TN) : Bool := x.all fun e => !(ss.any fun s => (spGo ts e.p e.way).any (meet s))
theorem alone_fits (ts : List Int) (x : List TN) (way : List Int) (f : Int) : aloneB ts (spGo ts f way) x = fits ts (takenOf ts x) way f := by
  rw [Bool.eq_iff_iff, fits_iff]
  unfold aloneB takenOf
  simp only [List.all_eq_true, Bool.not_eq_true', List.any_eq_false, List.mem_flatMap, spansR]
  constructor
  · rintro h s hs o ⟨e, he, ho⟩
    have := h e he s hs
    simp only [Bool.not_eq_true, List.any_eq_false] at this
    simpa using this o ho
  · intro h e he s hs
    simp only [Bool.not_eq_true, List.any_eq_false]
    intro o ho
    simpa using h s hs o ⟨e, he, ho⟩
end Go.Proofs.YtofjnmeblmbnmaaDoor
namespace Go.Proofs.YtofjnmeblmbnmaaDoor
open Go.RowKit

theorem meetAt_ge (ss tt : List T3) : decide (0 ≤ meetAt ss tt) = ss.any fun s => tt.any (meet s) := firstI_ge _ _ _
theorem fits_runs (ts way : List Int) (x : List TN) (f : Int) : fits ts (takenOf ts x) way f = x.all fun e => !decide (0 ≤ meetAt (spGo ts f way) (spansR ts e)) := by
  rw [Bool.eq_iff_iff, fits_iff, List.all_eq_true]
  constructor
  · intro h e he
    rw [meetAt_ge]
    simp only [Bool.not_eq_true']
    refine Bool.eq_false_iff.2 fun hc => ?_
    obtain ⟨s, hs, hs2⟩ := List.any_eq_true.1 hc
    obtain ⟨o, ho, ho2⟩ := List.any_eq_true.1 hs2
    have := h s hs o (List.mem_flatMap.2 ⟨e, he, ho⟩)
    rw [this] at ho2; cases ho2
  · intro h s hs o ho
    obtain ⟨e, he, hoe⟩ := List.mem_flatMap.1 ho
    have h2 := h e he
    rw [meetAt_ge] at h2
    cases hm : meet s o
    · rfl
    · rw [show (spGo ts f way).any (fun s => (spansR ts e).any (meet s)) = true from List.any_eq_true.2 ⟨s, hs, List.any_eq_true.2 ⟨o, hoe, hm⟩⟩] at h2
      cases h2
theorem candJ_drop {ts way : List Int} {o : T3} {j : Nat} {t bf : Int} (h : way[j]? = some t) : candJ ts o bf (way.drop j) = if t = o.a then (o.c - bf) :: candJ ts o (bf + tmOf ts t) (way.drop (j + 1)) else candJ ts o (bf + tmOf ts t) (way.drop (j + 1)) := by rw [drop_cons h, candJ]
def cands (ts way : List Int) (tk : List T3) : List Int := tk.flatMap fun o => candJ ts o 0 way
theorem cands_run (ts way : List Int) (z : TN) (l : List TN) : cands ts way (takenOf ts (z :: l)) = cands ts way (spGo ts z.p z.way) ++ cands ts way (takenOf ts l) := by
  unfold cands takenOf
  rw [List.flatMap_cons, List.flatMap_append]; rfl
theorem cands_cons (ts way : List Int) (s : T3) (ss : List T3) : cands ts way (s :: ss) = candJ ts s 0 way ++ cands ts way ss := by
  unfold cands
  rw [List.flatMap_cons]
end Go.Proofs.YtofjnmeblmbnmaaDoor
