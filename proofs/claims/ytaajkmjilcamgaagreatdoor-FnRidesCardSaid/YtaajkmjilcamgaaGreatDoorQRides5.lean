/-
  Runs and their spans: the plain law of the earliest start.
  Times, ways, runs and wishes: which are valid; in the program and in the reference.
  Orders of wishes: the codes; in the program and in the reference.
  Rides in the reference: valid ones, ticks, speeds.
  Rides in the reference: ticks of ways, places, the slowest one, catching up.
-/
import Derived.Test.YtaajkmjilcamgaaGreatDoorQRides3
import Derived.Test.YtaajkmjilcamgaaGreatDoorQRides4
import Derived.Test.YtaajkmjilcamgaaGreatDoorQRides1
import Derived.Deep.CutBlock
namespace Go.Proofs.YtaajkmjilcamgaaGreatDoor
open Go.RowKit

def tmOf (ts : List Int) (t : Int) : Int := (ts[t.toNat]?).getD 0
/-- The spans of a run: tube, begin, end. -/
def spGo (ts : List Int) : Int → List Int → List T3
  | _, [] => []
  | f, t :: r => ⟨t, f, f + tmOf ts t⟩ :: spGo ts (f + tmOf ts t) r
def meet (s o : T3) : Bool := decide (s.a = o.a ∧ s.b < o.c ∧ o.b < s.c)
theorem meet_iff {s o : T3} : meet s o = true ↔ s.a = o.a ∧ s.b < o.c ∧ o.b < s.c := by simp [meet]
def fits (ts : List Int) (tk : List T3) (way : List Int) (f : Int) : Bool := (spGo ts f way).all fun s => tk.all fun o => !meet s o
def OkTimes (ts : List Int) : Prop := (1 ≤ ts.length ∧ ts.length ≤ 24) ∧ ∀ z ∈ ts, 1 ≤ z ∧ z ≤ 1000
def OkWay (ts way : List Int) : Prop := (1 ≤ way.length ∧ way.length ≤ 12) ∧ ∀ t ∈ way, 0 ≤ t ∧ t ≤ (ts.length : Int) - 1
theorem tmOf_bd {ts : List Int} (h : OkTimes ts) {t : Int} (ht : 0 ≤ t ∧ t ≤ (ts.length : Int) - 1) : 1 ≤ tmOf ts t ∧ tmOf ts t ≤ 1000 := by
  unfold tmOf
  rw [List.getElem?_eq_getElem (show t.toNat < ts.length by omega)]
  exact h.2 _ (List.getElem_mem _)
theorem spGo_shift (ts : List Int) (d : Int) : ∀ (way : List Int) (f : Int), spGo ts (f + d) way = (spGo ts f way).map fun s => ⟨s.a, s.b + d, s.c + d⟩ := by
  intro way
  induction way with
  | nil => intro f; rfl
  | cons t r ih =>
    intro f
    rw [spGo, spGo, List.map_cons, ← ih, show f + d + tmOf ts t = f + tmOf ts t + d by omega]
theorem spGo_ge {ts : List Int} (hts : OkTimes ts) : ∀ {way : List Int} {f : Int}, (∀ t ∈ way, 0 ≤ t ∧ t ≤ (ts.length : Int) - 1) → ∀ s ∈ spGo ts f way, f ≤ s.b ∧ s.b < s.c ∧ s.c ≤ f + 1000 * way.length := by
  intro way
  induction way with
  | nil => intro f _ s hs; cases hs
  | cons t r ih =>
    intro f h s hs
    have ht := tmOf_bd hts (h t (List.mem_cons_self ..))
    rw [spGo] at hs
    rw [List.length_cons]
    rcases List.mem_cons.1 hs with rfl | hs
    · dsimp only; omega
    · have := ih (fun t ht => h t (List.mem_cons_of_mem _ ht)) s hs
      omega
theorem spGo_len (ts : List Int) : ∀ (way : List Int) (f : Int), (spGo ts f way).length = way.length := by
  intro way
  induction way with
  | nil => intro f; rfl
  | cons t r ih => intro f; rw [spGo, List.length_cons, List.length_cons, ih]
/-- The longest wait for spans that meet. -/
def waitIn (s : T3) : List T3 → Int → Int
  | [], w => w
  | o :: os, w => waitIn s os (if meet s o then max w (o.c - s.b) else w)
def waitOf (tk : List T3) : List T3 → Int → Int
  | [], w => w
  | s :: ss, w => waitOf tk ss (waitIn s tk w)
theorem waitIn_spec (s : T3) : ∀ (os : List T3) (w : Int), w ≤ waitIn s os w ∧ (∀ o ∈ os, meet s o = true → o.c - s.b ≤ waitIn s os w) ∧ (waitIn s os w = w ∨ ∃ o ∈ os, meet s o = true ∧ waitIn s os w = o.c - s.b) := by
  intro os
  induction os with
  | nil => intro w; exact ⟨Int.le_refl _, fun o ho => (by cases ho), .inl rfl⟩
  | cons o os ih =>
    intro w
    rw [waitIn]
    obtain ⟨i1, i2, i3⟩ := ih (if meet s o then max w (o.c - s.b) else w)
    by_cases hm : meet s o = true
    · rw [if_pos hm] at *
      refine ⟨by omega, fun o' ho hm' => ?_, ?_⟩
      · rcases List.mem_cons.1 ho with rfl | ho
        · omega
        · exact i2 o' ho hm'
      · rcases i3 with h | ⟨o', ho, hm', h⟩
        · by_cases hw : o.c - s.b ≤ w
          · left; rw [h]; omega
          · right; exact ⟨o, List.mem_cons_self .., hm, by rw [h]; omega⟩
        · exact .inr ⟨o', List.mem_cons_of_mem _ ho, hm', h⟩
    · rw [if_neg hm] at *
      refine ⟨i1, fun o' ho hm' => ?_, ?_⟩
      · rcases List.mem_cons.1 ho with rfl | ho
        · exact absurd hm' hm
        · exact i2 o' ho hm'
      · rcases i3 with h | ⟨o', ho, hm', h⟩
        · exact .inl h
        · exact .inr ⟨o', List.mem_cons_of_mem _ ho, hm', h⟩
theorem waitOf_spec (tk : List T3) : ∀ (ss : List T3) (w : Int), w ≤ waitOf tk ss w ∧ (∀ s ∈ ss, ∀ o ∈ tk, meet s o = true → o.c - s.b ≤ waitOf tk ss w) ∧ (waitOf tk ss w = w ∨ ∃ s ∈ ss, ∃ o ∈ tk, meet s o = true ∧ waitOf tk ss w = o.c - s.b) := by
  intro ss
  induction ss with
  | nil => intro w; exact ⟨Int.le_refl _, fun o ho => (by cases ho), .inl rfl⟩
  | cons s ss ih =>
    intro w
    rw [waitOf]
    obtain ⟨i1, i2, i3⟩ := ih (waitIn s tk w)
    obtain ⟨k1, k2, k3⟩ := waitIn_spec s tk w
    refine ⟨by omega, fun s' hs o ho hm => ?_, ?_⟩
    · rcases List.mem_cons.1 hs with rfl | hs
      · have := k2 o ho hm; omega
      · exact i2 s' hs o ho hm
    · rcases i3 with h | ⟨s', hs, o, ho, hm, h⟩
      · rcases k3 with h' | ⟨o, ho, hm, h'⟩
        · exact .inl (h.trans h')
        · exact .inr ⟨s, List.mem_cons_self .., o, ho, hm, h.trans h'⟩
      · exact .inr ⟨s', List.mem_cons_of_mem _ hs, o, ho, hm, h⟩
theorem fits_iff {ts : List Int} {tk : List T3} {way : List Int} {f : Int} : fits ts tk way f = true ↔ ∀ s ∈ spGo ts f way, ∀ o ∈ tk, meet s o = false := by
  unfold fits
  rw [List.all_eq_true]
  constructor
  · intro h s hs o ho
    have := List.all_eq_true.1 (h s hs) o ho
    simpa using this
  · intro h s hs
    exact List.all_eq_true.2 fun o ho => by simp [h s hs o ho]
/-- No wait: it fits. A wait: it does not, nor anywhere before the wait is over. -/
theorem wait_zero {ts : List Int} {tk : List T3} {way : List Int} {f : Int} (h : waitOf tk (spGo ts f way) 0 = 0) : fits ts tk way f = true := by
  rw [fits_iff]
  intro s hs o ho
  cases hm : meet s o
  · rfl
  · have h1 := (waitOf_spec tk (spGo ts f way) 0).2.1 s hs o ho hm
    have h2 := (meet_iff.1 hm).2.1
    omega
theorem wait_pos {ts : List Int} {tk : List T3} {way : List Int} {f : Int} (h : waitOf tk (spGo ts f way) 0 ≠ 0) : 0 < waitOf tk (spGo ts f way) 0 ∧ ∀ g, f ≤ g → g < f + waitOf tk (spGo ts f way) 0 → fits ts tk way g = false := by
  obtain ⟨h1, _, h3⟩ := waitOf_spec tk (spGo ts f way) 0
  rcases h3 with h3 | ⟨s, hs, o, ho, hm, h3⟩
  · exact absurd h3 h
  · refine ⟨by omega, fun g hg1 hg2 => ?_⟩
    obtain ⟨m1, m2, m3⟩ := meet_iff.1 hm
    have hs' : (⟨s.a, s.b + (g - f), s.c + (g - f)⟩ : T3) ∈ spGo ts g way := by
      have := spGo_shift ts (g - f) way f
      rw [show f + (g - f) = g by omega] at this
      rw [this]
      exact List.mem_map.2 ⟨s, hs, rfl⟩
    cases hf : fits ts tk way g
    · rfl
    · have := fits_iff.1 hf _ hs' o ho
      have h4 : meet ⟨s.a, s.b + (g - f), s.c + (g - f)⟩ o = true := meet_iff.2 ⟨m1, by dsimp only; omega, by dsimp only; omega⟩
      rw [this] at h4; cases h4
/-- The least tick from f on at which p holds, sought so many ticks long. -/
def seek (p : Int → Bool) : Nat → Int → Int
  | 0, b => b
  | n + 1, b => if p b then b else seek p n (b + 1)
theorem seek_eq {p : Int → Bool} {r : Int} : ∀ {n : Nat} {b : Int}, b ≤ r → r ≤ b + n → p r = true → (∀ c, b ≤ c → c < r → p c = false) → seek p n b = r := by
  intro n
  induction n with
  | zero => intro b h1 h2 _ _; rw [seek]; omega
  | succ n ih =>
    intro b h1 h2 h3 h4
    rw [seek]
    by_cases hb : b = r
    · subst hb; rw [if_pos h3]
    · rw [h4 b (by omega) (by omega)]
      simp only [Bool.false_eq_true, if_false]
      exact ih (by omega) (by omega) h3 fun c hc => h4 c (by omega)
def lastC : List T3 → Int → Int
  | [], f => f
  | o :: os, f => lastC os (max f o.c)
theorem lastC_spec : ∀ (os : List T3) (f : Int), f ≤ lastC os f ∧ (∀ o ∈ os, o.c ≤ lastC os f) ∧ (lastC os f = f ∨ ∃ o ∈ os, lastC os f = o.c) := by
  intro os
  induction os with
  | nil => intro f; exact ⟨Int.le_refl _, fun o ho => (by cases ho), .inl rfl⟩
  | cons o os ih =>
    intro f
    rw [lastC]
    obtain ⟨i1, i2, i3⟩ := ih (max f o.c)
    refine ⟨by omega, fun o' ho => ?_, ?_⟩
    · rcases List.mem_cons.1 ho with rfl | ho
      · omega
      · exact i2 o' ho
    · rcases i3 with h | ⟨o', ho, h⟩
      · by_cases hf : o.c ≤ f
        · left; rw [h]; omega
        · right; exact ⟨o, List.mem_cons_self .., by rw [h]; omega⟩
      · exact .inr ⟨o', List.mem_cons_of_mem _ ho, h⟩
def estOf (ts : List Int) (tk : List T3) (way : List Int) (f : Int) : Int := seek (fits ts tk way) (lastC tk f - f).toNat f
theorem fits_last {ts : List Int} (hts : OkTimes ts) {tk : List T3} {way : List Int} (hw : ∀ t ∈ way, 0 ≤ t ∧ t ≤ (ts.length : Int) - 1) {f : Int} : fits ts tk way (lastC tk f) = true := by
  rw [fits_iff]
  intro s hs o ho
  cases hm : meet s o
  · rfl
  · have h1 := (spGo_ge hts hw s hs).1
    have h2 := (lastC_spec tk f).2.1 o ho
    have h3 := (meet_iff.1 hm).2.1
    omega
theorem est_eq {ts : List Int} {tk : List T3} {way : List Int} {f r : Int} (h1 : f ≤ r) (h2 : r ≤ lastC tk f) (h3 : fits ts tk way r = true) (h4 : ∀ c, f ≤ c → c < r → fits ts tk way c = false) : estOf ts tk way f = r :=
  seek_eq h1 (by omega) h3 h4
theorem seek_spec {p : Int → Bool} : ∀ {n : Nat} {b : Int}, p (b + n) = true → b ≤ seek p n b ∧ seek p n b ≤ b + n ∧ p (seek p n b) = true ∧ ∀ c, b ≤ c → c < seek p n b → p c = false := by
  intro n
  induction n with
  | zero => intro b h; rw [seek]; simp at h; exact ⟨by omega, by omega, h, fun c _ _ => by omega⟩
  | succ n ih =>
    intro b h
    rw [seek]
    cases hb : p b
    · simp only [Bool.false_eq_true, if_false]
      obtain ⟨i1, i2, i3, i4⟩ := ih (b := b + 1) (by rw [show b + 1 + (n : Int) = b + ((n + 1 : Nat) : Int) by omega]; exact h)
      refine ⟨by omega, by omega, i3, fun c h1 h2 => ?_⟩
      by_cases hc : c = b
      · rw [hc]; exact hb
      · exact i4 c (by omega) h2
    · simp only [if_true]
      exact ⟨by omega, by omega, hb, fun c _ _ => by omega⟩
theorem est_spec {ts : List Int} (hts : OkTimes ts) {tk : List T3} {way : List Int} (hw : ∀ t ∈ way, 0 ≤ t ∧ t ≤ (ts.length : Int) - 1) (f : Int) : f ≤ estOf ts tk way f ∧ estOf ts tk way f ≤ lastC tk f ∧ fits ts tk way (estOf ts tk way f) = true ∧ ∀ c, f ≤ c → c < estOf ts tk way f → fits ts tk way c = false := by
  have hl := (lastC_spec tk f).1
  obtain ⟨i1, i2, i3, i4⟩ := seek_spec (p := fits ts tk way) (n := (lastC tk f - f).toNat) (b := f) (by rw [show f + (((lastC tk f - f).toNat : Nat) : Int) = lastC tk f by omega]; exact fits_last hts hw)
  exact ⟨i1, by unfold estOf; omega, i3, i4⟩
/-- The ticks at which a run leaves a span's end in the same tube. -/
def candJ (ts : List Int) (o : T3) : Int → List Int → List Int
  | _, [] => []
  | bf, t :: r => if t = o.a then (o.c - bf) :: candJ ts o (bf + tmOf ts t) r else candJ ts o (bf + tmOf ts t) r
theorem cand_mem {ts : List Int} {o : T3} : ∀ {way : List Int} {g bf : Int} {s : T3}, s ∈ spGo ts (g + bf) way → s.a = o.a → s.b = o.c → g ∈ candJ ts o bf way := by
  intro way
  induction way with
  | nil => intro g bf s hs; cases hs
  | cons t r ih =>
    intro g bf s hs h1 h2
    rw [spGo] at hs
    rw [candJ]
    rcases List.mem_cons.1 hs with rfl | hs
    · dsimp only at h1 h2
      rw [if_pos h1]
      exact List.mem_cons.2 (.inl (by omega))
    · rw [show g + bf + tmOf ts t = g + (bf + tmOf ts t) by omega] at hs
      split
      · exact List.mem_cons_of_mem _ (ih hs h1 h2)
      · exact ih hs h1 h2
def stepB (p : Int → Bool) (f best c : Int) : Int := if f ≤ c ∧ (best < 0 ∨ c < best) ∧ p c = true then c else best
def foldB (p : Int → Bool) (f : Int) : List Int → Int → Int
  | [], b => b
  | c :: cs, b => foldB p f cs (stepB p f b c)
theorem foldB_append (p : Int → Bool) (f : Int) : ∀ (us vs : List Int) (b : Int), foldB p f (us ++ vs) b = foldB p f vs (foldB p f us b) := by
  intro us
  induction us with
  | nil => intro vs b; rfl
  | cons c us ih => intro vs b; rw [List.cons_append, foldB, foldB, ih]
theorem foldB_spec {p : Int → Bool} {f : Int} (hf : 0 ≤ f) : ∀ (cs : List Int) (b : Int), (b = -1 ∨ (f ≤ b ∧ p b = true)) → (foldB p f cs b = -1 ∨ (f ≤ foldB p f cs b ∧ p (foldB p f cs b) = true)) ∧ (0 ≤ b → 0 ≤ foldB p f cs b ∧ foldB p f cs b ≤ b) ∧ ∀ c ∈ cs, f ≤ c → p c = true → 0 ≤ foldB p f cs b ∧ foldB p f cs b ≤ c := by
  intro cs
  induction cs with
  | nil => intro b h; exact ⟨h, fun h => ⟨h, Int.le_refl _⟩, fun c hc => (by cases hc)⟩
  | cons c cs ih =>
    intro b h
    rw [foldB]
    have hs : stepB p f b c = -1 ∨ (f ≤ stepB p f b c ∧ p (stepB p f b c) = true) := by
      unfold stepB; split
      · rename_i hh; exact .inr ⟨hh.1, hh.2.2⟩
      · exact h
    obtain ⟨i1, i2, i3⟩ := ih _ hs
    have hle : 0 ≤ b → 0 ≤ stepB p f b c ∧ stepB p f b c ≤ b := fun hb => by
      unfold stepB; split
      · omega
      · omega
    refine ⟨i1, fun hb => ?_, fun c' hc h1 h2 => ?_⟩
    · have h1 := hle hb; have h2 := i2 h1.1; omega
    · rcases List.mem_cons.1 hc with rfl | hc
      · have h3 : 0 ≤ stepB p f b c' ∧ stepB p f b c' ≤ c' := by
          unfold stepB
          by_cases hb : b < 0 ∨ c' < b
          · rw [if_pos ⟨h1, hb, h2⟩]; omega
          · rw [if_neg fun k => hb k.2.1]; omega
        have := i2 h3.1; omega
      · exact i3 c' hc h1 h2
/-- The least of the ticks that the reference tries is the earliest start. -/
theorem best_est {ts : List Int} (hts : OkTimes ts) {tk : List T3} {way : List Int} (hw : ∀ t ∈ way, 0 ≤ t ∧ t ≤ (ts.length : Int) - 1) {f : Int} (hf : 0 ≤ f) (hn : fits ts tk way f = false) : foldB (fits ts tk way) f (tk.flatMap fun o => candJ ts o 0 way) (-1) = estOf ts tk way f := by
  obtain ⟨e1, e2, e3, e4⟩ := est_spec (tk := tk) hts hw f
  generalize hr : estOf ts tk way f = r at *
  have hfr : f < r := by
    by_cases h : r = f
    · rw [h, hn] at e3; cases e3
    · omega
  have hp := e4 (r - 1) (by omega) (by omega)
  have hmem : r ∈ tk.flatMap fun o => candJ ts o 0 way := by
    have hex : ∃ s ∈ spGo ts (r - 1) way, ∃ o ∈ tk, meet s o = true := by
      refine Classical.byContradiction fun hne => ?_
      have : fits ts tk way (r - 1) = true := fits_iff.2 fun s hs o ho => by
        cases hm : meet s o
        · rfl
        · exact absurd ⟨s, hs, o, ho, hm⟩ hne
      rw [hp] at this; cases this
    obtain ⟨s, hs, o, ho, hm⟩ := hex
    obtain ⟨m1, m2, m3⟩ := meet_iff.1 hm
    have hs' : (⟨s.a, s.b + 1, s.c + 1⟩ : T3) ∈ spGo ts r way := by
      have := spGo_shift ts 1 way (r - 1)
      rw [show r - 1 + 1 = r by omega] at this
      rw [this]
      exact List.mem_map.2 ⟨s, hs, rfl⟩
    have hnm := fits_iff.1 e3 _ hs' o ho
    have hsb : s.b + 1 = o.c := by
      refine Classical.byContradiction fun hne => ?_
      have : meet ⟨s.a, s.b + 1, s.c + 1⟩ o = true := meet_iff.2 ⟨m1, by dsimp only; omega, by dsimp only; omega⟩
      rw [hnm] at this; cases this
    exact List.mem_flatMap.2 ⟨o, ho, cand_mem (s := ⟨s.a, s.b + 1, s.c + 1⟩) (by rw [Int.add_zero]; exact hs') m1 hsb⟩
  obtain ⟨i1, _, i3⟩ := foldB_spec (p := fits ts tk way) hf (tk.flatMap fun o => candJ ts o 0 way) (-1) (.inl rfl)
  have h3 := i3 r hmem (by omega) e3
  rcases i1 with h | ⟨h1, h2⟩
  · omega
  · refine Classical.byContradiction fun hne => ?_
    have := e4 _ h1 (by omega)
    rw [this] at h2; cases h2
end Go.Proofs.YtaajkmjilcamgaaGreatDoor
namespace Go.Proofs.YtaajkmjilcamgaaGreatDoor
open Go.RowKit

def okTimes (ts : List Int) : Bool := inB 1 24 ts.length && ts.all (inB 1 1000)
def okWayB (ts way : List Int) : Bool := inB 1 12 way.length && way.all (inB 0 ((ts.length : Int) - 1))
def okWishB (ts : List Int) (e : TN) : Bool := okWayB ts e.way && (inB 0 10000 e.p && inB 0 10000 e.q)
def okRunB (ts : List Int) (e : TN) : Bool := okWayB ts e.way && inB 0 100000 e.p
def vWishes (ts : List Int) (l : List TN) : Bool := okTimes ts && (decide (l.length ≤ 6) && l.all (okWishB ts))
def vRuns (ts : List Int) (l : List TN) : Bool := okTimes ts && (decide (l.length ≤ 12) && l.all (okRunB ts))
theorem okTimes_iff {ts : List Int} : okTimes ts = true ↔ OkTimes ts := by
  unfold okTimes OkTimes
  rw [Bool.and_eq_true, inB_iff, List.all_eq_true]
  constructor
  · intro h; exact ⟨⟨by omega, by omega⟩, fun z hz => inB_iff.1 (h.2 z hz)⟩
  · intro h; exact ⟨⟨by omega, by omega⟩, fun z hz => inB_iff.2 (h.2 z hz)⟩
theorem okWay_iff {ts way : List Int} : okWayB ts way = true ↔ OkWay ts way := by
  unfold okWayB OkWay
  rw [Bool.and_eq_true, inB_iff, List.all_eq_true]
  constructor
  · intro h; exact ⟨⟨by omega, by omega⟩, fun z hz => inB_iff.1 (h.2 z hz)⟩
  · intro h; exact ⟨⟨by omega, by omega⟩, fun z hz => inB_iff.2 (h.2 z hz)⟩
def OkWish (ts : List Int) (e : TN) : Prop := OkWay ts e.way ∧ (0 ≤ e.p ∧ e.p ≤ 10000) ∧ (0 ≤ e.q ∧ e.q ≤ 10000)
def OkRun (ts : List Int) (e : TN) : Prop := OkWay ts e.way ∧ (0 ≤ e.p ∧ e.p ≤ 100000)
theorem vWishes_iff {ts : List Int} {l : List TN} : vWishes ts l = true ↔ OkTimes ts ∧ l.length ≤ 6 ∧ ∀ e ∈ l, OkWish ts e := by
  unfold vWishes OkWish okWishB
  simp only [Bool.and_eq_true, okTimes_iff, decide_eq_true_eq, List.all_eq_true, okWay_iff, inB_iff]
theorem vRuns_iff {ts : List Int} {l : List TN} : vRuns ts l = true ↔ OkTimes ts ∧ l.length ≤ 12 ∧ ∀ e ∈ l, OkRun ts e := by
  unfold vRuns OkRun okRunB
  simp only [Bool.and_eq_true, okTimes_iff, decide_eq_true_eq, List.all_eq_true, okWay_iff, inB_iff]
end Go.Proofs.YtaajkmjilcamgaaGreatDoor
namespace Go.Proofs.YtaajkmjilcamgaaGreatDoor
open Go.RowKit

def hasI (xs : List Int) (v : Int) : Bool := xs.any fun z => decide (z = v)
def ordGo (n : Int) : List Int → List Int → Bool
  | _, [] => true
  | pre, k :: r => inB 0 (n - 1) k && (!hasI pre k && ordGo n (pre ++ [k]) r)
def ordOk (n : Nat) (order : List Int) : Bool := ordGo n [] order && decide (order.length = n)
def codeO (ts : List Int) (l : List TN) (order : List Int) : Int := if vWishes ts l = true then (if ordOk l.length order = true then 0 else 2) else 1
theorem ordGo_drop {n : Int} {xs : List Int} {k : Nat} {z : Int} (h : xs[k]? = some z) : ordGo n (xs.take k) (xs.drop k) = (inB 0 (n - 1) z && (!hasI (xs.take k) z && ordGo n (xs.take (k + 1)) (xs.drop (k + 1)))) := by
  obtain ⟨hl, he⟩ := List.getElem?_eq_some_iff.1 h
  rw [drop_cons h, ordGo, List.take_succ_eq_append_getElem hl, he]
theorem cap_of {e : TypeId} {s : Nat} {w : World} {lo hi : Nat} {v : Value} {n : Nat} {xs : List Value} (h : OwnV e s w lo hi v n xs) : ∀ A m c, v = .slice A m c → m ≤ c := by
  intro A m c hv
  rcases h.2.2 with ⟨h0, _⟩ | ⟨ho, _⟩
  · obtain ⟨A', c', he⟩ := h.1
    rw [hv] at he
    simp only [Value.slice.injEq] at he
    omega
  · obtain ⟨A', c', he, hle, _⟩ := own_shape ho
    rw [hv] at he
    simp only [Value.slice.injEq] at he
    omega
theorem RdI.take {w : World} {B : Nat} {A : Option Addr} {xs : List Int} (h : RdI w B A xs) (k : Nat) : RdI w B A (xs.take k) := fun hn => by
  obtain ⟨b, o, hA, hb, hc⟩ := h (by intro e; apply hn; rw [List.map_eq_nil_iff] at e; rw [e]; simp)
  refine ⟨b, o, hA, hb, fun j u hu => hc j u ?_⟩
  rw [List.getElem?_map] at hu ⊢
  by_cases hj : j < k
  · rw [List.getElem?_take_of_lt hj] at hu; exact hu
  · rw [List.getElem?_eq_none (by rw [List.length_take]; omega)] at hu; cases hu
end Go.Proofs.YtaajkmjilcamgaaGreatDoor
namespace Go.Proofs.YtaajkmjilcamgaaGreatDoor
open Go.RowKit
theorem drewN_drewN (w : World) (n m : Nat) : (w.drewN n).drewN m = w.drewN (n + m) := by unfold World.drewN; simp only [World.mk.injEq]; simp [Nat.add_assoc]
theorem qd {P : Program} {f : FuncId} {args : Array Value} {w : World} {n : Nat} {v : Value}
    (h : Calls P f args (w.drewN n) fun e w' => e = .returned v ∧ ∃ m, w' = (w.drewN n).drewN m) : Calls P f args (w.drewN n) fun e w'' => e = .returned v ∧ ∃ m, w'' = w.drewN m :=
  h.mono fun _ _ ⟨he, m, hm⟩ => ⟨he, n + m, by rw [hm, drewN_drewN]⟩
/-- A ride at a place. -/
structure RAt (w : World) (b o : Nat) (x : T4) : Prop where
  c0 : w.cell? ⟨b, o, none⟩ = some (.int .i64 x.a)
  c1 : w.cell? ⟨b, o + 1, none⟩ = some (.int .i64 x.b)
  c2 : w.cell? ⟨b, o + 2, none⟩ = some (.int .i64 x.c)
  c3 : w.cell? ⟨b, o + 3, none⟩ = some (.int .i64 x.d)
theorem RAt.below {w w' : World} {b o B : Nat} {x : T4} (h : RAt w b o x) (k : Below B w w') (hb : b < B) : RAt w' b o x :=
  ⟨(k.cell (p := ⟨b, o, none⟩) hb).trans h.c0, (k.cell (p := ⟨b, o + 1, none⟩) hb).trans h.c1, (k.cell (p := ⟨b, o + 2, none⟩) hb).trans h.c2, (k.cell (p := ⟨b, o + 3, none⟩) hb).trans h.c3⟩
theorem RAt.drew {w : World} {b o : Nat} {x : T4} (h : RAt w b o x) (n : Nat) : RAt (w.drewN n) b o x := ⟨h.c0, h.c1, h.c2, h.c3⟩
set_option maxRecDepth 100000 in
set_option maxHeartbeats 4000000 in
theorem specOk_any (x : T4) (b o : Nat) (w : World) (h : RAt w b o x) :
    Calls Tryz.prog 50 #[.pointer (some ⟨b, o, none⟩)] w fun e w' => e = .returned (.bool (okR x)) ∧ w = w' := by
  obtain ⟨k0, k1, k2, k3⟩ := h
  by_cases h1 : 1 ≤ x.a ∧ x.a ≤ 2000
  case neg =>
    have h1' : x.a < 1 ∨ 2000 < x.a := by omega
    have HK := hide (show okR x = false by simp [okR, inB_f h1'])
    clear h1
    go_enter Tryz.func50, Tryz.ntmps50
    go_wp2_with (go_at_call 86; first | (refine (l00In_t _ _ _ _ (by omega)).mono ?_; rintro e w' ⟨rfl, rfl⟩) | (refine (l00In_f _ _ _ _ (by omega)).mono ?_; rintro e w' ⟨rfl, rfl⟩))
    go_ret
    exact ⟨ret_b HK.out.symm, rfl⟩
  by_cases h2 : 0 ≤ x.b ∧ x.b ≤ 500
  case neg =>
    have h2' : x.b < 0 ∨ 500 < x.b := by omega
    have HK := hide (show okR x = false by simp [okR, inB_f h2'])
    clear h2
    obtain ⟨h1, h1'⟩ := h1
    go_enter Tryz.func50, Tryz.ntmps50
    go_wp2_with (go_at_call 86; first | (refine (l00In_t _ _ _ _ (by omega)).mono ?_; rintro e w' ⟨rfl, rfl⟩) | (refine (l00In_f _ _ _ _ (by omega)).mono ?_; rintro e w' ⟨rfl, rfl⟩))
    go_ret
    exact ⟨ret_b HK.out.symm, rfl⟩
  by_cases h3 : 1 ≤ x.c ∧ x.c ≤ 100
  case neg =>
    have h3' : x.c < 1 ∨ 100 < x.c := by omega
    have HK := hide (show okR x = false by simp [okR, inB_f h3'])
    clear h3
    obtain ⟨h1, h1'⟩ := h1; obtain ⟨h2, h2'⟩ := h2
    go_enter Tryz.func50, Tryz.ntmps50
    go_wp2_with (go_at_call 86; first | (refine (l00In_t _ _ _ _ (by omega)).mono ?_; rintro e w' ⟨rfl, rfl⟩) | (refine (l00In_f _ _ _ _ (by omega)).mono ?_; rintro e w' ⟨rfl, rfl⟩))
    go_ret
    exact ⟨ret_b HK.out.symm, rfl⟩
  by_cases h4 : 0 ≤ x.d ∧ x.d ≤ 40
  case neg =>
    have h4' : x.d < 0 ∨ 40 < x.d := by omega
    have HK := hide (show okR x = false by simp [okR, inB_f h4'])
    clear h4
    obtain ⟨h1, h1'⟩ := h1; obtain ⟨h2, h2'⟩ := h2; obtain ⟨h3, h3'⟩ := h3
    go_enter Tryz.func50, Tryz.ntmps50
    go_wp2_with (go_at_call 86; first | (refine (l00In_t _ _ _ _ (by omega)).mono ?_; rintro e w' ⟨rfl, rfl⟩) | (refine (l00In_f _ _ _ _ (by omega)).mono ?_; rintro e w' ⟨rfl, rfl⟩))
    go_ret
    exact ⟨ret_b HK.out.symm, rfl⟩
  have HK := hide (show okR x = true from okR_iff.2 ⟨h1, h2, h3, h4⟩)
  obtain ⟨h1, h1'⟩ := h1; obtain ⟨h2, h2'⟩ := h2; obtain ⟨h3, h3'⟩ := h3; obtain ⟨h4, h4'⟩ := h4
  go_enter Tryz.func50, Tryz.ntmps50
  go_wp2_with (go_at_call 86; first | (refine (l00In_t _ _ _ _ (by omega)).mono ?_; rintro e w' ⟨rfl, rfl⟩) | (refine (l00In_f _ _ _ _ (by omega)).mono ?_; rintro e w' ⟨rfl, rfl⟩))
  go_ret
  exact ⟨ret_b HK.out.symm, rfl⟩
theorem specNum_any (x : T4) (b o : Nat) (w : World) (ho : okR x = true) (h : RAt w b o x) :
    Calls Tryz.prog 55 #[.pointer (some ⟨b, o, none⟩)] w fun e w' => e = .returned (.int .i64 (100 * x.c)) ∧ w = w' := by
  obtain ⟨k0, k1, k2, k3⟩ := h
  obtain ⟨⟨a1, a2⟩, ⟨b1, b2⟩, ⟨c1, c2⟩, d1, d2⟩ := okR_bd ho
  clear ho
  go_enter Tryz.func55, Tryz.ntmps55
  go_wp2_with fail
  go_ret
  exact ⟨rfl, rfl⟩
theorem specDen_q (x : T4) (b o : Nat) (w : World) (ho : okR x = true) (h : RAt w b o x) :
    Calls Tryz.prog 56 #[.pointer (some ⟨b, o, none⟩)] w fun e w' => e = .returned (.int .i64 (denR x)) ∧ ∃ m, w' = w.drewN m := by
  obtain ⟨k0, k1, k2, k3⟩ := h
  obtain ⟨⟨a1, a2⟩, ⟨b1, b2⟩, ⟨c1, c2⟩, d1, d2⟩ := okR_bd ho
  have HK := hide (show denR x = 100 + x.b + 10 * x.d from rfl)
  clear ho
  go_enter Tryz.func56, Tryz.ntmps56
  go_wp2_with fail
  go_quiet (fail)
  go_wp2_with fail
  go_ret
  exact ⟨ret_i HK.out.symm, _, rfl⟩
theorem specTicks_q (x : T4) (b o : Nat) (w : World) (ho : okR x = true) (h : RAt w b o x) :
    Calls Tryz.prog 51 #[.pointer (some ⟨b, o, none⟩)] w fun e w' => e = .returned (.int .i64 (ticksR x)) ∧ ∃ m, w' = w.drewN m := by
  have HN := hide fun n => specNum_any x b o (w.drewN n) ho (h.drew n)
  have HD := hide fun n => specDen_q x b o (w.drewN n) ho (h.drew n)
  obtain ⟨k0, k1, k2, k3⟩ := h
  obtain ⟨⟨a1, a2⟩, ⟨b1, b2⟩, ⟨c1, c2⟩, d1, d2⟩ := okR_bd ho
  obtain ⟨n1, n2⟩ := denR_pos ho
  have HK := hide (show ticksR x = (x.a * denR x + 100 * x.c - 1) / (100 * x.c) from rfl)
  generalize denR x = dn at *
  obtain ⟨m1, m2⟩ := mul_bd (a := x.a) (b := dn) (m := 2000) (n := 1000) (by omega) a2 (by omega) n2
  have t1 : (x.a * dn + 100 * x.c - 1).tdiv (100 * x.c) = (x.a * dn + 100 * x.c - 1) / (100 * x.c) := Int.tdiv_eq_ediv_of_nonneg (by omega)
  have l1 := Int.ediv_le_self (a := x.a * dn + 100 * x.c - 1) (100 * x.c) (by omega)
  have l2 : 0 ≤ (x.a * dn + 100 * x.c - 1) / (100 * x.c) := Int.ediv_nonneg (by omega) (by omega)
  have e1 : IntKind.i64.wrap (x.a * dn) = x.a * dn := wrap_in (by omega) (by omega)
  have e2 : IntKind.i64.wrap (x.a * dn + 100 * x.c) = x.a * dn + 100 * x.c := wrap_in (by omega) (by omega)
  have e3 : IntKind.i64.wrap (x.a * dn + 100 * x.c - 1) = x.a * dn + 100 * x.c - 1 := wrap_in (by omega) (by omega)
  have e4 : IntKind.i64.wrap ((x.a * dn + 100 * x.c - 1).tdiv (100 * x.c)) = (x.a * dn + 100 * x.c - 1) / (100 * x.c) := by rw [t1]; exact wrap_in (by omega) (by omega)
  have hz : ¬ (100 * x.c = 0) := by omega
  clear ho t1 l1 l2
  go_enter Tryz.func51, Tryz.ntmps51
  go_wp2_with fail
  go_quiet (first | (go_at_call 55; with_reducible exact ql (HN.out _)) | (go_at_call 56; with_reducible exact qd (HD.out _)))
  go_wp2_with fail
  go_ret
  exact ⟨ret_i HK.out.symm, _, rfl⟩
theorem specTicks_b (x : T4) (b o : Nat) (w : World) (ho : okR x = true) (h : RAt w b o x) :
    Calls Tryz.prog 51 #[.pointer (some ⟨b, o, none⟩)] w fun e w' => e = .returned (.int .i64 (ticksR x)) ∧ Below w.heap.size w w' :=
  (specTicks_q x b o w ho h).mono fun _ _ ⟨he, _, hm⟩ => ⟨he, hm ▸ bdn (Below.refl _ _) _⟩
theorem specDen_b (x : T4) (b o : Nat) (w : World) (ho : okR x = true) (h : RAt w b o x) :
    Calls Tryz.prog 56 #[.pointer (some ⟨b, o, none⟩)] w fun e w' => e = .returned (.int .i64 (denR x)) ∧ Below w.heap.size w w' :=
  (specDen_q x b o w ho h).mono fun _ _ ⟨he, _, hm⟩ => ⟨he, hm ▸ bdn (Below.refl _ _) _⟩
theorem Rd4.rat {w : World} {B : Nat} {A : Option Addr} {xs : List T4} (h : Rd4 w B A xs) {k : Nat} (hk : k < xs.length) : ∃ b o x, A = some ⟨b, o, none⟩ ∧ b < B ∧ xs[k]? = some x ∧ RAt w b (o + k * 4) x := by
  obtain ⟨b, o, x, hA, hb, hx, h0, h1, h2, h3⟩ := h.at_ hk
  exact ⟨b, o, x, hA, hb, hx, ⟨h0, h1, h2, h3⟩⟩
theorem specGcd_any (a b : Int) (w : World) (ha : 0 ≤ a) (ha2 : a ≤ 1000000000000000) (hb : 0 ≤ b) (hb2 : b ≤ 1000000000000000) :
    Calls Tryz.prog 88 #[.int .i64 a, .int .i64 b] w fun e w' => e = .returned (.int .i64 (Int.gcd a b : Nat)) ∧ w = w' := by
  go_enter Tryz.func88, Tryz.ntmps88
  go_wp2_with fail
  go_loopg [0, 1] b.toNat (fun g x y wr => ∃ m n : Nat, x = .int .i64 m ∧ y = .int .i64 n ∧ Hid (g = n) ∧ (m : Int) ≤ 1000000000000000 ∧ (n : Int) ≤ 1000000000000000 ∧ Hid (Nat.gcd m n = Int.gcd a b) ∧ w = wr)
  case atStart => exact ⟨a.toNat, b.toNat, by rw [Int.toNat_of_nonneg ha], by rw [Int.toNat_of_nonneg hb], rfl, by omega, by omega, by show Nat.gcd a.toNat b.toNat = Nat.gcd a.natAbs b.natAbs; rw [show a.natAbs = a.toNat by omega, show b.natAbs = b.toNat by omega], rfl⟩
  case round =>
    obtain ⟨m, n, rfl, rfl, hg, hm, hn, HG, rfl⟩ := hrel
    by_cases hz : n = 0
    · subst hz
      have e : Nat.gcd m 0 = m := Nat.gcd_zero_right m
      have HE := hide (HG.out.symm.trans e)
      clear e HG
      go_wp2_with fail
      go_ret
      exact ⟨ret_i (by rw [HE.out]), rfl⟩
    · have hz' : ¬ ((n : Int) = 0) := by omega
      have hmod : m % n < n := Nat.mod_lt _ (by omega)
      have e1 : ((m : Int)).tmod (n : Int) = ((m % n : Nat) : Int) := by rw [Int.tmod_eq_emod_of_nonneg (by omega)]; rfl
      have e2 : IntKind.i64.wrap (((m : Int)).tmod (n : Int)) = ((m % n : Nat) : Int) := by rw [e1]; exact wrap_in (by omega) (by omega)
      have HN := hide (show Nat.gcd n (m % n) = Int.gcd a b by rw [← HG.out, Nat.gcd_comm m n, Nat.gcd_rec n m]; exact Nat.gcd_comm _ _)
      clear e1 HG
      go_wp2_with fail
      go_roundg (m % n)
      case measure => have := hg.out; omega
      case rel => exact ⟨n, m % n, rfl, rfl, rfl, hn, by omega, HN, rfl⟩
theorem specSize_any (a : Int) (w : World) (ha : 0 ≤ a) :
    Calls Tryz.prog 89 #[.int .i64 a] w fun e w' => e = .returned (.int .i64 a) ∧ w = w' := by
  go_enter Tryz.func89, Tryz.ntmps89
  go_wp2_with fail
  go_ret
  exact ⟨rfl, rfl⟩
theorem specMake_any (n d : Int) (w : World) (hn : 0 ≤ n) (hn2 : n ≤ 1000000000000000) (hd : 1 ≤ d) (hd2 : d ≤ 1000000000000000) :
    Calls Tryz.prog 54 #[.int .i64 n, .int .i64 d] w fun e w' => e = .returned (.agg #[.int .i64 (lowF n d).1, .int .i64 (lowF n d).2]) ∧ Below w.heap.size w w' := by
  have hg0 : Int.gcd n d ≠ 0 := by intro e; rw [Int.gcd_eq_zero_iff] at e; omega
  have HG := hide fun W => specGcd_any n d W hn hn2 (by omega) hd2
  have HS := hide fun W => specSize_any n W hn
  have H1 := hide (show (lowF n d).1 = n / (Int.gcd n d : Int) from rfl)
  have H2 := hide (show (lowF n d).2 = d / (Int.gcd n d : Int) from rfl)
  generalize Int.gcd n d = g at *
  have t1 : n.tdiv (g : Int) = n / (g : Int) := Int.tdiv_eq_ediv_of_nonneg hn
  have t2 : d.tdiv (g : Int) = d / (g : Int) := Int.tdiv_eq_ediv_of_nonneg (by omega)
  have l1 : n / (g : Int) ≤ n := Int.ediv_le_self _ hn
  have l2 : d / (g : Int) ≤ d := Int.ediv_le_self _ (by omega)
  have l3 : 0 ≤ n / (g : Int) := Int.ediv_nonneg hn (by omega)
  have l4 : 0 ≤ d / (g : Int) := Int.ediv_nonneg (by omega) (by omega)
  have e1 : IntKind.i64.wrap (n.tdiv (g : Int)) = n / (g : Int) := by rw [t1]; exact wrap_in (by omega) (by omega)
  have e2 : IntKind.i64.wrap (d.tdiv (g : Int)) = d / (g : Int) := by rw [t2]; exact wrap_in (by omega) (by omega)
  have hg0' : ¬ ((g : Int) = 0) := by omega
  have X0 := hide (BoxN.new w #[.int .i64 0, .int .i64 0] 48)
  have b0 : Below w.heap.size w (w.alloc (.cells #[.int .i64 0, .int .i64 0] 48)) := (by repeat (first | exact Below.refl _ _ | assumption | (refine Below.alloc ?_ (by simp <;> omega) _) | refine Below.drew ?_ | refine bdn ?_ _))
  have B0 := hide b0
  have z0 := X0.out.lt
  clear b0 t1 t2 l1 l2 l3 l4
  go_enter Tryz.func54, Tryz.ntmps54
  go_upto_region 1 with fail
  generalize w.alloc (.cells #[.int .i64 0, .int .i64 0] 48) = w2 at *
  go_upto_region 2 with (first | (go_at_call 89; refine (HS.out _).mono ?_; rintro e w3 ⟨rfl, rfl⟩) | (go_at_call 88; refine (HG.out _).mono ?_; rintro e w4 ⟨rfl, rfl⟩))
  have XD := hide (X0.out.below (Below.refl w2.heap.size w2).drew z0)
  have BD : Hid (Below w.heap.size w w2.drew) := B0.out.drew
  have T0 := hide (XD.out.set 0 (.int .i64 (n / (g : Int))))
  have T1 := hide (T0.out.set 1 (.int .i64 (d / (g : Int))))
  have m0 : w2.drew.cell? ⟨w.heap.size, 0, none⟩ = some (.int .i64 0) := XD.out.cell 0
  have n0 := XD.out.fro 0
  have m1 : (w2.drew.setCell ⟨w.heap.size, 0, none⟩ (.int .i64 (n / (g : Int)))).cell? ⟨w.heap.size, 1, none⟩ = some (.int .i64 0) := T0.out.cell 1
  have n1 := T0.out.fro 1
  have q0 : ((w2.drew.setCell ⟨w.heap.size, 0, none⟩ (.int .i64 (n / (g : Int)))).setCell ⟨w.heap.size, 1, none⟩ (.int .i64 (d / (g : Int)))).cell? ⟨w.heap.size, 0, none⟩ = some (.int .i64 (n / (g : Int))) := T1.out.cell 0
  have q1 : ((w2.drew.setCell ⟨w.heap.size, 0, none⟩ (.int .i64 (n / (g : Int)))).setCell ⟨w.heap.size, 1, none⟩ (.int .i64 (d / (g : Int)))).cell? ⟨w.heap.size, 1, none⟩ = some (.int .i64 (d / (g : Int))) := T1.out.cell 1
  refine wp_region_held_drew (S := fun W => True) (by kernel_rfl) (trivial) (fun hHeld => ?_)
  generalize w2.drew = wd at *
  refine wpAnyH_take (i := 0) (v := ?_) rfl (by kernel_rfl) (by kernel_rfl) (by kernel_rfl) (fun _ _ _ h => h) (Or.inl ⟨by rfl, ?_⟩) (by assumption) ?_
  rotate_left 1
  · (intro w hSw; (try dsimp only at hSw); go_simp; try with_reducible rfl)
  try simp only [Act.put, List.getElem_toArray, List.getElem_cons_succ, List.getElem_cons_zero, List.setIfInBounds_toArray, List.set_cons_zero, List.set_cons_succ]
  refine wpAnyH_take (i := 1) (v := ?_) rfl (by kernel_rfl) (by kernel_rfl) (by kernel_rfl) (fun _ _ _ h => h) (Or.inl ⟨by rfl, ?_⟩) (by assumption) ?_
  rotate_left 1
  · (intro w hSw; (try dsimp only at hSw); go_simp; try with_reducible rfl)
  try simp only [Act.put, List.getElem_toArray, List.getElem_cons_succ, List.getElem_cons_zero, List.setIfInBounds_toArray, List.set_cons_zero, List.set_cons_succ]
  refine wpAnyH_take (i := 2) (v := ?_) rfl (by kernel_rfl) (by kernel_rfl) (by kernel_rfl) (fun _ _ _ h => h) (Or.inl ⟨by rfl, ?_⟩) (by assumption) ?_
  rotate_left 1
  · (intro w hSw; (try dsimp only at hSw); go_simp; try with_reducible rfl)
  try simp only [Act.put, List.getElem_toArray, List.getElem_cons_succ, List.getElem_cons_zero, List.setIfInBounds_toArray, List.set_cons_zero, List.set_cons_succ]
  refine wpAnyH_take (i := 3) (v := ?_) rfl (by kernel_rfl) (by kernel_rfl) (by kernel_rfl) (fun _ _ _ h => h) (Or.inl ⟨by rfl, ?_⟩) (by assumption) ?_
  rotate_left 1
  · (intro w hSw; (try dsimp only at hSw); go_simp; try with_reducible rfl)
  try simp only [Act.put, List.getElem_toArray, List.getElem_cons_succ, List.getElem_cons_zero, List.setIfInBounds_toArray, List.set_cons_zero, List.set_cons_succ]
  refine wpAnyH_take (i := 4) (v := ?_) rfl (by kernel_rfl) (by kernel_rfl) (by kernel_rfl) (fun _ _ _ h => h) (Or.inl ⟨by rfl, ?_⟩) (by assumption) ?_
  rotate_left 1
  · (intro w hSw; (try dsimp only at hSw); go_simp; try with_reducible rfl)
  try simp only [Act.put, List.getElem_toArray, List.getElem_cons_succ, List.getElem_cons_zero, List.setIfInBounds_toArray, List.set_cons_zero, List.set_cons_succ]
  refine wpAnyH_take (i := 5) (v := ?_) rfl (by kernel_rfl) (by kernel_rfl) (by kernel_rfl) (fun _ _ _ h => h) (Or.inl ⟨by rfl, ?_⟩) (by assumption) ?_
  rotate_left 1
  · (intro w hSw; (try dsimp only at hSw); go_simp; try with_reducible rfl)
  try simp only [Act.put, List.getElem_toArray, List.getElem_cons_succ, List.getElem_cons_zero, List.setIfInBounds_toArray, List.set_cons_zero, List.set_cons_succ]
  refine wpAnyH_take (i := 6) (v := ?_) rfl (by kernel_rfl) (by kernel_rfl) (by kernel_rfl) (fun _ _ _ h => h) (Or.inl ⟨by rfl, ?_⟩) (by assumption) ?_
  rotate_left 1
  · (intro w hSw; (try dsimp only at hSw); go_simp; try with_reducible rfl)
  try simp only [Act.put, List.getElem_toArray, List.getElem_cons_succ, List.getElem_cons_zero, List.setIfInBounds_toArray, List.set_cons_zero, List.set_cons_succ]
  refine wpAnyH_ready (rs := [7]) (by kernel_rfl) (by simp) ?_
  refine AllReadyH.cons rfl (fun K hK => ?_) AllReadyH.nil
  try simp only [Act.put, List.getElem_toArray, List.getElem_cons_succ, List.getElem_cons_zero, List.setIfInBounds_toArray, List.set_cons_zero, List.set_cons_succ]
  go_simp
  refine hK.out _ _ (trivial) (fun hHeld => ?_)
  clear hK K
  try simp only [Act.put, List.getElem_toArray, List.getElem_cons_succ, List.getElem_cons_zero, List.setIfInBounds_toArray, List.set_cons_zero, List.set_cons_succ]
  refine wpAnyH_done (by kernel_rfl) ?_ _
  go_wp2_with fail
  refine bodyPost_ret (v := .agg #[.int .i64 (n / (g : Int)), .int .i64 (d / (g : Int))]) (by simp [results, Tryz.results54, go_sem, q0, q1]) rfl ⟨by rw [H1.out, H2.out], ?_⟩
  exact (BD.out.setCell (p := ⟨w.heap.size, 0, none⟩) (Nat.le_refl _) _).setCell (p := ⟨w.heap.size, 1, none⟩) (Nat.le_refl _) _
end Go.Proofs.YtaajkmjilcamgaaGreatDoor
namespace Go.Proofs.YtaajkmjilcamgaaGreatDoor
open Go.RowKit
theorem specSpeedOf_any (x : T4) (w : World) (h : okR x = true) :
    Calls Tryz.prog 19 #[.agg #[.int .i64 x.a, .int .i64 x.b, .int .i64 x.c, .int .i64 x.d]] w fun e w' => e = .returned (.tuple #[.agg #[.int .i64 (speedOf x).1.1, .int .i64 (speedOf x).1.2], .int .i64 (speedOf x).2]) ∧ Below w.heap.size w w' := by
  obtain ⟨⟨a1, a2⟩, ⟨b1, b2⟩, ⟨c1, c2⟩, d1, d2⟩ := okR_bd h
  obtain ⟨n1, n2⟩ := denR_pos h
  have X0 := hide (show BoxN ((w.alloc (.cells #[.int .i64 x.a, .int .i64 x.b, .int .i64 x.c, .int .i64 x.d] 44)).alloc (.cells #[.int .i64 0, .int .i64 0] 48)) w.heap.size #[.int .i64 x.a, .int .i64 x.b, .int .i64 x.c, .int .i64 x.d] 44 from (BoxN.new w _ _).alloc _)
  have Y0 := hide (show BoxN ((w.alloc (.cells #[.int .i64 x.a, .int .i64 x.b, .int .i64 x.c, .int .i64 x.d] 44)).alloc (.cells #[.int .i64 0, .int .i64 0] 48)) (w.heap.size + 1) #[.int .i64 0, .int .i64 0] 48 by have h := BoxN.new (w.alloc (.cells #[.int .i64 x.a, .int .i64 x.b, .int .i64 x.c, .int .i64 x.d] 44)) #[.int .i64 0, .int .i64 0] 48; simpa using h)
  have b0 : Below w.heap.size w ((w.alloc (.cells #[.int .i64 x.a, .int .i64 x.b, .int .i64 x.c, .int .i64 x.d] 44)).alloc (.cells #[.int .i64 0, .int .i64 0] 48)) := (by repeat (first | exact Below.refl _ _ | assumption | (refine Below.alloc ?_ (by simp <;> omega) _) | refine Below.drew ?_ | refine bdn ?_ _))
  have B0 := hide b0
  have z0 := Y0.out.lt
  have HR := fun W (hX : BoxN W w.heap.size #[.int .i64 x.a, .int .i64 x.b, .int .i64 x.c, .int .i64 x.d] 44) => (⟨hX.cell 0, by rw [Nat.zero_add]; exact hX.cell 1, by rw [Nat.zero_add]; exact hX.cell 2, by rw [Nat.zero_add]; exact hX.cell 3⟩ : RAt W w.heap.size 0 x)
  have HV := hide fun W hX => specOk_any x w.heap.size 0 W (HR W hX)
  have HN := hide fun W hX => specNum_any x w.heap.size 0 W h (HR W hX)
  have HD := hide fun W hX => specDen_b x w.heap.size 0 W h (HR W hX)
  rw [h] at HV
  have HK := hide (show speedOf x = (lowF (100 * x.c) (denR x), 0) by unfold speedOf; rw [if_neg (by simp [h])])
  generalize denR x = dn at *
  have HL := hide fun W => specMake_any (100 * x.c) dn W (by omega) (by omega) (by omega) (by omega)
  obtain ⟨f1, f2⟩ : ∃ f, f = lowF (100 * x.c) dn := ⟨_, rfl⟩
  rw [← f2] at HL HK
  clear f2 HR
  clear h b0
  go_enter Tryz.func19, Tryz.ntmps19
  go_upto_region 1 with fail
  generalize ((w.alloc (.cells #[.int .i64 x.a, .int .i64 x.b, .int .i64 x.c, .int .i64 x.d] 44)).alloc (.cells #[.int .i64 0, .int .i64 0] 48)) = w1 at *
  go_wp2_with (first
    | (go_at_call 50; refine (HV.out _ X0.out).mono ?_; rintro e w2 ⟨rfl, rfl⟩)
    | (go_at_call 55; refine (HN.out _ X0.out).mono ?_; rintro e w3 ⟨rfl, rfl⟩)
    | (go_at_call 56; refine (HD.out _ X0.out).mono ?_; rintro e w4 ⟨rfl, s4⟩)
    | (go_at_call 54; refine (HL.out _).mono ?_; rintro e w5 ⟨rfl, s5⟩; have Y5 := hide ((Y0.out.below s4 (by omega)).below s5 (by have := s4.size; omega)); have B5 := hide ((B0.out.trans (s4.mono B0.out.size)).trans (s5.mono (by have := s4.size; have := B0.out.size; omega))); have T0 := hide (Y5.out.set 0 (.int .i64 f1.1)); have T1 := hide (T0.out.set 1 (.int .i64 f1.2)); have m0 : w5.cell? ⟨w.heap.size + 1, 0, none⟩ = some (.int .i64 0) := Y5.out.cell 0; have n0 := Y5.out.fro 0; have m1 : (w5.setCell ⟨w.heap.size + 1, 0, none⟩ (.int .i64 f1.1)).cell? ⟨w.heap.size + 1, 1, none⟩ = some (.int .i64 0) := T0.out.cell 1; have n1' := T0.out.fro 1))
  have q0 : ((w5.setCell ⟨w.heap.size + 1, 0, none⟩ (.int .i64 f1.1)).setCell ⟨w.heap.size + 1, 1, none⟩ (.int .i64 f1.2)).cell? ⟨w.heap.size + 1, 0, none⟩ = some (.int .i64 f1.1) := T1.out.cell 0
  have q1 : ((w5.setCell ⟨w.heap.size + 1, 0, none⟩ (.int .i64 f1.1)).setCell ⟨w.heap.size + 1, 1, none⟩ (.int .i64 f1.2)).cell? ⟨w.heap.size + 1, 1, none⟩ = some (.int .i64 f1.2) := T1.out.cell 1
  refine bodyPost_ret (v := .tuple #[.agg #[.int .i64 f1.1, .int .i64 f1.2], .int .i64 0]) (by simp [results, Tryz.results19, go_sem, q0, q1]) rfl ⟨by rw [HK.out], ?_⟩
  exact (B5.out.setCell (p := ⟨w.heap.size + 1, 0, none⟩) (by dsimp only; omega) _).setCell (p := ⟨w.heap.size + 1, 1, none⟩) (by dsimp only; omega) _
end Go.Proofs.YtaajkmjilcamgaaGreatDoor
