/-
  Moves that bring what is wanted: plain definitions and laws.
-/
import Derived.Test.YthkohpidhkhkeaaCarW
namespace Go.Proofs.Ythkohpidhkhkeaa

/-- By how many each station has more than it wants. -/
def deltas : List Int → List Int → List Int
  | s :: st, w :: wa => (s - w) :: deltas st wa
  | _, _ => []
def dAt (D : List Int) (i : Nat) : Int := (D[i]?).getD 0
def mbN (D : List Int) (to fr : Nat) : Int := min (dAt D fr) (-(dAt D to))
def mbStep (s : List Int × List T3) (to fr : Nat) : List Int × List T3 :=
  if 0 < mbN s.1 to fr then ((s.1.set fr (dAt s.1 fr - mbN s.1 to fr)).set to (dAt s.1 to + mbN s.1 to fr), s.2 ++ [⟨fr, to, mbN s.1 to fr⟩]) else s
def mbIn (n to k : Nat) (s : List Int × List T3) : List Int × List T3 := ((List.range n).drop k).foldl (fun s (fr : Nat) => mbStep s to fr) s
def mbOut (n k : Nat) (s : List Int × List T3) : List Int × List T3 := ((List.range n).drop k).foldl (fun s (to : Nat) => mbIn n to 0 s) s
theorem mbIn_end (n to : Nat) (s : List Int × List T3) : mbIn n to n s = s := by unfold mbIn; rw [List.drop_eq_nil_of_le (by simp)]; rfl
theorem mbOut_end (n : Nat) (s : List Int × List T3) : mbOut n n s = s := by unfold mbOut; rw [List.drop_eq_nil_of_le (by simp)]; rfl
theorem mbIn_step {n to k : Nat} (hk : k < n) (s : List Int × List T3) : mbIn n to k s = mbIn n to (k + 1) (mbStep s to k) := by
  unfold mbIn
  rw [List.drop_eq_getElem_cons (by simpa using hk), List.foldl_cons, List.getElem_range]
theorem mbOut_step {n k : Nat} (hk : k < n) (s : List Int × List T3) : mbOut n k s = mbOut n (k + 1) (mbIn n k 0 s) := by
  unfold mbOut
  rw [List.drop_eq_getElem_cons (by simpa using hk), List.foldl_cons, List.getElem_range]
def movesBack (st wa : List Int) : List T3 × Int :=
  if codeWa st wa = 0 then (if st.sum < wa.sum then ([], 5) else ((mbOut st.length 0 (deltas st wa, [])).2, 0)) else ([], codeWa st wa)
theorem deltas_len : ∀ {st wa : List Int}, wa.length = st.length → (deltas st wa).length = st.length := by
  intro st
  induction st with
  | nil => intro wa _; cases wa <;> rfl
  | cons s st ih => intro wa h; cases wa with
    | nil => simp at h
    | cons w wa => simp only [deltas, List.length_cons]; rw [ih (by simpa using h)]
theorem deltas_get : ∀ {st wa : List Int} {i : Nat} {s w : Int}, st[i]? = some s → wa[i]? = some w → (deltas st wa)[i]? = some (s - w) := by
  intro st
  induction st with
  | nil => intro wa i s w h; simp at h
  | cons a st ih =>
    intro wa i s w h1 h2
    cases wa with
    | nil => simp at h2
    | cons b wa =>
      cases i with
      | zero => simp at h1 h2; subst h1 h2; rfl
      | succ i => simp only [deltas, List.getElem?_cons_succ] at *; exact ih h1 h2
theorem deltas_inv : ∀ {st wa : List Int} {i : Nat} {d : Int}, (deltas st wa)[i]? = some d → ∃ s w, st[i]? = some s ∧ wa[i]? = some w ∧ d = s - w := by
  intro st
  induction st with
  | nil => intro wa i d h; cases wa <;> simp [deltas] at h
  | cons a st ih =>
    intro wa i d h
    cases wa with
    | nil => simp [deltas] at h
    | cons b wa =>
      cases i with
      | zero => simp [deltas] at h; exact ⟨a, b, rfl, rfl, h.symm⟩
      | succ i => simp only [deltas, List.getElem?_cons_succ] at h ⊢; exact ih h
theorem dAt_get {D : List Int} {i : Nat} {d : Int} (h : D[i]? = some d) : dAt D i = d := by simp [dAt, h]
/-- What the walks keep: D within bounds. -/
def DOk (n : Nat) (D : List Int) : Prop := D.length = n ∧ ∀ d ∈ D, -200 ≤ d ∧ d ≤ 200
theorem DOk.start {st wa : List Int} (h : codeWa st wa = 0) : DOk st.length (deltas st wa) := by
  obtain ⟨h1, h2, h3⟩ := codeWa_ok h
  refine ⟨deltas_len h2, fun d hd => ?_⟩
  obtain ⟨i, hi⟩ := List.getElem?_of_mem hd
  obtain ⟨s, w, hs, hw, rfl⟩ := deltas_inv hi
  have := stock_bd h1 s (List.mem_of_getElem? hs)
  have := h3 w (List.mem_of_getElem? hw)
  omega
section
variable {D S : List Int} {to fr : Nat} {a b m : Int}
theorem mb_ne (hfr : D[fr]? = some a) (hto : D[to]? = some b) (h : 0 < min a (-b)) : fr ≠ to := by
  rintro rfl
  rw [hfr] at hto
  injection hto with hto
  subst hto
  omega
theorem mb_get (hfr : D[fr]? = some a) (hto : D[to]? = some b) (hne : fr ≠ to) {i : Nat} : ((D.set fr (a - m)).set to (b + m))[i]? = if i = to then some (b + m) else if i = fr then some (a - m) else D[i]? := by
  have h1 := lt_of_get hfr
  have h2 := lt_of_get hto
  rw [List.getElem?_set, List.getElem?_set, List.length_set]
  by_cases e1 : to = i
  · subst e1; simp [h2]
  · rw [if_neg e1]
    rw [if_neg (show ¬ i = to from fun e => e1 e.symm)]
    by_cases e2 : fr = i
    · subst e2; simp [h1]
    · rw [if_neg e2]
      rw [if_neg (show ¬ i = fr from fun e => e2 e.symm)]
theorem mb_mem (hfr : D[fr]? = some a) (hto : D[to]? = some b) (hne : fr ≠ to) {d : Int} (hd : d ∈ (D.set fr (a - m)).set to (b + m)) : d = b + m ∨ d = a - m ∨ d ∈ D := by
  obtain ⟨i, hi⟩ := List.getElem?_of_mem hd
  rw [mb_get hfr hto hne] at hi
  split at hi
  · left; injection hi with hi; exact hi.symm
  · split at hi
    · right; left; injection hi with hi; exact hi.symm
    · right; right; exact List.mem_of_getElem? hi
theorem DOk.next {n : Nat} (h : DOk n D) (hfr : D[fr]? = some a) (hto : D[to]? = some b) (hm : m = min a (-b)) (h0 : 0 < m) : DOk n ((D.set fr (a - m)).set to (b + m)) := by
  have hne := mb_ne hfr hto (by omega)
  have ha := h.2 a (List.mem_of_getElem? hfr)
  have hb := h.2 b (List.mem_of_getElem? hto)
  refine ⟨by rw [List.length_set, List.length_set]; exact h.1, fun d hd => ?_⟩
  rcases mb_mem hfr hto hne hd with rfl | rfl | hd
  · omega
  · omega
  · exact h.2 d hd
theorem mbStep_yes (out : List T3) (hfr : D[fr]? = some a) (hto : D[to]? = some b) (hm : m = min a (-b)) (h0 : 0 < m) : mbStep (D, out) to fr = ((D.set fr (a - m)).set to (b + m), out ++ [⟨fr, to, m⟩]) := by
  unfold mbStep mbN
  dsimp only
  rw [dAt_get hfr, dAt_get hto, ← hm, if_pos h0]
theorem mbStep_no (out : List T3) (hfr : D[fr]? = some a) (hto : D[to]? = some b) (h0 : ¬ 0 < min a (-b)) : mbStep (D, out) to fr = (D, out) := by
  unfold mbStep mbN
  dsimp only
  rw [dAt_get hfr, dAt_get hto, if_neg h0]
end
/-- A row that reads a number of each delta. -/
def ViaD (f : Nat → Int → Int) (D S : List Int) : Prop := S.length = D.length ∧ ∀ (i : Nat) (d : Int), D[i]? = some d → S[i]? = some (f i d)
theorem ViaD.next {f : Nat → Int → Int} {D S : List Int} {to fr : Nat} {a b m x y : Int} (h : ViaD f D S) (hfr : D[fr]? = some a) (hto : D[to]? = some b) (hne : fr ≠ to) (hx : x = f fr (a - m)) (hy : y = f to (b + m)) : ViaD f ((D.set fr (a - m)).set to (b + m)) ((S.set fr x).set to y) := by
  have l1 := lt_of_get hfr
  have l2 := lt_of_get hto
  refine ⟨by simp [h.1], fun i d hd => ?_⟩
  rw [mb_get hfr hto hne] at hd
  rw [List.getElem?_set, List.getElem?_set, List.length_set, h.1]
  split at hd
  · rename_i e; subst e; injection hd with hd; subst hd; simp [l2, hy]
  · rename_i e
    rw [if_neg (fun e' => e e'.symm)]
    split at hd
    · rename_i e2; subst e2; injection hd with hd; subst hd; simp [l1, hx]
    · rename_i e2
      rw [if_neg (fun e' => e2 e'.symm)]
      exact h.2 i d hd
/-- One place alone is set, where the other place's number stays. -/
theorem ViaD.next1 {f : Nat → Int → Int} {D S : List Int} {to fr : Nat} {a b m y : Int} (h : ViaD f D S) (hfr : D[fr]? = some a) (hto : D[to]? = some b) (hne : fr ≠ to) (hx : f fr a = f fr (a - m)) (hy : y = f to (b + m)) : ViaD f ((D.set fr (a - m)).set to (b + m)) (S.set to y) := by
  have h1 := h.next (x := f fr (a - m)) (y := y) hfr hto hne rfl hy
  have h2 : S.set fr (f fr (a - m)) = S := by
    apply List.ext_getElem?
    intro i
    rw [List.getElem?_set]
    by_cases e : fr = i
    · subst e
      rw [if_pos rfl, if_pos (by rw [h.1]; exact lt_of_get hfr), ← hx, h.2 fr a hfr]
    · rw [if_neg e]
  rw [h2] at h1; exact h1
theorem ViaD.next2 {f : Nat → Int → Int} {D S : List Int} {to fr : Nat} {a b m x : Int} (h : ViaD f D S) (hfr : D[fr]? = some a) (hto : D[to]? = some b) (hne : fr ≠ to) (hx : x = f fr (a - m)) (hy : f to b = f to (b + m)) : ViaD f ((D.set fr (a - m)).set to (b + m)) (S.set fr x) := by
  have h1 := h.next (x := x) (y := f to (b + m)) hfr hto hne hx rfl
  have h2 : (S.set fr x).set to (f to (b + m)) = S.set fr x := by
    apply List.ext_getElem?
    intro i
    rw [List.getElem?_set]
    by_cases e : to = i
    · subst e
      rw [if_pos rfl, if_pos (by rw [List.length_set, h.1]; exact lt_of_get hto), ← hy, List.getElem?_set_ne (by omega), h.2 to b hto]
    · rw [if_neg e]
  rw [h2] at h1; exact h1
def shF (_ : Nat) (d : Int) : Int := max 0 (-d)
def moF (_ : Nat) (d : Int) : Int := max 0 d
def ownF (wa : List Int) (i : Nat) (d : Int) : Int := dAt wa i + d
theorem via_sh {st wa : List Int} (h : wa.length = st.length) : ViaD shF (deltas st wa) (shGo st wa) := by
  refine ⟨by rw [shGo_len h, deltas_len h], fun i d hd => ?_⟩
  obtain ⟨s, w, hs, hw, rfl⟩ := deltas_inv hd
  rw [shGo_get hs hw]; unfold shF; congr 1; omega
theorem via_mo {st wa : List Int} (h : wa.length = st.length) : ViaD moF (deltas st wa) (moGo st wa) := by
  refine ⟨by rw [moGo_len h, deltas_len h], fun i d hd => ?_⟩
  obtain ⟨s, w, hs, hw, rfl⟩ := deltas_inv hd
  rw [moGo_get hs hw]; rfl
theorem via_own {st wa : List Int} (h : wa.length = st.length) : ViaD (ownF wa) (deltas st wa) st := by
  refine ⟨by rw [deltas_len h], fun i d hd => ?_⟩
  obtain ⟨s, w, hs, hw, rfl⟩ := deltas_inv hd
  rw [hs]; unfold ownF; rw [dAt_get hw]; congr 1; omega
end Go.Proofs.Ythkohpidhkhkeaa
