/-
  Moves: the search finds the cheapest ones, and they cost no more than the first-found ones. Plain lemmas.
  Moves: the cheapest ones bring what is wanted, cost what is told, and no more than the first-found ones. Plain lemmas.
  What is wanted at stations is drawn; a stock and what is wanted.
-/
import Derived.Test.YtklfjekpeoigoaaQMovesBack17
import Derived.Test.YtklfjekpeoigoaaQMovesBack10
namespace Go.Proofs.Ytklfjekpeoigoaa
open Go.RowKit

/-- A choice that the search goes through, with its cost. -/
def Cand (gs : List Int) (cs : List TN) (nm : Nat) : Nat → List Int → List Int → List Int → Int → Prop
  | 0, _, _, fs, c => fs = [] ∧ c = 0
  | r + 1, tk, more, fs, c => ∃ (i : Nat) (fs' : List Int) (c' : Int), firstOf gs tk ≤ i ∧ i < nm ∧ at0 more i ≠ 0 ∧ fs = (i : Int) :: fs' ∧ c = costAt cs (i : Int) (at0 gs tk.length) + c' ∧ Cand gs cs nm r (tk ++ [(i : Int)]) (more.set i (at0 more i - 1)) fs' c'
theorem mem_drop_range {n k i : Nat} : i ∈ (List.range n).drop k ↔ k ≤ i ∧ i < n := by
  rw [List.mem_iff_getElem?]
  constructor
  · rintro ⟨j, hj⟩
    rw [List.getElem?_drop] at hj
    by_cases h : k + j < n
    · rw [List.getElem?_range h] at hj; have := Option.some.inj hj; omega
    · rw [List.getElem?_eq_none (by rw [List.length_range]; omega)] at hj; cases hj
  · rintro ⟨h1, h2⟩
    refine ⟨i - k, ?_⟩
    rw [List.getElem?_drop, List.getElem?_range (by omega)]
    congr 1; omega
theorem foldl_mem {α : Type} {P : α → Prop} {f : α → Nat → α} : ∀ {l : List Nat} {a : α}, (∀ a i, i ∈ l → P a → P (f a i)) → P a → P (l.foldl f a) := by
  intro l
  induction l with
  | nil => intro a _ h0; exact h0
  | cons i l ih => intro a h h0; exact ih (fun a j hj => h a j (List.mem_cons_of_mem _ hj)) (h a i (List.mem_cons_self ..) h0)
theorem foldl_hit {α : Type} {P : α → Prop} {f : α → Nat → α} (hk : ∀ a i, P a → P (f a i)) {i : Nat} (hh : ∀ a, P (f a i)) : ∀ {l : List Nat} {a : α}, i ∈ l → P (l.foldl f a) := by
  intro l
  induction l with
  | nil => intro a h; cases h
  | cons j l ih =>
    intro a h
    rcases List.mem_cons.1 h with rfl | h
    · exact foldl_keep hk l _ (hh a)
    · exact ih h
section
variable {gs : List Int} {cs : List TN} {nm : Nat}
theorem srch_le (hcn : ∀ i j : Int, 0 ≤ costAt cs i j) {B : Int} : ∀ {r : Nat} {tk more : List Int} {cost : Int} {st : List Int × Int}, 0 ≤ cost → 0 ≤ st.2 ∧ st.2 ≤ B → 0 ≤ (srch gs cs nm r tk more cost st).2 ∧ (srch gs cs nm r tk more cost st).2 ≤ B := by
  intro r
  induction r with
  | zero =>
    intro tk more cost st h0 h
    rw [srch]
    split
    · exact h
    · dsimp only; omega
  | succ r ih =>
    intro tk more cost st h0 h
    rw [srch]
    split
    · exact h
    · refine foldl_keep (P := fun st : List Int × Int => 0 ≤ st.2 ∧ st.2 ≤ B) (fun st i h => ?_) _ _ h
      split
      · exact h
      · exact ih (by have := hcn (i : Int) (at0 gs tk.length); omega) h
theorem cand_nn (hcn : ∀ i j : Int, 0 ≤ costAt cs i j) : ∀ {r : Nat} {tk more fs : List Int} {c : Int}, Cand gs cs nm r tk more fs c → 0 ≤ c := by
  intro r
  induction r with
  | zero => intro tk more fs c h; unfold Cand at h; omega
  | succ r ih =>
    intro tk more fs c h
    unfold Cand at h
    obtain ⟨i, fs', c', _, _, _, _, h5, h6⟩ := h
    have := ih h6
    have := hcn (i : Int) (at0 gs tk.length)
    omega
theorem srch_best (hcn : ∀ i j : Int, 0 ≤ costAt cs i j) : ∀ {r : Nat} {tk more fs : List Int} {c cost : Int} {st : List Int × Int}, 0 ≤ cost → Cand gs cs nm r tk more fs c → 0 ≤ (srch gs cs nm r tk more cost st).2 ∧ (srch gs cs nm r tk more cost st).2 ≤ cost + c := by
  intro r
  induction r with
  | zero =>
    intro tk more fs c cost st h0 h
    unfold Cand at h
    rw [srch]
    split
    · omega
    · dsimp only; omega
  | succ r ih =>
    intro tk more fs c cost st h0 h
    have hc := cand_nn hcn h
    unfold Cand at h
    obtain ⟨i, fs', c', h1, h2, h3, h4, h5, h6⟩ := h
    rw [srch]
    split
    · omega
    · have hn := hcn (i : Int) (at0 gs tk.length)
      refine foldl_hit (P := fun st : List Int × Int => 0 ≤ st.2 ∧ st.2 ≤ cost + c) (i := i) (fun st j h => ?_) (fun st => ?_) (mem_drop_range.2 ⟨h1, h2⟩)
      · split
        · exact h
        · exact srch_le hcn (by have := hcn (j : Int) (at0 gs tk.length); omega) h
      · rw [if_neg h3]
        have h7 := ih (st := st) (show 0 ≤ cost + costAt cs (i : Int) (at0 gs tk.length) by omega) h6
        exact ⟨h7.1, by have := h7.2; omega⟩
theorem srch_from : ∀ {r : Nat} {tk more : List Int} {cost : Int} {st : List Int × Int}, srch gs cs nm r tk more cost st = st ∨ ∃ fs c, Cand gs cs nm r tk more fs c ∧ srch gs cs nm r tk more cost st = (tk ++ fs, cost + c) := by
  intro r
  induction r with
  | zero =>
    intro tk more cost st
    rw [srch]
    split
    · exact .inl rfl
    · exact .inr ⟨[], 0, ⟨rfl, rfl⟩, by simp⟩
  | succ r ih =>
    intro tk more cost st
    rw [srch]
    split
    · exact .inl rfl
    · refine foldl_mem (P := fun s : List Int × Int => s = st ∨ ∃ fs c, Cand gs cs nm (r + 1) tk more fs c ∧ s = (tk ++ fs, cost + c)) (fun s i hi h => ?_) (.inl rfl)
      obtain ⟨h1, h2⟩ := mem_drop_range.1 hi
      split
      · exact h
      · rename_i h3
        rcases ih (tk := tk ++ [(i : Int)]) (more := more.set i (at0 more i - 1)) (cost := cost + costAt cs (i : Int) (at0 gs tk.length)) (st := s) with e | ⟨fs, c, h4, e⟩
        · rw [e]; exact h
        · rw [e]
          refine .inr ⟨(i : Int) :: fs, costAt cs (i : Int) (at0 gs tk.length) + c, ⟨i, fs, c, h1, h2, h3, rfl, rfl, h4⟩, ?_⟩
          rw [List.append_assoc, Int.add_assoc]; rfl
/-- A sum over carriers and their aims. -/
def zW (g : Int → Int → Int) : List Int → List Int → Int
  | f :: fs, t :: ts => g f t + zW g fs ts
  | _, _ => 0
theorem drop_at0 {k : Nat} (h : k < gs.length) : gs.drop k = at0 gs k :: gs.drop (k + 1) := by
  rw [List.drop_eq_getElem_cons h]; unfold at0; rw [List.getElem?_eq_getElem h]; rfl
theorem cand_facts : ∀ {r : Nat} {tk more fs : List Int} {c : Int}, Cand gs cs nm r tk more fs c → tk.length + r = gs.length → more.length = nm → (∀ j : Nat, 0 ≤ dAt more j) →
    fs.length = r ∧ c = zW (costAt cs) fs (gs.drop tk.length) ∧ (∀ f ∈ fs, ∃ i : Nat, f = i ∧ i < nm ∧ 0 < dAt more i) ∧ ∀ j : Nat, zW (isA j) fs (gs.drop tk.length) ≤ dAt more j := by
  intro r
  induction r with
  | zero =>
    intro tk more fs c h hl _ hm
    unfold Cand at h
    obtain ⟨rfl, rfl⟩ := h
    refine ⟨rfl, ?_, fun f hf => (by cases hf), fun j => ?_⟩
    · rfl
    · rw [zW]; exact hm j
      all_goals simp
  | succ r ih =>
    intro tk more fs c h hl hml hm
    unfold Cand at h
    obtain ⟨i, fs', c', h1, h2, h3, rfl, rfl, h6⟩ := h
    have hz : 0 < dAt more i := by
      have h7 := hm i
      have h8 : dAt more i ≠ 0 := h3
      omega
    have hs : ∀ j : Nat, dAt (more.set i (at0 more i - 1)) j = if j = i then dAt more i - 1 else dAt more j := fun j => dAt_set (by omega) _ j
    obtain ⟨q1, q2, q3, q4⟩ := ih h6 (by simp; omega) (by rw [List.length_set]; exact hml) (fun j => by
      rw [hs]; split
      · omega
      · exact hm j)
    rw [List.length_append, List.length_singleton] at q2 q4
    have hd := drop_at0 (gs := gs) (k := tk.length) (by omega)
    rw [hd]
    refine ⟨by simp [q1], by rw [zW, ← q2], fun f hf => ?_, fun j => ?_⟩
    · rcases List.mem_cons.1 hf with rfl | hf
      · exact ⟨i, rfl, h2, hz⟩
      · obtain ⟨a, e, ha, hb⟩ := q3 f hf
        rw [hs] at hb
        refine ⟨a, e, ha, ?_⟩
        split at hb
        · rename_i e2; subst e2; exact hz
        · exact hb
    · rw [zW]
      have h9 := q4 j
      rw [hs] at h9
      unfold isA
      unfold isA at h9
      by_cases e : j = i
      · subst e; rw [if_pos rfl] at h9 ⊢; omega
      · rw [if_neg e] at h9; rw [if_neg (fun e2 : (i : Int) = j => e (by omega))]; omega
theorem zW_isA_nn (i : Int) : ∀ (fs ts : List Int), 0 ≤ zW (isA i) fs ts := by
  intro fs
  induction fs with
  | nil => intro ts; rw [zW]; exact Int.le_refl _; all_goals simp
  | cons f fs ih =>
    intro ts
    cases ts with
    | nil => rw [zW]; exact Int.le_refl _; all_goals simp
    | cons t ts =>
      rw [zW]
      have := isA_nn i f t
      have := ih ts
      omega
theorem at0_app {tk fs : List Int} {k : Nat} (h : k < tk.length) : at0 (tk ++ fs) k = at0 tk k := by unfold at0; rw [List.getElem?_append_left h]
theorem cand_of : ∀ {fs tk more : List Int}, tk.length + fs.length = gs.length → more.length = nm → (∀ f ∈ fs, 0 ≤ f ∧ f < nm) → (∀ k, 0 < k → k < gs.length → at0 gs (k - 1) = at0 gs k → at0 (tk ++ fs) (k - 1) ≤ at0 (tk ++ fs) k) → (∀ j : Nat, j < nm → zW (isA j) fs (gs.drop tk.length) ≤ dAt more j) →
    Cand gs cs nm fs.length tk more fs (zW (costAt cs) fs (gs.drop tk.length)) := by
  intro fs
  induction fs with
  | nil => intro tk more _ _ _ _ _; exact ⟨rfl, by rw [zW]; simp⟩
  | cons f fs ih =>
    intro tk more hl hml hr ho hc
    rw [List.length_cons] at hl
    have hd := drop_at0 (gs := gs) (k := tk.length) (by omega)
    rw [hd] at hc ⊢
    obtain ⟨i, ei⟩ : ∃ i : Nat, f = (i : Int) := ⟨f.toNat, by have := hr f (List.mem_cons_self ..); omega⟩
    have hi : i < nm := by have := hr f (List.mem_cons_self ..); omega
    subst ei
    have hz : 1 ≤ dAt more i := by
      have h1 := hc i hi
      rw [zW] at h1
      have h2 := zW_isA_nn i fs (gs.drop (tk.length + 1))
      have h3 : isA (i : Int) (i : Int) (at0 gs tk.length) = 1 := if_pos rfl
      omega
    refine ⟨i, fs, zW (costAt cs) fs (gs.drop (tk.length + 1)), ?_, hi, (by show dAt more i ≠ 0; omega), rfl, by rw [zW], ?_⟩
    · unfold firstOf
      split
      · rename_i h1
        have h2 := ho tk.length h1.1 (by omega) h1.2
        rw [at0_app (by omega)] at h2
        have h3 : at0 (tk ++ (i : Int) :: fs) tk.length = i := by unfold at0; rw [List.getElem?_append_right (Nat.le_refl _), Nat.sub_self]; rfl
        omega
      · exact Nat.zero_le _
    · have h1 := ih (tk := tk ++ [(i : Int)]) (more := more.set i (at0 more i - 1)) (by simp; omega) (by rw [List.length_set]; exact hml) (fun f hf => hr f (List.mem_cons_of_mem _ hf)) (fun k h1 h2 h3 => by
        have h4 := ho k h1 h2 h3
        rw [List.append_assoc]; exact h4) (fun j hj => by
        rw [List.length_append, List.length_singleton]
        have h4 := hc j hj
        rw [zW] at h4
        have h5 : dAt (more.set i (at0 more i - 1)) j = if j = i then at0 more i - 1 else dAt more j := dAt_set (by omega) _ j
        rw [h5]
        by_cases e : j = i
        · subst e
          rw [if_pos rfl]
          have h6 : isA (j : Int) (j : Int) (at0 gs tk.length) = 1 := if_pos rfl
          have h7 : at0 more j = dAt more j := rfl
          omega
        · rw [if_neg e]
          have h6 := isA_nn (j : Int) (i : Int) (at0 gs tk.length)
          omega)
      rw [List.length_append, List.length_singleton] at h1
      exact h1
end
/-- What a list of carriers becomes as moves. -/
theorem wM_push (g : Int → Int → Int) {acc : List T3} {f t : Int} : wM g (mvPush acc f t) = wM g acc + g f t := by
  cases hb : sameB acc f t with
  | false => rw [sameB_no hb, wM_snoc]; dsimp only; omega
  | true =>
    unfold sameB at hb
    cases hm : acc[acc.length - 1]? with
    | none => rw [hm] at hb; cases hb
    | some m =>
      rw [hm] at hb
      have hab := of_decide_eq_true hb
      rw [mvPush_same hm hab]
      rcases List.eq_nil_or_concat acc with rfl | ⟨pre, x, rfl⟩
      · cases hm
      · rw [List.concat_eq_append] at hm ⊢
        have hx : m = x := by
          rw [List.length_append, List.length_singleton, List.getElem?_append_right (by omega)] at hm
          simpa using hm.symm
        subst hx
        rw [List.length_append, List.length_singleton, List.set_append_right _ _ (by omega)]
        rw [show pre.length + 1 - 1 - pre.length = 0 by omega, List.set_cons_zero, wM_snoc, wM_snoc]
        dsimp only
        rw [Int.add_mul, hab.1, hab.2]; omega
theorem wM_mvGo (g : Int → Int → Int) : ∀ {fs ts : List Int} {acc : List T3}, wM g (mvGo acc fs ts) = wM g acc + zW g fs ts := by
  intro fs
  induction fs with
  | nil => intro ts acc; rw [mvGo, zW]; omega; all_goals simp
  | cons f fs ih =>
    intro ts acc
    cases ts with
    | nil => rw [mvGo, zW]; omega; all_goals simp
    | cons t ts => rw [mvGo, zW, ih, wM_push]; omega
/-- A move between stations, of at most k carriers. -/
def MvB (n k : Nat) (m : T3) : Prop := (0 ≤ m.a ∧ m.a < n) ∧ (0 ≤ m.b ∧ m.b < n) ∧ m.a ≠ m.b ∧ 1 ≤ m.c ∧ m.c ≤ k
theorem MvB.up {n k : Nat} {m : T3} (h : MvB n k m) : MvB n (k + 1) m := by unfold MvB at *; omega
theorem push_ok {n k : Nat} {acc : List T3} {f t : Int} (h : ∀ m ∈ acc, MvB n k m) (hf : 0 ≤ f ∧ f < n) (ht : 0 ≤ t ∧ t < n) (hne : f ≠ t) (hl : acc.length ≤ k) : (∀ m ∈ mvPush acc f t, MvB n (k + 1) m) ∧ (mvPush acc f t).length ≤ k + 1 := by
  cases hb : sameB acc f t with
  | false =>
    rw [sameB_no hb]
    refine ⟨fun m hm => ?_, by simp; omega⟩
    rcases List.mem_append.1 hm with hm | hm
    · exact (h m hm).up
    · rw [List.mem_singleton] at hm; subst hm; exact ⟨hf, ht, hne, by dsimp only; omega⟩
  | true =>
    obtain ⟨m, hm, e⟩ := sameB_yes hb
    rw [e]
    refine ⟨fun x hx => ?_, by rw [List.length_set]; omega⟩
    rcases List.mem_or_eq_of_mem_set hx with hx | rfl
    · exact (h x hx).up
    · have h1 := h m (List.mem_of_getElem? hm)
      unfold MvB at *; dsimp only; omega
theorem go_ok {n : Nat} : ∀ {fs ts : List Int} {k : Nat} {acc : List T3}, fs.length = ts.length → (∀ m ∈ acc, MvB n k m) → acc.length ≤ k → (∀ f ∈ fs, 0 ≤ f ∧ f < n) → (∀ t ∈ ts, 0 ≤ t ∧ t < n) → (∀ f ∈ fs, ∀ t ∈ ts, f ≠ t) → (∀ m ∈ mvGo acc fs ts, MvB n (k + fs.length) m) ∧ (mvGo acc fs ts).length ≤ k + fs.length := by
  intro fs
  induction fs with
  | nil => intro ts k acc hl h hk _ _ _; cases ts with
    | nil => exact ⟨h, hk⟩
    | cons t ts => simp at hl
  | cons f fs ih =>
    intro ts k acc hl h hk hf ht hne
    cases ts with
    | nil => simp at hl
    | cons t ts =>
      rw [mvGo]
      obtain ⟨h1, h2⟩ := push_ok h (hf f (List.mem_cons_self ..)) (ht t (List.mem_cons_self ..)) (hne f (List.mem_cons_self ..) t (List.mem_cons_self ..)) hk
      have h3 := ih (k := k + 1) (by simpa using hl) h1 h2 (fun x hx => hf x (List.mem_cons_of_mem _ hx)) (fun x hx => ht x (List.mem_cons_of_mem _ hx)) (fun x hx y hy => hne x (List.mem_cons_of_mem _ hx) y (List.mem_cons_of_mem _ hy))
      rw [List.length_cons, show k + (fs.length + 1) = k + 1 + fs.length by omega]
      exact h3
theorem coGo_wM {cs : List TN} : ∀ {ms : List T3} {s : Int}, coGo cs ms s = s + wM (costAt cs) ms := by
  intro ms
  induction ms with
  | nil => intro s; rw [coGo, wM]; omega
  | cons m ms ih => intro s; rw [coGo, ih, wM]; omega
theorem goalsGo_mem : ∀ {l : List Int} {k : Nat} {t : Int}, t ∈ goalsGo k l → ∃ j : Nat, t = ((k + j : Nat) : Int) ∧ j < l.length ∧ 0 < dAt l j := by
  intro l
  induction l with
  | nil => intro k t h; simp [goalsGo] at h
  | cons n l ih =>
    intro k t h
    rw [goalsGo] at h
    rcases List.mem_append.1 h with h | h
    · obtain ⟨h1, h2⟩ := List.mem_replicate.1 h
      exact ⟨0, by omega, by simp, by show 0 < n; omega⟩
    · obtain ⟨j, h1, h2, h3⟩ := ih h
      exact ⟨j + 1, by omega, by simpa using h2, by simpa [dAt] using h3⟩
def cnB (j : Int) : List Int → Int
  | [] => 0
  | t :: ts => (if t = j then 1 else 0) + cnB j ts
theorem cnB_app (j : Int) : ∀ (xs ys : List Int), cnB j (xs ++ ys) = cnB j xs + cnB j ys := by
  intro xs ys
  induction xs with
  | nil => simp [cnB]
  | cons x xs ih => rw [List.cons_append, cnB, cnB, ih]; omega
theorem cnB_rep (j k : Int) : ∀ (n : Nat), cnB j (List.replicate n k) = if k = j then (n : Int) else 0 := by
  intro n
  induction n with
  | zero => simp [cnB]
  | succ n ih => rw [List.replicate_succ, cnB, ih]; split <;> omega
theorem zW_isB (j : Int) : ∀ {fs ts : List Int}, fs.length = ts.length → zW (isB j) fs ts = cnB j ts := by
  intro fs
  induction fs with
  | nil => intro ts h; cases ts with
    | nil => rfl
    | cons t ts => simp at h
  | cons f fs ih => intro ts h; cases ts with
    | nil => simp at h
    | cons t ts => rw [zW, cnB, ih (by simpa using h)]; rfl
theorem cnB_goals : ∀ {l : List Int} {k j : Nat}, (∀ z ∈ l, 0 ≤ z) → cnB (j : Int) (goalsGo k l) = if k ≤ j then dAt l (j - k) else 0 := by
  intro l
  induction l with
  | nil => intro k j _; rw [goalsGo, cnB]; simp [dAt]
  | cons n l ih =>
    intro k j h
    have hn := h n (List.mem_cons_self ..)
    rw [goalsGo, cnB_app, cnB_rep, ih fun z hz => h z (List.mem_cons_of_mem _ hz)]
    by_cases h1 : k = j
    · subst h1
      rw [if_pos rfl, if_neg (by omega), if_pos (Nat.le_refl _), Nat.sub_self]
      show _ = n
      omega
    · rw [if_neg (by omega)]
      by_cases h2 : k ≤ j
      · rw [if_pos (by omega), if_pos h2, show j - k = (j - (k + 1)) + 1 by omega]
        simp [dAt]
      · rw [if_neg (by omega), if_neg h2]; rfl
end Go.Proofs.Ytklfjekpeoigoaa
namespace Go.Proofs.Ytklfjekpeoigoaa
open Go.RowKit

theorem zW_app (g : Int → Int → Int) : ∀ {fs ts : List Int} {fs2 ts2 : List Int}, fs.length = ts.length → zW g (fs ++ fs2) (ts ++ ts2) = zW g fs ts + zW g fs2 ts2 := by
  intro fs
  induction fs with
  | nil => intro ts fs2 ts2 h; cases ts with
    | nil => show _ = 0 + _; simp
    | cons t ts => simp at h
  | cons f fs ih => intro ts fs2 ts2 h; cases ts with
    | nil => simp at h
    | cons t ts => rw [List.cons_append, List.cons_append, zW, zW, ih (by simpa using h)]; omega
theorem zW_rep (g : Int → Int → Int) (a b : Int) : ∀ (n : Nat), zW g (List.replicate n a) (List.replicate n b) = n * g a b := by
  intro n
  induction n with
  | zero => show (0 : Int) = _; simp
  | succ n ih =>
    rw [List.replicate_succ, List.replicate_succ, zW, ih, show ((n + 1 : Nat) : Int) = (n : Int) + 1 by omega, Int.add_mul]; omega
theorem fl_len : ∀ (out : List T3), (flA out).length = (flB out).length := by
  intro out
  induction out with
  | nil => rfl
  | cons m out ih =>
    unfold flA flB at *
    rw [List.flatMap_cons, List.flatMap_cons, List.length_append, List.length_append, ih, List.length_replicate, List.length_replicate]
theorem zW_fl (g : Int → Int → Int) : ∀ {out : List T3}, (∀ m ∈ out, 0 ≤ m.c) → zW g (flA out) (flB out) = wM g out := by
  intro out
  induction out with
  | nil => intro _; rfl
  | cons m out ih =>
    intro h
    have h1 := ih fun x hx => h x (List.mem_cons_of_mem _ hx)
    have h2 := h m (List.mem_cons_self ..)
    rw [wM, ← h1]
    unfold flA flB
    rw [List.flatMap_cons, List.flatMap_cons, zW_app g (by simp), zW_rep, Int.toNat_of_nonneg h2]
def pl (out : List T3) : List (Int × Int) := out.flatMap fun m => List.replicate m.c.toNat (m.a, m.b)
theorem pl_A (out : List T3) : flA out = (pl out).map Prod.fst := by
  unfold flA pl
  rw [List.map_flatMap]
  simp
theorem pl_B (out : List T3) : flB out = (pl out).map Prod.snd := by
  unfold flB pl
  rw [List.map_flatMap]
  simp
theorem pl_order {out : List T3} (h : out.Pairwise fun x y => x.b < y.b ∨ (x.b = y.b ∧ x.a < y.a)) : (pl out).Pairwise fun x y => x.2 < y.2 ∨ (x.2 = y.2 ∧ x.1 ≤ y.1) := by
  unfold pl
  rw [List.pairwise_flatMap]
  refine ⟨fun m _ => List.pairwise_replicate.2 (.inr (.inr ⟨rfl, Int.le_refl _⟩)), h.imp fun {p q} hpq x hx y hy => ?_⟩
  rw [(List.mem_replicate.1 hx).2, (List.mem_replicate.1 hy).2]
  dsimp only
  omega
theorem fl_order {out : List T3} (h : out.Pairwise fun x y => x.b < y.b ∨ (x.b = y.b ∧ x.a < y.a)) {k : Nat} (h0 : 0 < k) (hk : k < (flB out).length) (e : at0 (flB out) (k - 1) = at0 (flB out) k) : at0 (flA out) (k - 1) ≤ at0 (flA out) k := by
  rw [pl_B] at hk e
  rw [pl_A]
  rw [List.length_map] at hk
  have h1 := List.pairwise_iff_getElem.1 (pl_order h) (k - 1) k (by omega) hk (by omega)
  have hg : ∀ (f : Int × Int → Int) (j : Nat) (hj : j < (pl out).length), at0 ((pl out).map f) j = f (pl out)[j] := fun f j hj => by unfold at0; rw [List.getElem?_map, List.getElem?_eq_getElem hj]; rfl
  rw [hg _ _ (by omega), hg _ _ hk] at e
  rw [hg _ _ (by omega), hg _ _ hk]
  omega
theorem costAt_nn {cs : List TN} (h : ∀ e ∈ cs, ∀ z ∈ e.way, 0 ≤ z) (i j : Int) : 0 ≤ costAt cs i j := by
  unfold costAt
  cases hi : cs[i.toNat]? with
  | none => simp
  | some e =>
    cases hj : e.way[j.toNat]? with
    | none => simp [hj]
    | some z =>
      simp [hj]
      exact h e (List.mem_of_getElem? hi) z (List.mem_of_getElem? hj)
theorem best_ok {st wa : List Int} {cs : List TN} (h : (bestMoves st wa cs).2 = 0) : codeWa st wa = 0 ∧ vCosts st.length cs = true ∧ wa.sum ≤ st.sum ∧ (shGo st wa).sum ≤ 6 ∧ (bestMoves st wa cs).1 = (mvGo [] (srch (goalsGo 0 (shGo st wa)) cs st.length (goalsGo 0 (shGo st wa)).length [] (moGo st wa) 0 ([], -1)).1 (goalsGo 0 (shGo st wa)), (srch (goalsGo 0 (shGo st wa)) cs st.length (goalsGo 0 (shGo st wa)).length [] (moGo st wa) 0 ([], -1)).2) := by
  unfold bestMoves at h ⊢
  by_cases h1 : codeWa st wa = 0
  · rw [if_neg (by omega)] at h ⊢
    by_cases h2 : vCosts st.length cs = false
    · rw [if_pos h2] at h; cases h
    · rw [if_neg h2] at h ⊢
      by_cases h3 : st.sum < wa.sum
      · rw [if_pos h3] at h; cases h
      · rw [if_neg h3] at h ⊢
        by_cases h4 : 6 < (shGo st wa).sum
        · rw [if_pos h4] at h; cases h
        · rw [if_neg h4]
          exact ⟨h1, by simpa using h2, by omega, by omega, rfl⟩
  · rw [if_pos h1] at h; exact (h1 h).elim
theorem costOf_ok {st : List Int} {cs : List TN} {ms : List T3} (hs2 : 2 ≤ st.length) (hs3 : st.length ≤ 10) (hc : vCosts st.length cs = true) (hm : ∀ m ∈ ms, Mv st.length m) (h40 : ms.length ≤ 40) : costOfMoves ms cs = (wM (costAt cs) ms, 0) := by
  have hl : (cs.length : Int) = st.length := (vCosts_iff.1 hc).1
  unfold costOfMoves
  rw [if_pos ⟨by simp [inB]; omega, by rw [hl]; exact hc⟩, if_pos (vMoves_iff.2 ⟨fun m hx => by rw [hl]; exact (hm m hx).ok, h40⟩), coGo_wM, Int.zero_add]
theorem best_law {st wa : List Int} {cs : List TN} (h : (bestMoves st wa cs).2 = 0) :
    ((sendAll st (bestMoves st wa cs).1.1).2 = (-1, 0) ∧ (sendAll st (bestMoves st wa cs).1.1).1.length = wa.length ∧ ∀ i : Nat, i < wa.length → dAt wa i ≤ dAt (sendAll st (bestMoves st wa cs).1.1).1 i) ∧ costOfMoves (bestMoves st wa cs).1.1 cs = ((bestMoves st wa cs).1.2, 0) ∧
    (movesBack st wa).2 = 0 ∧ (costOfMoves (movesBack st wa).1 cs).2 = 0 ∧ (bestMoves st wa cs).1.2 ≤ (costOfMoves (movesBack st wa).1 cs).1 := by
  obtain ⟨h1, h2, h3, h4, h5⟩ := best_ok h
  rw [h5]
  dsimp only
  obtain ⟨hv, hl, hw⟩ := codeWa_ok h1
  obtain ⟨⟨hs0, hs1⟩, hs2, hs3⟩ := stOk_of hv
  have I := mb_all h1 h3
  have hmb : movesBack st wa = ((mbOut st.length 0 (deltas st wa, [])).2, 0) := by unfold movesBack; rw [if_pos h1, if_neg (by omega)]
  rw [hmb]
  dsimp only
  generalize hO : (mbOut st.length 0 (deltas st wa, [])).2 = out0 at I ⊢
  generalize hD : (mbOut st.length 0 (deltas st wa, [])).1 = D0 at I
  clear hO hD hmb
  have hshl := shGo_len hl
  have hmol := moGo_len hl
  have hsn : ∀ z ∈ shGo st wa, 0 ≤ z := sh_nn
  have hB : flB out0 = goalsGo 0 (shGo st wa) := by
    have h6 := I.goals
    rw [wB_zero (fun m hm => by have := (I.mv m hm).2.1; omega), List.take_of_length_le (by omega)] at h6
    simpa using h6
  have hGl : ((goalsGo 0 (shGo st wa)).length : Int) = (shGo st wa).sum := goalsGo_len hsn
  have hGb := goalsGo_bd (l := shGo st wa) (k := 0)
  have hGm : ∀ t ∈ goalsGo 0 (shGo st wa), ∃ j : Nat, t = (j : Int) ∧ j < st.length ∧ 0 < dAt (shGo st wa) j := fun t ht => by
    obtain ⟨j, e, hj, hz⟩ := goalsGo_mem ht
    exact ⟨j, by omega, by omega, hz⟩
  have hGc : ∀ j : Nat, cnB (j : Int) (goalsGo 0 (shGo st wa)) = dAt (shGo st wa) j := fun j => by
    rw [cnB_goals hsn, if_pos (Nat.zero_le _), Nat.sub_zero]
  have hsh : ∀ i, i < st.length → dAt (shGo st wa) i = max 0 (-(dAt (deltas st wa) i)) := fun i hi => sh_at hl hi
  have hmo : ∀ i, i < st.length → dAt (moGo st wa) i = max 0 (dAt (deltas st wa) i) := fun i hi => mo_at hl hi
  have hmo0 : ∀ i : Nat, 0 ≤ dAt (moGo st wa) i := fun i => by
    by_cases hi : i < st.length
    · rw [hmo i hi]; omega
    · unfold dAt; rw [List.getElem?_eq_none (by omega)]; exact Int.le_refl _
  have hde : ∀ i, i < st.length → dAt (deltas st wa) i = dAt st i - dAt wa i := fun i hi => de_at hl hi
  generalize goalsGo 0 (shGo st wa) = G at hB hGl hGb hGm hGc ⊢
  have hcn : ∀ i j : Int, 0 ≤ costAt cs i j := costAt_nn fun e he z hz => ((((vCosts_iff.1 h2).2) e he).2 z hz).1
  have hc0 : ∀ m ∈ out0, 0 ≤ m.c := fun m hm => by have := (I.mv m hm).2.2.2.1; omega
  have C := cand_of (gs := G) (cs := cs) (nm := st.length) (fs := flA out0) (tk := []) (more := moGo st wa) (by rw [fl_len, hB]; simp) hmol (fun f hf => by
      unfold flA at hf
      obtain ⟨m, hm, hf⟩ := List.mem_flatMap.1 hf
      rw [(List.mem_replicate.1 hf).2]
      exact (I.mv m hm).1) (fun k h6 h7 h8 => by
      rw [← hB] at h7 h8
      exact fl_order I.lex h6 h7 h8) (fun j hj => by
      show zW (isA j) (flA out0) (G.drop 0) ≤ _
      rw [List.drop_zero, ← hB, zW_fl _ hc0, hmo j hj]
      have hp := I.per j hj
      by_cases e : 0 ≤ dAt (deltas st wa) j
      · have := hp.1 e; omega
      · have := hp.2 (by omega); omega)
  rw [List.length_nil, List.drop_zero] at C
  have hdear : zW (costAt cs) (flA out0) G = wM (costAt cs) out0 := by rw [← hB, zW_fl _ hc0]
  rw [hdear, fl_len, hB] at C
  have hB0 := srch_best hcn (st := ([], -1)) (cost := 0) (Int.le_refl _) C
  have hF := srch_from (gs := G) (cs := cs) (nm := st.length) (r := G.length) (tk := []) (more := moGo st wa) (cost := 0) (st := ([], -1))
  generalize srch G cs st.length G.length [] (moGo st wa) 0 ([], -1) = s at hB0 hF ⊢
  rcases hF with rfl | ⟨fs, c, hC, rfl⟩
  · exact absurd hB0.1 (by decide)
  dsimp only at hB0 ⊢
  rw [List.nil_append, Int.zero_add] at *
  obtain ⟨q1, q2, q3, q4⟩ := cand_facts hC (by simp) hmol hmo0
  rw [List.length_nil, List.drop_zero] at q2 q4
  obtain ⟨g1, g2⟩ := go_ok (n := st.length) (fs := fs) (ts := G) (k := 0) (acc := []) q1 (fun m hm => by cases hm) (Nat.le_refl _) (fun f hf => by obtain ⟨i, e, hi, _⟩ := q3 f hf; omega) (fun t ht => by obtain ⟨j, e, hj, _⟩ := hGm t ht; omega) (fun f hf t ht e => by
    obtain ⟨i, e1, hi, hz⟩ := q3 f hf
    obtain ⟨j, e2, hj, hy⟩ := hGm t ht
    have : i = j := by omega
    subst this
    rw [hmo i hi] at hz
    rw [hsh i hi] at hy
    omega)
  have hmv : ∀ m ∈ mvGo [] fs G, Mv st.length m := fun m hm => by
    obtain ⟨a1, a2, a3, a4, a5⟩ := g1 m hm
    exact ⟨a1, a2, a3, a4, by omega⟩
  have hA : ∀ i : Nat, wM (isA i) (mvGo [] fs G) ≤ dAt (moGo st wa) i := fun i => by rw [wM_mvGo, wM, Int.zero_add]; exact q4 i
  have hBB : ∀ i : Nat, wM (isB i) (mvGo [] fs G) = dAt (shGo st wa) i := fun i => by rw [wM_mvGo, wM, Int.zero_add, zW_isB _ q1]; exact hGc i
  have hst0 : ∀ i, i < st.length → 0 ≤ dAt st i := fun i hi => dAt_mem (P := fun z => 0 ≤ z) hs0 hi
  have hwa0 : ∀ i, i < st.length → 0 ≤ dAt wa i := fun i hi => (dAt_mem (P := fun z => 0 ≤ z ∧ z ≤ 200) hw (i := i) (by omega)).1
  have hz := (nz_bd D0).1
  have hcnt := I.cnt
  refine ⟨send_law hv hl hmv (by omega) (fun i hi => ?_) (fun i hi => ?_), ?_, ?_⟩
  · have h6 := hA i
    have h7 := hst0 i hi
    have h8 := hwa0 i hi
    rw [hmo i hi, hde i hi] at h6
    omega
  · have h6 := hA i
    rw [hmo i hi, hde i hi] at h6
    rw [hBB i, hsh i hi, hde i hi]
    have h9 := wM_nn (g := isA i) (isA_nn i) hmv
    omega
  · rw [costOf_ok hs2 hs3 h2 hmv (by omega), wM_mvGo, wM, Int.zero_add, ← q2]
  · rw [costOf_ok hs2 hs3 h2 I.mv (by omega)]
    exact ⟨rfl, rfl, by have := hB0.2; dsimp only; omega⟩
end Go.Proofs.Ytklfjekpeoigoaa
namespace Go.Proofs.Ytklfjekpeoigoaa
open Go.RowKit
set_option maxRecDepth 100000 in
set_option maxHeartbeats 4000000 in
theorem drawWants_any (b : Nat) (bs : List Int) (N : Int) (n : Nat) (A0 : Option Addr) (c0 : Nat) (w : World) (hbs : BsOk bs) (hN : N ≤ 1099509000000) (hn : 1 ≤ n) (hn11 : n ≤ 11) (h : SrcAt b bs N w) :
    Calls Try.prog 132 #[.pointer (some ⟨b, 0, none⟩), .slice A0 n c0] w fun e w' => ∃ (A : Option Addr) (c : Nat) (l : List Int), e = .returned (.slice A l.length c) ∧ (∀ W, Only b (b + 1) w' W → RdI W W.heap.size A l) ∧ (l.length ≤ 11 ∧ ∀ z ∈ l, -1 ≤ z ∧ z ≤ 201) ∧ SrcAt b bs (N + 60) w' ∧ Only b (b + 1) w w' := by
  obtain ⟨i0, hi0, hz0, hs0, hb0⟩ := info_parts int64_info
  have hbl := h.lt
  have HP := hide fun M n W (hM : M ≤ 1099511000000) (hW : SrcAt b bs M W) => pick_any b bs M n W hbs hM hW
  have HAM := hide fun M g o c xs W (hM : M ≤ 1099511000000) (hW : SrcAt b bs M W) => among_any b bs M g o c xs W hbs hM hW
  have h1 := hide (h.alloc (.cells #[] 2))
  clear h
  go_enter Try.func132, Try.ntmps132
  go_wp2_with fail
  have hr0 : (w.alloc (.cells #[] 2)).ownsRow w.heap.size 2 1 (.slice (some ⟨w.heap.size, 0, none⟩) 0 0) 0 (([] : List Int).map (Value.int .i64)) := own_new0 w w.heap.size 2 1 (Nat.le_refl _)
  have o0 : Only b (b + 1) w (w.alloc (.cells #[] 2)) := only_of_below ((Below.refl _ _).alloc (Nat.le_refl _) _)
  go_loopg [5, 6] n (fun g s i wr => ∃ (m : Nat) (acc : List Int), m ≤ n ∧ Hid (g = n - m) ∧ i = .int .i64 m ∧ Hid (acc.length = m) ∧ wr.ownsRow w.heap.size 2 1 s m (acc.map (Value.int .i64)) ∧ Hid (∀ z ∈ acc, 0 ≤ z ∧ z ≤ 4) ∧ Hid (SrcAt b bs (N + 2 * (m : Int)) wr) ∧ Hid (Only b (b + 1) w wr))
  case atStart => exact ⟨0, [], by omega, by simp [Hid], rfl, rfl, hr0, by simp [Hid], h1.out.more (by omega), o0⟩
  case round =>
    obtain ⟨m, acc, hm, hgm, rfl, hal, hown, HA, HS, HO⟩ := hrel
    clear hr0 o0 h1
    have hzw := HO.out.size
    by_cases hmt : m < n
    · have HC := hide (HP.out (N + 2 * (m : Int)) 5 _ (by omega) HS.out)
      go_wp2_with (first | (go_at_call 134; (with_reducible refine (HC.out).mono ?_); rintro e w2 ⟨y, rfl, ⟨hy0, hy1', _⟩, hs2, ho2⟩; have hy1 := hy1' (by omega); have hr2 := row_only hown ho2 (by omega); have oo2 := only_trans HO.out ho2; have hz2 := ho2.size) | (at_builtin; go_must (refine wp_app _ rfl _ _ 22 rfl (w.heap.size) 2 i0 (.int .i64 0) 1 8 Try.underlying22 hi0 hz0 hs0 hb0 rfl (by decide) _ _ _ rfl (hr2.alloc _) _ _ 1 1 [.int .i64 y] rfl rfl (rd_new _ _ _ _ (by first | rfl | simp)) (int_one _) (by omega) (by decide) (by first | omega | (simp <;> omega) | (simp; omega)) ?_); intro v4 w4 hown4 hgrow4 hat4))
      have oA := hr2.alloc (.cells #[.int .i64 y] 2)
      have o4 := only_app (only_alloc oo2 (.cells #[.int .i64 y] 2)) oA hgrow4 (Nat.le_refl _)
      have s4 := (hs2.alloc (.cells #[.int .i64 y] 2)).grown hgrow4 (fun g e => by have := (oA.lt g e).1; omega)
      go_roundg (n - (m + 1))
      case measure => have := hgm.out; omega
      case rel =>
        refine ⟨m + 1, acc ++ [y], by omega, rfl, by go_num, ?_, by rw [List.map_append]; exact hown4, ?_, s4.more (by omega), o4⟩
        · have := hal.out; unfold Hid; rw [List.length_append, this]; rfl
        · intro z hz
          rcases List.mem_append.1 hz with hz | hz
          · exact HA.out z hz
          · rw [List.mem_singleton] at hz; subst hz; omega
    · obtain rfl : m = n := by omega
      obtain ⟨A3, c3, hsh, hc3, _⟩ := own_shape hown
      subst hsh
      obtain ⟨gb, rfl, hgb0, hgb⟩ := own_posN' hown (by omega)
      have HROW := hide hown
      have HC := hide (HP.out (N + 2 * (m : Int)) 16 _ (by omega) HS.out)
      obtain ⟨y0, rest, rfl⟩ : ∃ y0 rest, acc = y0 :: rest := by
        cases acc with
        | nil => have := hal.out; simp at this; omega
        | cons y r => exact ⟨y, r, rfl⟩
      have hrl : rest.length + 1 = m := by have := hal.out; simpa using this
      have HRL := hide hrl
      clear hown HS hal hrl
      go_upto_if 21 with (go_at_call 134; (with_reducible refine (HC.out).mono ?_); rintro e w2 ⟨v, rfl, _, hs2, ho2⟩)
      have HR2 := hide (row_only HROW.out ho2 (by omega))
      have HS2 := hide hs2
      have HO2 := hide (only_trans HO.out ho2)
      have hz2 := ho2.size
      have hg2 := (HR2.out.lt gb rfl).2
      clear hs2 ho2 HC HROW HO
      by_cases hv0 : v = 0
      · subst hv0
        have HS4 := hide (HS2.out.alloc (.cells #[.int .i64 (-1), .int .i64 0, .int .i64 200, .int .i64 201] 2))
        have HR4 := hide (HR2.out.alloc (.cells #[.int .i64 (-1), .int .i64 0, .int .i64 200, .int .i64 201] 2))
        have HO4 := hide (only_alloc HO2.out (.cells #[.int .i64 (-1), .int .i64 0, .int .i64 200, .int .i64 201] 2))
        have ham : Calls Try.prog 150 #[.pointer (some ⟨b, 0, none⟩), .slice (some ⟨w2.heap.size, 0, none⟩) 4 4] (w2.alloc (.cells #[.int .i64 (-1), .int .i64 0, .int .i64 200, .int .i64 201] 2)) fun e w' => ∃ z, e = .returned (.int .i64 z) ∧ z ∈ ([(-1), 0, 200, 201] : List Int) ∧ SrcAt b bs (N + 2 * (m : Int) + 2 + 2) w' ∧ Only b (b + 1) (w2.alloc (.cells #[.int .i64 (-1), .int .i64 0, .int .i64 200, .int .i64 201] 2)) w' := HAM.out (N + 2 * (m : Int) + 2) w2.heap.size 0 4 ([(-1), 0, 200, 201] : List Int) _ (by omega) HS4.out (by omega) (by simp) (by simp) (by simp) (fun j z hj => by
            match j, hj with
            | 0, hj => simp at hj; subst hj; simp [go_sem]
            | 1, hj => simp at hj; subst hj; simp [go_sem]
            | 2, hj => simp at hj; subst hj; simp [go_sem]
            | 3, hj => simp at hj; subst hj; simp [go_sem]
            | j + 4, hj => simp at hj)
        have HAMH := hide ham
        clear ham
        go_wp2_with (go_at_call 150; (with_reducible refine (HAMH.out).mono ?_); rintro e w4 ⟨z, rfl, hz, hs4, ho4⟩; have HR5 := hide (row_only HR4.out ho4 (by omega)); have c5 : w4.cell? ⟨gb, 0, none⟩ = some (.int .i64 y0) := (by rw [HR5.out.cellAt 0 (by omega)]; rfl); have f5 := HR5.out.frozenAt 0; have HST := hide (HR5.out.stored 0 (.int .i64 z)))
        go_ret
        have hzb : -1 ≤ z ∧ z ≤ 201 := by simp at hz; omega
        have hml : (z :: rest).length = m := by have := HRL.out; simpa using this
        have hrow : (w4.setCell ⟨gb, 0, none⟩ (.int .i64 z)).ownsRow w.heap.size 2 1 (.slice (some ⟨gb, 0, none⟩) m c3) m ((z :: rest).map (Value.int .i64)) := HST.out.1
        refine ⟨some ⟨gb, 0, none⟩, c3, z :: rest, by rw [hml]; rfl, fun W hW => RdI.of_own (row_only hrow hW (by omega)), ⟨by omega, fun u hu => ?_⟩, (hs4.grown HST.out.2 (fun g h => by have h0 : (some gb : Option Nat) = some g := h; have h1 := Option.some.inj h0; omega)).more (by omega), only_grown (only_trans HO4.out ho4) HST.out.2 (fun g h => by have h0 : (some gb : Option Nat) = some g := h; have h1 := Option.some.inj h0; omega)⟩
        rcases List.mem_cons.1 hu with rfl | hu
        · exact hzb
        · have := HA.out u (List.mem_cons_of_mem _ hu); omega
      · have hB0 : (v == 0) = false := by simp [hv0]
        have HV := hide hv0
        clear hv0
        by_cases hv1 : v = 1
        · subst hv1
          by_cases hc1 : c3 = 1
          · subst hc1
            have hm1 : m = 1 := by have := hc3; omega
            subst hm1
            have hr0 : rest = [] := by have := HRL.out; exact List.length_eq_zero_iff.1 (by omega)
            subst hr0
            go_wp2_with fail
            go_ret
            exact ⟨_, _, [], rfl, fun W hW => Rd.nil _ _ _, ⟨by simp, fun u hu => by cases hu⟩, HS2.out.more (by omega), HO2.out⟩
          · have hc4 : 1 < c3 := by have := hc3; omega
            have hne1 : (c3 = 1) = False := by simp [hc1]
            go_wp2_with fail
            go_ret
            refine ⟨some ⟨gb, 0 + 1, none⟩, c3 - 1, rest, by rw [← HRL.out]; simp [hc1], fun W hW => ?_, ⟨by have := HRL.out; omega, fun u hu => by have := HA.out u (List.mem_cons_of_mem _ hu); omega⟩, HS2.out.more (by omega), HO2.out⟩
            have h := RdI.drop (Rd.of_own (row_only HR2.out hW (by omega))) 1
            exact h
        · have hB1 : (v == 1) = false := by simp [hv1]
          have HV1 := hide hv1
          clear hv1
          go_wp2_with fail
          go_ret
          have hml : (y0 :: rest).length = m := by have := HRL.out; simpa using this
          exact ⟨some ⟨gb, 0, none⟩, c3, y0 :: rest, by rw [hml]; rfl, fun W hW => RdI.of_own (row_only HR2.out hW (by omega)), ⟨by omega, fun u hu => by have := HA.out u hu; omega⟩, HS2.out.more (by omega), HO2.out⟩
end Go.Proofs.Ytklfjekpeoigoaa
