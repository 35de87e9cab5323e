/-
  The cheapest moves: what they are, and the rows of the reference's search. Plain lemmas.
  Moves: what sending them does, that the told ones bring what is wanted, and that the search finds the cheapest ones. Plain lemmas.
-/
import Derived.Test.YtklfjekpeoigoaaQMovesBack11
import Derived.Test.YtklfjekpeoigoaaQMovesBack12
import Derived.Test.YtklfjekpeoigoaaQMovesBack16
import Derived.Test.YtklfjekpeoigoaaQMovesBack15
namespace Go.Proofs.Ytklfjekpeoigoaa
open Go.RowKit

theorem flatMap_at3 {xs : List T3} {j q : Nat} {m : T3} (h : xs[j]? = some m) (hq : q < 3) : (xs.flatMap T3.cells)[j * 3 + q]? = (T3.cells m)[q]? := by
  induction xs generalizing j with
  | nil => simp at h
  | cons x xs ih =>
    rw [List.flatMap_cons]
    cases j with
    | zero =>
      simp at h; subst h
      rw [List.getElem?_append_left (by show 0 * 3 + q < 3; omega), Nat.zero_mul, Nat.zero_add]
    | succ j =>
      rw [List.getElem?_append_right (by show 3 ≤ (j + 1) * 3 + q; omega)]
      rw [show (j + 1) * 3 + q - (T3.cells x).length = j * 3 + q by show (j + 1) * 3 + q - 3 = _; omega]
      exact ih (by simpa using h)
def goalsGo : Nat → List Int → List Int
  | _, [] => []
  | k, n :: l => List.replicate n.toNat (k : Int) ++ goalsGo (k + 1) l
theorem goalsGo_len : ∀ {l : List Int} {k : Nat}, (∀ z ∈ l, 0 ≤ z) → ((goalsGo k l).length : Int) = l.sum := by
  intro l
  induction l with
  | nil => intro k _; rfl
  | cons n l ih =>
    intro k h
    have h1 := h n (List.mem_cons_self ..)
    have h2 := ih (k := k + 1) fun z hz => h z (List.mem_cons_of_mem _ hz)
    rw [goalsGo, List.length_append, List.length_replicate, List.sum_cons]
    omega
theorem goalsGo_bd : ∀ {l : List Int} {k : Nat}, ∀ z ∈ goalsGo k l, (k : Int) ≤ z ∧ z < (k : Int) + l.length := by
  intro l
  induction l with
  | nil => intro k z hz; simp [goalsGo] at hz
  | cons n l ih =>
    intro k z hz
    rw [goalsGo] at hz
    rw [List.length_cons]
    rcases List.mem_append.1 hz with hz | hz
    · have := (List.mem_replicate.1 hz).2
      omega
    · have := ih z hz
      omega
theorem goalsGo_at {l : List Int} {k : Nat} {n : Int} (h : l[k]? = some n) : goalsGo k (l.drop k) = List.replicate n.toNat (k : Int) ++ goalsGo (k + 1) (l.drop (k + 1)) := by
  rw [drop_cons h, goalsGo]
theorem goalsGo_end {l : List Int} {k : Nat} (h : l.length ≤ k) : goalsGo k (l.drop k) = [] := by rw [List.drop_eq_nil_of_le h, goalsGo]
theorem rep_step {acc R : List Int} {z : Int} {m j : Nat} (h : j < m) : acc ++ (List.replicate (m - j) z ++ R) = (acc ++ [z]) ++ (List.replicate (m - (j + 1)) z ++ R) := by
  obtain ⟨d, rfl⟩ : ∃ d, m = j + 1 + d := ⟨m - (j + 1), by omega⟩
  rw [show j + 1 + d - j = d + 1 by omega, show j + 1 + d - (j + 1) = d by omega, List.replicate_succ]
  simp
def mvPush (acc : List T3) (f t : Int) : List T3 :=
  match acc[acc.length - 1]? with
  | some m => if m.a = f ∧ m.b = t then acc.set (acc.length - 1) ⟨f, t, m.c + 1⟩ else acc ++ [⟨f, t, 1⟩]
  | none => acc ++ [⟨f, t, 1⟩]
def mvGo : List T3 → List Int → List Int → List T3
  | acc, f :: fs, t :: ts => mvGo (mvPush acc f t) fs ts
  | acc, _, _ => acc
theorem mvGo_at {acc : List T3} {fs ts : List Int} {k : Nat} {f t : Int} (hf : fs[k]? = some f) (ht : ts[k]? = some t) : mvGo acc (fs.drop k) (ts.drop k) = mvGo (mvPush acc f t) (fs.drop (k + 1)) (ts.drop (k + 1)) := by
  rw [drop_cons hf, drop_cons ht, mvGo]
theorem mvGo_end {acc : List T3} {fs ts : List Int} {k : Nat} (h : fs.length ≤ k) : mvGo acc (fs.drop k) (ts.drop k) = acc := by
  rw [List.drop_eq_nil_of_le h]; cases ts.drop k <;> rfl
/-- What the list of moves keeps. -/
def BmOk (k : Nat) (acc : List T3) : Prop := acc.length ≤ k ∧ (0 < k → 0 < acc.length) ∧ ∀ m ∈ acc, 0 ≤ m.c ∧ m.c ≤ k
theorem mvPush_same {acc : List T3} {m : T3} {f t : Int} (h : acc[acc.length - 1]? = some m) (h1 : m.a = f ∧ m.b = t) : mvPush acc f t = acc.set (acc.length - 1) ⟨m.a, m.b, m.c + 1⟩ := by
  unfold mvPush; rw [h]; simp only []; rw [if_pos h1, h1.1, h1.2]
theorem mvPush_new {acc : List T3} {m : T3} {f t : Int} (h : acc[acc.length - 1]? = some m) (h1 : ¬ (m.a = f ∧ m.b = t)) : mvPush acc f t = acc ++ [⟨f, t, 1⟩] := by
  unfold mvPush; rw [h]; simp only []; rw [if_neg h1]
theorem mvPush_nil {acc : List T3} {f t : Int} (h : acc = []) : mvPush acc f t = acc ++ [⟨f, t, 1⟩] := by
  subst h; rfl
def sameB (acc : List T3) (f t : Int) : Bool := match acc[acc.length - 1]? with
  | some m => decide (m.a = f ∧ m.b = t)
  | none => false
theorem sameB_nil {acc : List T3} {f t : Int} (h : acc = []) : sameB acc f t = false := by subst h; rfl
theorem sameB_at {acc : List T3} {m : T3} {f t : Int} (h : acc[acc.length - 1]? = some m) : sameB acc f t = decide (m.a = f ∧ m.b = t) := by unfold sameB; rw [h]
theorem sameB_yes {acc : List T3} {f t : Int} (h : sameB acc f t = true) : ∃ m, acc[acc.length - 1]? = some m ∧ mvPush acc f t = acc.set (acc.length - 1) ⟨m.a, m.b, m.c + 1⟩ := by
  unfold sameB at h
  cases hm : acc[acc.length - 1]? with
  | none => rw [hm] at h; cases h
  | some m => rw [hm] at h; exact ⟨m, rfl, mvPush_same hm (of_decide_eq_true h)⟩
theorem sameB_no {acc : List T3} {f t : Int} (h : sameB acc f t = false) : mvPush acc f t = acc ++ [⟨f, t, 1⟩] := by
  unfold sameB at h
  unfold mvPush
  cases hm : acc[acc.length - 1]? with
  | none => rfl
  | some m => rw [hm] at h; simp only []; rw [if_neg (of_decide_eq_false h)]
theorem BmOk.push {k : Nat} {acc : List T3} (h : BmOk k acc) (f t : Int) : BmOk (k + 1) (acc ++ [⟨f, t, 1⟩]) := by
  obtain ⟨h1, h2, h3⟩ := h
  refine ⟨by simp; omega, fun _ => by simp, fun m hm => ?_⟩
  rcases List.mem_append.1 hm with hm | hm
  · have := h3 m hm; omega
  · rw [List.mem_singleton] at hm; subst hm; dsimp only; omega
theorem BmOk.up {k : Nat} {acc : List T3} (h : BmOk k acc) {m : T3} (hm : acc[acc.length - 1]? = some m) : BmOk (k + 1) (acc.set (acc.length - 1) ⟨m.a, m.b, m.c + 1⟩) := by
  obtain ⟨h1, h2, h3⟩ := h
  have hl := lt_of_get hm
  refine ⟨by rw [List.length_set]; omega, fun _ => by rw [List.length_set]; omega, fun x hx => ?_⟩
  rcases List.mem_or_eq_of_mem_set hx with hx | rfl
  · have := h3 x hx; omega
  · have := h3 m (List.mem_of_getElem? hm); dsimp only; omega
theorem T3.storec {xs : List T3} {k : Nat} {x : T3} (h : xs[k]? = some x) (z : Int) : (xs.flatMap T3.cells).set (k * 3 + 2) (.int .i64 z) = (xs.set k ⟨x.a, x.b, z⟩).flatMap T3.cells :=
  flatMap_set T3.cells 3 (fun _ => rfl) xs k 2 x ⟨x.a, x.b, z⟩ (.int .i64 z) h (by omega) rfl
def bestMoves (st wa : List Int) (cs : List TN) : (List T3 × Int) × Int :=
  if codeWa st wa ≠ 0 then (([], 0), codeWa st wa)
  else if vCosts st.length cs = false then (([], 0), 2)
  else if st.sum < wa.sum then (([], 0), 5)
  else if 6 < (shGo st wa).sum then (([], 0), 6)
  else ((mvGo [] (srch (goalsGo 0 (shGo st wa)) cs st.length (goalsGo 0 (shGo st wa)).length [] (moGo st wa) 0 ([], -1)).1 (goalsGo 0 (shGo st wa)), (srch (goalsGo 0 (shGo st wa)) cs st.length (goalsGo 0 (shGo st wa)).length [] (moGo st wa) 0 ([], -1)).2), 0)
theorem foldl_keep {α : Type} {P : α → Prop} {f : α → Nat → α} (h : ∀ a i, P a → P (f a i)) : ∀ (l : List Nat) (a : α), P a → P (l.foldl f a) := by
  intro l
  induction l with
  | nil => intro a h0; exact h0
  | cons i l ih => intro a h0; exact ih _ (h a i h0)
theorem srch_len {gs : List Int} {cs : List TN} {nm : Nat} {L : Nat} : ∀ {r : Nat} {tk more : List Int} {cost : Int} {st : List Int × Int}, tk.length + r = L → st.1.length ≤ L → (srch gs cs nm r tk more cost st).1.length ≤ L := by
  intro r
  induction r with
  | zero =>
    intro tk more cost st h1 h2
    rw [srch]
    split
    · exact h2
    · exact Nat.le_of_eq h1
  | succ r ih =>
    intro tk more cost st h1 h2
    rw [srch]
    split
    · exact h2
    · refine foldl_keep (P := fun st : List Int × Int => st.1.length ≤ L) (fun st i h => ?_) _ _ h2
      split
      · exact h
      · exact ih (by rw [List.length_append]; simp; omega) h
theorem sh_nn : ∀ {st wa : List Int}, ∀ z ∈ shGo st wa, 0 ≤ z := by
  intro st
  induction st with
  | nil => intro wa z hz; cases wa <;> simp [shGo] at hz
  | cons s st ih =>
    intro wa z hz
    cases wa with
    | nil => simp [shGo] at hz
    | cons a wa =>
      rw [shGo] at hz
      rcases List.mem_cons.1 hz with rfl | hz
      · omega
      · exact ih z hz
theorem mo_bd : ∀ {st wa : List Int}, (∀ z ∈ st, 0 ≤ z ∧ z ≤ 200) → (∀ z ∈ wa, 0 ≤ z ∧ z ≤ 200) → ∀ z ∈ moGo st wa, 0 ≤ z ∧ z ≤ 1000 := by
  intro st
  induction st with
  | nil => intro wa _ _ z hz; cases wa <;> simp [moGo] at hz
  | cons s st ih =>
    intro wa h1 h2 z hz
    cases wa with
    | nil => simp [moGo] at hz
    | cons a wa =>
      rw [moGo] at hz
      rcases List.mem_cons.1 hz with rfl | hz
      · have := h1 s (List.mem_cons_self ..)
        have := h2 a (List.mem_cons_self ..)
        omega
      · exact ih (fun z hz => h1 z (List.mem_cons_of_mem _ hz)) (fun z hz => h2 z (List.mem_cons_of_mem _ hz)) z hz
theorem sh_bd : ∀ {st wa : List Int}, (∀ z ∈ st, 0 ≤ z ∧ z ≤ 200) → (∀ z ∈ wa, 0 ≤ z ∧ z ≤ 200) → ∀ z ∈ shGo st wa, 0 ≤ z ∧ z ≤ 1000 := by
  intro st
  induction st with
  | nil => intro wa _ _ z hz; cases wa <;> simp [shGo] at hz
  | cons s st ih =>
    intro wa h1 h2 z hz
    cases wa with
    | nil => simp [shGo] at hz
    | cons a wa =>
      rw [shGo] at hz
      rcases List.mem_cons.1 hz with rfl | hz
      · have := h1 s (List.mem_cons_self ..)
        have := h2 a (List.mem_cons_self ..)
        omega
      · exact ih (fun z hz => h1 z (List.mem_cons_of_mem _ hz)) (fun z hz => h2 z (List.mem_cons_of_mem _ hz)) z hz
/-- Rows of the call's own, apart from one another and from a box. -/
structure Trk (lo : Nat) (w : World) (gp : Nat) (l : List (Value × List Int)) : Prop where
  own : ∀ (i : Nat) (v : Value) (xs : List Int), l[i]? = some (v, xs) → w.ownsRow lo 2 1 v xs.length (xs.map (Value.int .i64))
  ne : ∀ (i : Nat) (v : Value) (xs : List Int), l[i]? = some (v, xs) → v.ownBlock ≠ some gp
  ap : ∀ (i j : Nat) (v : Value) (xs : List Int) (u : Value) (ys : List Int) (g : Nat), i ≠ j → l[i]? = some (v, xs) → l[j]? = some (u, ys) → v.ownBlock = some g → u.ownBlock ≠ some g
section
variable {lo gp : Nat} {w w' : World} {l : List (Value × List Int)}
theorem Trk.below (h : Trk lo w gp l) (k : Below w.heap.size w w') : Trk lo w' gp l := ⟨fun i v xs e => own_below (h.own i v xs e) k (Nat.le_refl _), h.ne, h.ap⟩
theorem Trk.box (h : Trk lo w gp l) (j : Nat) (x : Value) : Trk lo (w.setCell ⟨gp, j, none⟩ x) gp l := ⟨fun i v xs e => (h.own i v xs e).kept (grown_setCell w ⟨gp, j, none⟩ x) (.inr (h.ne i v xs e)), h.ne, h.ap⟩
theorem Trk.cons (h : Trk lo w gp l) {u : Value} {ys : List Int} (hu : w.ownsRow lo 2 1 u ys.length (ys.map (Value.int .i64))) (hn : u.ownBlock ≠ some gp) (ha : ∀ (j : Nat) (v : Value) (xs : List Int) (g : Nat), l[j]? = some (v, xs) → v.ownBlock = some g → u.ownBlock ≠ some g) : Trk lo w gp ((u, ys) :: l) := by
  refine ⟨fun i v xs e => ?_, fun i v xs e => ?_, fun i j v xs v2 xs2 g hij e1 e2 hg => ?_⟩
  · cases i with
    | zero => simp only [List.getElem?_cons_zero, Option.some.injEq, Prod.mk.injEq] at e; obtain ⟨rfl, rfl⟩ := e; exact hu
    | succ i => exact h.own i v xs (by simpa using e)
  · cases i with
    | zero => simp only [List.getElem?_cons_zero, Option.some.injEq, Prod.mk.injEq] at e; obtain ⟨rfl, rfl⟩ := e; exact hn
    | succ i => exact h.ne i v xs (by simpa using e)
  · cases i with
    | zero =>
      simp only [List.getElem?_cons_zero, Option.some.injEq, Prod.mk.injEq] at e1; obtain ⟨rfl, rfl⟩ := e1
      cases j with
      | zero => exact (hij rfl).elim
      | succ j => exact fun e => ha j v2 xs2 g (by simpa using e2) e hg
    | succ i =>
      cases j with
      | zero =>
        simp only [List.getElem?_cons_zero, Option.some.injEq, Prod.mk.injEq] at e2; obtain ⟨rfl, rfl⟩ := e2
        exact ha i v xs g (by simpa using e1) hg
      | succ j => exact h.ap i j v xs v2 xs2 g (by omega) (by simpa using e1) (by simpa using e2) hg
theorem Trk.nil : Trk lo w gp [] := ⟨fun i v xs e => by simp at e, fun i v xs e => by simp at e, fun i j v xs u ys g _ e => by simp at e⟩
theorem Trk.app (h : Trk lo w gp l) {i : Nat} {v : Value} {xs : List Int} {z : Int} (e : l[i]? = some (v, xs)) {v' : Value} (hg : w.grownBy w' v.ownBlock) (hown : w'.ownsRow lo 2 1 v' (xs.length + 1) (xs.map (Value.int .i64) ++ [.int .i64 z])) (hat : v'.ownBlock = v.ownBlock ∨ v'.ownBlock = some w.heap.size) (hgp : gp < w.heap.size) : Trk lo w' gp (l.set i (v', xs ++ [z])) := by
  have hi := lt_of_get e
  have get : ∀ {j : Nat} {u : Value} {ys : List Int}, (l.set i (v', xs ++ [z]))[j]? = some (u, ys) → (j = i ∧ u = v' ∧ ys = xs ++ [z]) ∨ (j ≠ i ∧ l[j]? = some (u, ys)) := fun {j u ys} e1 => by
    by_cases hj : j = i
    · subst hj
      rw [List.getElem?_set_self hi] at e1
      simp only [Option.some.injEq, Prod.mk.injEq] at e1
      exact .inl ⟨rfl, e1.1.symm, e1.2.symm⟩
    · rw [List.getElem?_set_ne (Ne.symm hj)] at e1
      exact .inr ⟨hj, e1⟩
  have lt_of : ∀ {j : Nat} {u : Value} {ys : List Int}, l[j]? = some (u, ys) → u.ownBlock ≠ some w.heap.size := fun {j u ys} hr e => by have := ((h.own _ _ _ hr).lt _ e).2; omega
  refine ⟨fun j u ys e1 => ?_, fun j u ys e1 => ?_, fun j1 j2 u ys u2 ys2 g hij e1 e2 hgg => ?_⟩
  · rcases get e1 with ⟨rfl, rfl, rfl⟩ | ⟨hj, e1⟩
    · rw [List.length_append, List.map_append]; exact hown
    · refine (h.own j u ys e1).kept hg ?_
      cases hu : u.ownBlock with
      | none => exact .inl rfl
      | some g => exact .inr (fun e9 => h.ap j i u ys v xs g hj e1 e hu e9.symm)
  · rcases get e1 with ⟨rfl, rfl, rfl⟩ | ⟨hj, e1⟩
    · rcases hat with h1 | h1
      · rw [h1]; exact h.ne _ _ _ e
      · rw [h1]; exact fun e9 => by have := Option.some.inj e9; omega
    · exact h.ne _ _ _ e1
  · rcases get e1 with ⟨rfl, rfl, rfl⟩ | ⟨hj, q1⟩
    · rcases get e2 with ⟨rfl, _, _⟩ | ⟨hj2, e2⟩
      · exact (hij rfl).elim
      · rcases hat with h1 | h1
        · exact h.ap _ _ _ _ _ _ g hij e e2 (h1.symm.trans hgg)
        · rw [h1] at hgg; rw [← Option.some.inj hgg]; exact lt_of e2
    · rcases get e2 with ⟨rfl, rfl, rfl⟩ | ⟨hj2, e2⟩
      · rcases hat with h1 | h1
        · rw [h1]; exact h.ap _ _ _ _ _ _ g hij q1 e hgg
        · rw [h1]; intro e9; rw [← Option.some.inj e9] at hgg; exact lt_of q1 hgg
      · exact h.ap _ _ _ _ _ _ g hij q1 e2 hgg
end
end Go.Proofs.Ytklfjekpeoigoaa
namespace Go.Proofs.Ytklfjekpeoigoaa
open Go.RowKit

/-- A sum over moves, carrier by carrier. -/
def wM (g : Int → Int → Int) : List T3 → Int
  | [] => 0
  | m :: ms => m.c * g m.a m.b + wM g ms
theorem wM_app (g : Int → Int → Int) : ∀ (xs ys : List T3), wM g (xs ++ ys) = wM g xs + wM g ys := by
  intro xs ys
  induction xs with
  | nil => simp [wM]
  | cons x xs ih => rw [List.cons_append, wM, wM, ih]; omega
theorem wM_snoc (g : Int → Int → Int) (xs : List T3) (m : T3) : wM g (xs ++ [m]) = wM g xs + m.c * g m.a m.b := by rw [wM_app, wM, wM]; omega
def isA (i a _b : Int) : Int := if a = i then 1 else 0
def isB (i _a b : Int) : Int := if b = i then 1 else 0
theorem isA_nn (i a b : Int) : 0 ≤ isA i a b := by unfold isA; split <;> omega
theorem isB_nn (i a b : Int) : 0 ≤ isB i a b := by unfold isB; split <;> omega
/-- A move between stations. -/
def Mv (n : Nat) (m : T3) : Prop := (0 ≤ m.a ∧ m.a < n) ∧ (0 ≤ m.b ∧ m.b < n) ∧ m.a ≠ m.b ∧ 1 ≤ m.c ∧ m.c ≤ 200
theorem Mv.ok {n : Nat} {m : T3} (h : Mv n m) : okMove n m = true := by
  unfold Mv at h; rw [okMove_iff]; omega
theorem wM_nn {g : Int → Int → Int} (hg : ∀ a b, 0 ≤ g a b) {n : Nat} : ∀ {ms : List T3}, (∀ m ∈ ms, Mv n m) → 0 ≤ wM g ms := by
  intro ms
  induction ms with
  | nil => intro _; exact Int.le_refl _
  | cons m ms ih =>
    intro h
    have h1 := ih fun x hx => h x (List.mem_cons_of_mem _ hx)
    have h2 := (h m (List.mem_cons_self ..)).2.2.2.1
    have h3 := Int.mul_nonneg (by omega : 0 ≤ m.c) (hg m.a m.b)
    rw [wM]; omega
theorem dAt_set {l : List Int} {i : Nat} (h : i < l.length) (v : Int) (x : Nat) : dAt (l.set i v) x = if x = i then v else dAt l x := by
  unfold dAt
  by_cases e : x = i
  · subst e; rw [if_pos rfl, List.getElem?_set_self h]; rfl
  · rw [if_neg e, List.getElem?_set_ne (Ne.symm e)]
theorem get_dAt {l : List Int} {i : Nat} (h : i < l.length) : l[i]? = some (dAt l i) := by
  unfold dAt; rw [List.getElem?_eq_getElem h]; rfl
theorem send_all {n : Nat} : ∀ {ms : List T3} {st : List Int} {k : Nat}, st.length = n → (∀ m ∈ ms, Mv n m) → (∀ i : Nat, i < n → wM (isA i) ms ≤ dAt st i) →
    (sendFrom st ms k).2 = -1 ∧ (sendFrom st ms k).1.length = n ∧ ∀ i : Nat, i < n → dAt (sendFrom st ms k).1 i = dAt st i - wM (isA i) ms + wM (isB i) ms := by
  intro ms
  induction ms with
  | nil => intro st k hl _ _; refine ⟨rfl, hl, fun i _ => ?_⟩; simp [sendFrom, wM]
  | cons m ms ih =>
    intro st k hl hm hf
    obtain ⟨⟨ha0, ha⟩, ⟨hb0, hb⟩, hab, hc, hc2⟩ := hm m (List.mem_cons_self ..)
    have hms : ∀ x ∈ ms, Mv n x := fun x hx => hm x (List.mem_cons_of_mem _ hx)
    obtain ⟨a, ea⟩ : ∃ a : Nat, m.a = (a : Int) := ⟨m.a.toNat, by omega⟩
    obtain ⟨b, eb⟩ : ∃ b : Nat, m.b = (b : Int) := ⟨m.b.toNat, by omega⟩
    have hza := get_dAt (l := st) (i := a) (by omega)
    have hzb := get_dAt (l := st) (i := b) (by omega)
    have h1 : m.c ≤ dAt st a := by
      have h2 := hf a (by omega)
      have h3 := wM_nn (g := isA a) (isA_nn a) hms
      have h4 : isA (a : Int) m.a m.b = 1 := if_pos ea
      rw [wM, h4] at h2
      omega
    have hs : send1 st m = some ((st.set a (dAt st a - m.c)).set b (dAt st b + m.c)) := by
      unfold send1
      rw [ea, eb, Int.toNat_natCast, Int.toNat_natCast, hza, hzb]
      simp only []
      rw [if_neg (by omega)]
    have hat : ∀ x : Nat, dAt ((st.set a (dAt st a - m.c)).set b (dAt st b + m.c)) x = dAt st x - m.c * isA x m.a m.b + m.c * isB x m.a m.b := fun x => by
      rw [dAt_set (by rw [List.length_set]; omega), dAt_set (by omega)]
      unfold isA isB
      rw [ea, eb]
      by_cases e1 : x = b
      · subst e1
        rw [if_pos rfl, if_neg (by omega), if_pos rfl]; omega
      · rw [if_neg e1]
        by_cases e2 : x = a
        · subst e2
          rw [if_pos rfl, if_pos rfl, if_neg (by omega)]; omega
        · rw [if_neg e2, if_neg (by omega), if_neg (by omega)]; omega
    rw [sendFrom, hs]
    simp only []
    obtain ⟨h5, h6, h7⟩ := ih (st := (st.set a (dAt st a - m.c)).set b (dAt st b + m.c)) (k := k + 1) (by rw [List.length_set, List.length_set]; exact hl) hms (fun i hi => by
      rw [hat]
      have h2 := hf i hi
      rw [wM] at h2
      have h3 := Int.mul_nonneg (by omega : 0 ≤ m.c) (isB_nn i m.a m.b)
      omega)
    refine ⟨h5, h6, fun i hi => ?_⟩
    rw [h7 i hi, hat, wM, wM]
    omega
/-- The sum stays. -/
theorem sendFrom_sum {n : Nat} : ∀ {ms : List T3} {st : List Int} {k : Nat}, st.length = n → (∀ m ∈ ms, okMove n m = true) → (sendFrom st ms k).1.sum = st.sum ∧ (sendFrom st ms k).1.length = n := by
  intro ms
  induction ms with
  | nil => intro st k hl _; exact ⟨rfl, hl⟩
  | cons m ms ih =>
    intro st k hl hm
    have hk := hm m (List.mem_cons_self ..)
    rw [← hl] at hk
    obtain ⟨i, j, za, zb, e, hza, hzb, hij, _, _⟩ := move_at hk
    rw [sendFrom]
    cases hs : send1 st m with
    | none => exact ⟨rfl, hl⟩
    | some st' =>
      have h1 := send1_at (c := m.c) hza hzb
      rw [← e, hs] at h1
      split at h1
      · cases h1
      · simp only [Option.some.injEq] at h1
        subst h1
        have h2 := ih (st := (st.set i (za - m.c)).set j (zb + m.c)) (k := k + 1) (by rw [List.length_set, List.length_set]; exact hl) (fun x hx => hm x (List.mem_cons_of_mem _ hx))
        refine ⟨?_, h2.2⟩
        simp only []
        rw [h2.1, sum_set (by rw [List.getElem?_set_ne hij]; exact hzb), sum_set hza]; omega
theorem sendAll_sum {st : List Int} {ms : List T3} (h : (sendAll st ms).2.2 = 0) : (sendAll st ms).1.sum = st.sum ∧ vStock st = true ∧ (sendAll st ms).1.length = st.length := by
  unfold sendAll at h ⊢
  by_cases h1 : vStock st = true
  · rw [if_pos h1] at h ⊢
    by_cases h2 : vMoves st.length ms = true
    · rw [if_pos h2] at h ⊢
      have h3 := sendFrom_sum (ms := ms) (st := st) (k := 0) rfl (vMoves_iff.1 h2).1
      exact ⟨h3.1, h1, h3.2⟩
    · rw [if_neg h2] at h; cases h
  · rw [if_neg h1] at h; cases h
/-- Numbers that are not nothing. -/
def nz (D : List Int) : Int := (D.map fun d => if d = 0 then (0 : Int) else 1).sum
theorem nz_set {D : List Int} {i : Nat} {z v : Int} (h : D[i]? = some z) : nz (D.set i v) = nz D - (if z = 0 then 0 else 1) + (if v = 0 then 0 else 1) := by
  unfold nz
  rw [List.map_set, sum_set (z := if z = 0 then 0 else 1) (by rw [List.getElem?_map, h]; rfl)]
theorem nz_bd (D : List Int) : 0 ≤ nz D ∧ nz D ≤ D.length := by
  induction D with
  | nil => simp [nz]
  | cons d D ih =>
    unfold nz at *
    rw [List.map_cons, List.sum_cons, List.length_cons]
    split <;> omega
theorem nonpos_sum : ∀ {D : List Int}, (∀ d ∈ D, d ≤ 0) → D.sum ≤ 0 ∧ (0 ≤ D.sum → ∀ d ∈ D, d = 0) := by
  intro D
  induction D with
  | nil => intro _; exact ⟨Int.le_refl _, fun _ d hd => by cases hd⟩
  | cons x D ih =>
    intro h
    have h1 := h x (List.mem_cons_self ..)
    obtain ⟨h2, h3⟩ := ih fun d hd => h d (List.mem_cons_of_mem _ hd)
    rw [List.sum_cons]
    refine ⟨by omega, fun h4 d hd => ?_⟩
    rcases List.mem_cons.1 hd with rfl | hd
    · omega
    · exact h3 (by omega) d hd
def flA (out : List T3) : List Int := out.flatMap fun m => List.replicate m.c.toNat m.a
def flB (out : List T3) : List Int := out.flatMap fun m => List.replicate m.c.toNat m.b
theorem goals_snoc : ∀ {l : List Int} {k : Nat} {z : Int}, goalsGo k (l ++ [z]) = goalsGo k l ++ List.replicate z.toNat ((k + l.length : Nat) : Int) := by
  intro l
  induction l with
  | nil => intro k z; simp [goalsGo]
  | cons n l ih =>
    intro k z
    rw [List.cons_append, goalsGo, goalsGo, ih, List.append_assoc, List.length_cons, show k + 1 + l.length = k + (l.length + 1) by omega]
theorem wB_zero {i : Int} : ∀ {out : List T3}, (∀ m ∈ out, m.b ≠ i) → wM (isB i) out = 0 := by
  intro out
  induction out with
  | nil => intro _; rfl
  | cons m out ih =>
    intro h
    rw [wM, ih fun x hx => h x (List.mem_cons_of_mem _ hx)]
    unfold isB
    rw [if_neg (h m (List.mem_cons_self ..))]; omega
/-- What the told moves keep, at a station that gets and one that gives. -/
structure MbI (n : Nat) (D0 sh : List Int) (tq fr : Nat) (D : List Int) (out : List T3) : Prop where
  len : D.length = n
  sum : D.sum = D0.sum
  mv : ∀ m ∈ out, Mv n m
  cnt : (out.length : Int) + nz D ≤ n
  per : ∀ i : Nat, i < n → (0 ≤ dAt D0 i → 0 ≤ dAt D i ∧ wM (isA i) out = dAt D0 i - dAt D i ∧ wM (isB i) out = 0) ∧ (dAt D0 i ≤ 0 → dAt D i ≤ 0 ∧ wM (isA i) out = 0 ∧ wM (isB i) out = dAt D i - dAt D0 i)
  lex : out.Pairwise fun x y => x.b < y.b ∨ (x.b = y.b ∧ x.a < y.a)
  bd : ∀ m ∈ out, m.b < tq ∨ (m.b = tq ∧ m.a < fr)
  goals : flB out = goalsGo 0 (sh.take tq) ++ List.replicate (wM (isB tq) out).toNat (tq : Int)
  past : ∀ i, i < tq → 0 ≤ dAt D i
  here : 0 ≤ dAt D tq ∨ ∀ i, i < fr → dAt D i ≤ 0
section
variable {n : Nat} {D0 sh : List Int} {tq fr : Nat} {D : List Int} {out : List T3}
theorem MbI.step (h : MbI n D0 sh tq fr D out) (hto : tq < n) (hfr : fr < n) (h200 : ∀ i, i < n → dAt D0 i ≤ 200) : MbI n D0 sh tq (fr + 1) (mbStep (D, out) tq fr).1 (mbStep (D, out) tq fr).2 := by
  have hL := h.len
  have ea := get_dAt (l := D) (i := fr) (by omega)
  have eb := get_dAt (l := D) (i := tq) (by omega)
  by_cases h0 : 0 < min (dAt D fr) (-(dAt D tq))
  · have hne : fr ≠ tq := mb_ne ea eb h0
    rw [mbStep_yes out ea eb rfl h0]
    obtain ⟨m, hm⟩ : ∃ m, m = min (dAt D fr) (-(dAt D tq)) := ⟨_, rfl⟩
    rw [← hm] at h0 ⊢
    have eb2 : (D.set fr (dAt D fr - m))[tq]? = some (dAt D tq) := by rw [List.getElem?_set_ne hne]; exact eb
    have hat : ∀ x : Nat, dAt ((D.set fr (dAt D fr - m)).set tq (dAt D tq + m)) x = if x = tq then dAt D tq + m else if x = fr then dAt D fr - m else dAt D x := fun x => by
      rw [dAt_set (by rw [List.length_set]; omega), dAt_set (by omega)]
    have hpf := h.per fr hfr
    have hpt := h.per tq hto
    have hd0 : 0 ≤ dAt D0 fr := by
      by_cases e : dAt D0 fr ≤ 0
      · have := (hpf.2 e).1; omega
      · omega
    have hd1 : dAt D0 tq ≤ 0 := by
      by_cases e : 0 ≤ dAt D0 tq
      · have := (hpt.1 e).1; omega
      · omega
    have hw := wM_nn (g := isA fr) (isA_nn fr) h.mv
    have hle := (hpf.1 hd0).2.1
    have h2 := h200 fr hfr
    have hwb := wM_nn (g := isB tq) (isB_nn tq) h.mv
    refine ⟨by rw [List.length_set, List.length_set]; exact hL, by rw [sum_set eb2, sum_set ea, h.sum]; omega, fun x hx => ?_, ?_, fun i hi => ?_, ?_, fun x hx => ?_, ?_, fun i hi => ?_, ?_⟩
    · rcases List.mem_append.1 hx with hx | hx
      · exact h.mv x hx
      · rw [List.mem_singleton] at hx; subst hx
        exact ⟨⟨by dsimp only; omega, by dsimp only; omega⟩, ⟨by dsimp only; omega, by dsimp only; omega⟩, by dsimp only; omega, by dsimp only; omega, by dsimp only; omega⟩
    · have hc := h.cnt
      dsimp only
      rw [nz_set eb2, nz_set ea, List.length_append, List.length_singleton]
      rw [if_neg (by omega : ¬ dAt D fr = 0), if_neg (by omega : ¬ dAt D tq = 0)]
      by_cases e1 : dAt D fr - m = 0
      · rw [if_pos e1]; split <;> omega
      · rw [if_neg e1, if_pos (by omega)]; omega
    · have hp := h.per i hi
      dsimp only
      rw [hat, wM_snoc, wM_snoc]
      dsimp only
      unfold isA isB
      by_cases e1 : i = tq
      · subst e1
        rw [if_pos rfl, if_neg (by omega), if_pos rfl]
        refine ⟨fun h3 => ?_, fun h3 => ?_⟩
        · have := (hp.1 h3).1; omega
        · obtain ⟨q1, q2, q3⟩ := hp.2 h3
          unfold isA at q2; unfold isB at q3
          omega
      · by_cases e2 : i = fr
        · subst e2
          rw [if_neg e1, if_pos rfl, if_pos rfl, if_neg (by omega)]
          refine ⟨fun h3 => ?_, fun h3 => ?_⟩
          · obtain ⟨q1, q2, q3⟩ := hp.1 h3
            unfold isA at q2; unfold isB at q3
            omega
          · have := (hp.2 h3).1; omega
        · rw [if_neg e1, if_neg e2, if_neg (by omega), if_neg (by omega)]
          simp only [Int.mul_zero, Int.add_zero]
          exact hp
    · rw [List.pairwise_append]
      refine ⟨h.lex, List.pairwise_singleton _ _, fun x hx y hy => ?_⟩
      rw [List.mem_singleton] at hy; subst hy
      exact h.bd x hx
    · rcases List.mem_append.1 hx with hx | hx
      · rcases h.bd x hx with h3 | ⟨h3, h4⟩
        · exact .inl h3
        · exact .inr ⟨h3, by omega⟩
      · rw [List.mem_singleton] at hx; subst hx
        exact .inr ⟨rfl, by dsimp only; omega⟩
    · dsimp only
      rw [wM_snoc]
      have e1 : isB (tq : Int) fr tq = 1 := if_pos rfl
      dsimp only
      rw [e1]
      unfold flB
      rw [List.flatMap_append]
      have h3 := h.goals
      unfold flB at h3
      rw [h3, List.append_assoc, List.flatMap_cons, List.flatMap_nil, List.append_nil, List.replicate_append_replicate]
      congr 2
      dsimp only
      omega
    · dsimp only
      rw [hat]
      have := h.past i hi
      rw [if_neg (by omega)]
      split <;> omega
    · dsimp only
      rw [hat, if_pos rfl]
      by_cases e1 : 0 ≤ dAt D tq + m
      · exact .inl e1
      · refine .inr fun i hi => ?_
        rw [hat]
        rcases h.here with h3 | h3
        · omega
        · split
          · omega
          · split
            · omega
            · exact h3 i (by omega)
  · rw [mbStep_no out ea eb h0]
    refine ⟨hL, h.sum, h.mv, h.cnt, h.per, h.lex, fun x hx => ?_, h.goals, h.past, ?_⟩
    · rcases h.bd x hx with h3 | ⟨h3, h4⟩
      · exact .inl h3
      · exact .inr ⟨h3, by omega⟩
    · dsimp only
      rcases h.here with h3 | h3
      · exact .inl h3
      · by_cases e1 : 0 ≤ dAt D tq
        · exact .inl e1
        · refine .inr fun i hi => ?_
          by_cases e2 : i = fr
          · subst e2; omega
          · exact h3 i (by omega)
theorem MbI.inner (hto : tq < n) (h200 : ∀ i, i < n → dAt D0 i ≤ 200) : ∀ (d fr : Nat) (s : List Int × List T3), fr + d = n → MbI n D0 sh tq fr s.1 s.2 → MbI n D0 sh tq n (mbIn n tq fr s).1 (mbIn n tq fr s).2 := by
  intro d
  induction d with
  | zero =>
    intro fr s hd h
    have : fr = n := by omega
    subst this
    rw [mbIn_end]; exact h
  | succ d ih =>
    intro fr s hd h
    rw [mbIn_step (by omega)]
    exact ih (fr + 1) _ (by omega) (h.step hto (by omega) h200)
theorem MbI.turn (h : MbI n D0 sh tq n D out) (hto : tq < n) (h0 : 0 ≤ D0.sum) (hsl : sh.length = n) (hsh : ∀ i, i < n → dAt sh i = max 0 (-(dAt D0 i))) : MbI n D0 sh (tq + 1) 0 D out := by
  have hL := h.len
  have hz : 0 ≤ dAt D tq := by
    rcases h.here with h3 | h3
    · exact h3
    · have h4 := (nonpos_sum (D := D) fun d hd => by
        obtain ⟨i, hi, rfl⟩ := List.mem_iff_getElem.1 hd
        have := h3 i (by omega)
        rw [dAt_get (List.getElem?_eq_getElem hi)] at this; exact this).2 (by rw [h.sum]; exact h0) _ (List.mem_of_getElem? (get_dAt (l := D) (i := tq) (by omega)))
      omega
  have hb : ∀ m ∈ out, m.b < (tq : Int) + 1 := fun m hm => by rcases h.bd m hm with h3 | ⟨h3, h4⟩ <;> omega
  refine ⟨hL, h.sum, h.mv, h.cnt, h.per, h.lex, fun m hm => .inl (by have := hb m hm; omega), ?_, fun i hi => ?_, .inr fun i hi => by omega⟩
  · rw [h.goals, wB_zero (i := ((tq + 1 : Nat) : Int)) (fun m hm => by have := hb m hm; omega)]
    have e1 : wM (isB tq) out = dAt sh tq := by
      rw [hsh tq hto]
      have hp := h.per tq hto
      by_cases e : 0 ≤ dAt D0 tq
      · rw [(hp.1 e).2.2]; omega
      · have := hp.2 (by omega); omega
    have e2 : sh.take (tq + 1) = sh.take tq ++ [dAt sh tq] := by
      rw [List.take_add_one, get_dAt (by omega)]; rfl
    rw [e1, e2, goals_snoc, List.length_take, show min tq sh.length = tq by omega, Nat.zero_add]
    simp
  · by_cases e : i = tq
    · subst e; exact hz
    · exact h.past i (by omega)
theorem MbI.outer (h0 : 0 ≤ D0.sum) (hsl : sh.length = n) (hsh : ∀ i, i < n → dAt sh i = max 0 (-(dAt D0 i))) (h200 : ∀ i, i < n → dAt D0 i ≤ 200) : ∀ (d tq : Nat) (s : List Int × List T3), tq + d = n → MbI n D0 sh tq 0 s.1 s.2 → MbI n D0 sh n 0 (mbOut n tq s).1 (mbOut n tq s).2 := by
  intro d
  induction d with
  | zero =>
    intro tq s hd h
    have : tq = n := by omega
    subst this
    rw [mbOut_end]; exact h
  | succ d ih =>
    intro tq s hd h
    rw [mbOut_step (by omega)]
    exact ih (tq + 1) _ (by omega) (MbI.turn (MbI.inner (by omega) h200 n 0 s (by omega) h) (by omega) h0 hsl hsh)
end
theorem deltas_sum : ∀ {st wa : List Int}, wa.length = st.length → (deltas st wa).sum = st.sum - wa.sum := by
  intro st
  induction st with
  | nil => intro wa h; cases wa with
    | nil => rfl
    | cons a wa => simp at h
  | cons s st ih => intro wa h; cases wa with
    | nil => simp at h
    | cons a wa =>
      rw [deltas, List.sum_cons, List.sum_cons, List.sum_cons, ih (by simpa using h)]; omega
theorem sh_at {st wa : List Int} (h : wa.length = st.length) {i : Nat} (hi : i < st.length) : dAt (shGo st wa) i = max 0 (-(dAt (deltas st wa) i)) := by
  have h1 := get_dAt (l := deltas st wa) (i := i) (by rw [deltas_len h]; exact hi)
  exact dAt_get ((via_sh h).2 i _ h1)
theorem mo_at {st wa : List Int} (h : wa.length = st.length) {i : Nat} (hi : i < st.length) : dAt (moGo st wa) i = max 0 (dAt (deltas st wa) i) := by
  have h1 := get_dAt (l := deltas st wa) (i := i) (by rw [deltas_len h]; exact hi)
  exact dAt_get ((via_mo h).2 i _ h1)
theorem de_at {st wa : List Int} (h : wa.length = st.length) {i : Nat} (hi : i < st.length) : dAt (deltas st wa) i = dAt st i - dAt wa i := dAt_get (deltas_get (get_dAt hi) (get_dAt (by omega)))
theorem dAt_mem {P : Int → Prop} {l : List Int} (h : ∀ z ∈ l, P z) {i : Nat} (hi : i < l.length) : P (dAt l i) := h _ (List.mem_of_getElem? (get_dAt hi))
/-- The told moves, all that is known of them. -/
theorem mb_all {st wa : List Int} (h : codeWa st wa = 0) (hs : wa.sum ≤ st.sum) : MbI st.length (deltas st wa) (shGo st wa) st.length 0 (mbOut st.length 0 (deltas st wa, [])).1 (mbOut st.length 0 (deltas st wa, [])).2 := by
  obtain ⟨hv, hl, hw⟩ := codeWa_ok h
  obtain ⟨⟨hs0, hs1⟩, hs2, hs3⟩ := stOk_of hv
  have hdl := deltas_len hl
  refine MbI.outer (by rw [deltas_sum hl]; omega) (by rw [shGo_len hl]) (fun i hi => sh_at hl hi) (fun i hi => ?_) st.length 0 (deltas st wa, []) (by omega) ?_
  · rw [de_at hl hi]
    have h1 := (stOk_bd ⟨hs0, hs1⟩ (get_dAt hi)).2
    have h2 := dAt_mem (P := fun z => 0 ≤ z ∧ z ≤ 200) hw (i := i) (by omega)
    omega
  · refine ⟨hdl, rfl, fun m hm => (by cases hm), ?_, fun i hi => ⟨fun h1 => ⟨h1, by simp [wM], rfl⟩, fun h1 => ⟨h1, rfl, by simp [wM]⟩⟩, List.Pairwise.nil, fun m hm => (by cases hm), ?_, fun i hi => by omega, .inr fun i hi => by omega⟩
    · have := (nz_bd (deltas st wa)).2; simp; omega
    · simp [flB, goalsGo, wM]
theorem movesBack_ok {st wa : List Int} (h : (movesBack st wa).2 = 0) : codeWa st wa = 0 ∧ wa.sum ≤ st.sum ∧ (movesBack st wa).1 = (mbOut st.length 0 (deltas st wa, [])).2 := by
  unfold movesBack at h ⊢
  by_cases h1 : codeWa st wa = 0
  · rw [if_pos h1] at h ⊢
    by_cases h2 : st.sum < wa.sum
    · rw [if_pos h2] at h; cases h
    · rw [if_neg h2]; exact ⟨h1, by omega, rfl⟩
  · rw [if_neg h1] at h; exact (h1 h).elim
theorem send_law {st wa : List Int} {out : List T3} (hv : vStock st = true) (hl : wa.length = st.length) (hm : ∀ m ∈ out, Mv st.length m) (h40 : out.length ≤ 40) (hf : ∀ i : Nat, i < st.length → wM (isA i) out ≤ dAt st i) (hw : ∀ i : Nat, i < st.length → dAt wa i ≤ dAt st i - wM (isA i) out + wM (isB i) out) :
    (sendAll st out).2 = (-1, 0) ∧ (sendAll st out).1.length = wa.length ∧ ∀ i : Nat, i < wa.length → dAt wa i ≤ dAt (sendAll st out).1 i := by
  obtain ⟨h1, h2, h3⟩ := send_all (k := 0) rfl hm hf
  unfold sendAll
  rw [if_pos hv, if_pos (vMoves_iff.2 ⟨fun m hx => (hm m hx).ok, h40⟩)]
  dsimp only
  refine ⟨by rw [h1], by rw [h2, hl], fun i hi => ?_⟩
  rw [h3 i (by omega)]
  exact hw i (by omega)
theorem moves_law {st wa : List Int} (h : (movesBack st wa).2 = 0) :
    (sendAll st (movesBack st wa).1).2 = (-1, 0) ∧ (sendAll st (movesBack st wa).1).1.length = wa.length ∧ ∀ i : Nat, i < wa.length → dAt wa i ≤ dAt (sendAll st (movesBack st wa).1).1 i := by
  obtain ⟨h1, h2, h3⟩ := movesBack_ok h
  rw [h3]
  have I := mb_all h1 h2
  obtain ⟨hv, hl, hw⟩ := codeWa_ok h1
  obtain ⟨⟨hs0, hs1⟩, hs2, hs3⟩ := stOk_of hv
  have hc := I.cnt
  have hz := (nz_bd (mbOut st.length 0 (deltas st wa, [])).1).1
  refine send_law hv hl I.mv (by omega) (fun i hi => ?_) (fun i hi => ?_)
  · have hp := I.per i hi
    have h4 := I.past i hi
    have h5 := dAt_mem (P := fun z => 0 ≤ z) hs0 hi
    have h6 := dAt_mem (P := fun z => 0 ≤ z ∧ z ≤ 200) hw (i := i) (by omega)
    rw [de_at hl hi] at hp
    by_cases e : 0 ≤ dAt st i - dAt wa i
    · have := hp.1 e; omega
    · have := hp.2 (by omega); omega
  · have hp := I.per i hi
    have h4 := I.past i hi
    rw [de_at hl hi] at hp
    by_cases e : 0 ≤ dAt st i - dAt wa i
    · have := hp.1 e; omega
    · have := hp.2 (by omega); omega
end Go.Proofs.Ytklfjekpeoigoaa
