/-
  All orders of n things, one behind the other, and the best one: plain definitions and laws.
-/
import Derived.Test.YtfhociekhffjhaaRunK2
import Derived.Test.YtfhociekhffjhaaRunJ2
namespace Go.Proofs.Ytfhociekhffjhaa

/-- An order is taken where its value is less than the least one so far. -/
def best1 (v : List Int → Int) (s : List Int × Int) (o : List Int) : List Int × Int := if s.2 < 0 ∨ v o < s.2 then (o, v o) else s
/-- All orders that begin with the given one, m things being left. -/
def ordGoF (v : List Int → Int) (n : Nat) : Nat → List Int → List Int × Int → List Int × Int
  | 0, done, s => best1 v s done
  | m + 1, done, s => (List.range n).foldl (fun s (k : Nat) => if hasI done k = true then s else ordGoF v n m (done ++ [(k : Int)]) s) s
/-- The orders from the k-th next thing on. -/
def ordFrom (v : List Int → Int) (n m : Nat) (done : List Int) (k : Nat) (s : List Int × Int) : List Int × Int :=
  ((List.range n).drop k).foldl (fun s (k : Nat) => if hasI done k = true then s else ordGoF v n m (done ++ [(k : Int)]) s) s
theorem ordFrom_zero (v : List Int → Int) (n m : Nat) (done : List Int) (s : List Int × Int) : ordGoF v n (m + 1) done s = ordFrom v n m done 0 s := rfl
theorem ordFrom_end (v : List Int → Int) (n m : Nat) (done : List Int) (s : List Int × Int) : ordFrom v n m done n s = s := by
  unfold ordFrom
  rw [List.drop_eq_nil_of_le (by simp)]; rfl
theorem ordFrom_step (v : List Int → Int) {n m : Nat} (done : List Int) {k : Nat} (hk : k < n) (s : List Int × Int) : ordFrom v n m done k s = ordFrom v n m done (k + 1) (if hasI done k = true then s else ordGoF v n m (done ++ [(k : Int)]) s) := by
  unfold ordFrom
  rw [List.drop_eq_getElem_cons (by simpa using hk), List.foldl_cons, List.getElem_range]
theorem hasI_iff {xs : List Int} {v : Int} : hasI xs v = true ↔ v ∈ xs := by simp [hasI]
theorem ordGo_of {n : Int} : ∀ {r pre : List Int}, (∀ k ∈ r, 0 ≤ k ∧ k ≤ n - 1) → r.Nodup → (∀ k ∈ r, k ∉ pre) → ordGo n pre r = true := by
  intro r
  induction r with
  | nil => intro pre _ _ _; rfl
  | cons k r ih =>
    intro pre h1 h2 h3
    rw [List.nodup_cons] at h2
    rw [ordGo, inB_t (h1 k (List.mem_cons_self ..)), ih (fun z hz => h1 z (List.mem_cons_of_mem _ hz)) h2.2 (fun z hz hp => by
      rcases List.mem_append.1 hp with hp | hp
      · exact h3 z (List.mem_cons_of_mem _ hz) hp
      · rw [List.mem_singleton] at hp; subst hp; exact h2.1 hz)]
    have : hasI pre k = false := by
      cases hh : hasI pre k
      · rfl
      · exact absurd (hasI_iff.1 hh) (h3 k (List.mem_cons_self ..))
    rw [this]; rfl
/-- Things of an order, of n ones. -/
def GoodO (n : Nat) (o : List Int) : Prop := (∀ z ∈ o, 0 ≤ z ∧ z ≤ (n : Int) - 1) ∧ o.Nodup
theorem GoodO.nil (n : Nat) : GoodO n [] := ⟨by simp, List.nodup_nil⟩
theorem GoodO.snoc {n : Nat} {o : List Int} (h : GoodO n o) {k : Nat} (hk : k < n) (hh : hasI o k = false) : GoodO n (o ++ [(k : Int)]) := by
  refine ⟨fun z hz => ?_, ?_⟩
  · rcases List.mem_append.1 hz with hz | hz
    · exact h.1 z hz
    · rw [List.mem_singleton] at hz; subst hz; omega
  · rw [List.nodup_append]
    refine ⟨h.2, List.pairwise_singleton .., fun a ha b hb => ?_⟩
    rw [List.mem_singleton] at hb; subst hb
    rintro rfl
    rw [hasI_iff.2 ha] at hh; cases hh
theorem GoodO.code {ts : List Int} {l : List TN} {o : List Int} (hv : vWishes ts l = true) (h : GoodO l.length o) (hl : o.length = l.length) : codeO ts l o = 0 := by
  unfold codeO
  rw [if_pos hv, if_pos]
  unfold ordOk
  rw [ordGo_of h.1 h.2 (fun _ _ => by simp), hl]; simp
/-- The value of an order: its late carriers, or the sum of its delays. -/
def valO (late : Bool) (ts : List Int) (l : List TN) (o : List Int) : Int := if late = true then ((laGo ts l (plan ts l o) 0).length : Int) else dlGo l (plan ts l o) 0
def bestO (late : Bool) (ts : List Int) (l : List TN) : List Int × Int × Int :=
  if vWishes ts l = true then ((ordGoF (valO late ts l) l.length l.length [] ([], -1)).1, (ordGoF (valO late ts l) l.length l.length [] ([], -1)).2, 0) else ([], 0, 1)
theorem best1_y {v : List Int → Int} {s : List Int × Int} {o : List Int} (h : s.2 < 0 ∨ v o < s.2) : best1 v s o = (o, v o) := if_pos h
theorem best1_n {v : List Int → Int} {s : List Int × Int} {o : List Int} (h1 : ¬ s.2 < 0) (h2 : ¬ v o < s.2) : best1 v s o = s := if_neg (by omega)
end Go.Proofs.Ytfhociekhffjhaa
