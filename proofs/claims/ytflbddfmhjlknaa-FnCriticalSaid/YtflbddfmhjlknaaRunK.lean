/-
  The ends of runs, the last end, the late wishes; in the program and in the reference.
-/
import Derived.Test.YtflbddfmhjlknaaRunJ2
namespace Go.Proofs.Ytflbddfmhjlknaa
open Go.RowKit

def endGo (ts : List Int) : Int → List Int → Int
  | f, [] => f
  | f, t :: r => endGo ts (f + tmOf ts t) r
theorem endGo_bd {ts : List Int} (hts : OkTimes ts) : ∀ {way : List Int} {f : Int}, (∀ t ∈ way, 0 ≤ t ∧ t ≤ (ts.length : Int) - 1) → f ≤ endGo ts f way ∧ endGo ts f way ≤ f + 1000 * way.length := by
  intro way
  induction way with
  | nil => intro f _; simp [endGo]
  | cons t r ih =>
    intro f h
    have h1 := tmOf_bd hts (h t (List.mem_cons_self ..))
    have h2 := ih (f := f + tmOf ts t) fun t ht => h t (List.mem_cons_of_mem _ ht)
    rw [endGo, List.length_cons]; omega
theorem endGo_drop {ts way : List Int} {k : Nat} {t : Int} (h : way[k]? = some t) (f : Int) : endGo ts f (way.drop k) = endGo ts (f + tmOf ts t) (way.drop (k + 1)) := by rw [drop_cons h, endGo]
theorem ordGo_nodup {n : Int} : ∀ {r pre : List Int}, ordGo n pre r = true → r.Nodup ∧ ∀ k ∈ r, k ∉ pre := by
  intro r
  induction r with
  | nil => intro pre _; exact ⟨List.nodup_nil, fun k hk => by cases hk⟩
  | cons a r ih =>
    intro pre h
    rw [ordGo] at h
    simp only [Bool.and_eq_true, Bool.not_eq_true'] at h
    obtain ⟨i1, i2⟩ := ih h.2.2
    have ha : a ∉ pre := fun hm => by
      have := h.2.1
      rw [show hasI pre a = true from List.any_eq_true.2 ⟨a, hm, by simp⟩] at this
      cases this
    refine ⟨List.nodup_cons.2 ⟨fun hm => i2 a hm (List.mem_append.2 (.inr (List.mem_singleton.2 rfl))), i1⟩, fun k hk => ?_⟩
    rcases List.mem_cons.1 hk with rfl | hk
    · exact ha
    · exact fun hm => i2 k hk (List.mem_append.2 (.inl hm))
theorem order_all {ts : List Int} {l : List TN} {order : List Int} (h : codeO ts l order = 0) {i : Nat} (hi : i < l.length) : (i : Int) ∈ order := by
  obtain ⟨_, hol, hoi⟩ := codeO_ok h
  have hnd : order.Nodup := by
    unfold codeO at h
    split at h
    · split at h
      · rename_i ho
        unfold ordOk at ho
        simp only [Bool.and_eq_true] at ho
        exact (ordGo_nodup ho.1).1
      · omega
    · omega
  refine Classical.byContradiction fun hne => ?_
  have h1 : ((i : Int) :: order).Nodup := List.nodup_cons.2 ⟨hne, hnd⟩
  have h2 := h1.length_le_of_subset (l₂ := (List.range l.length).map fun (j : Nat) => (j : Int)) fun z hz => by
    rcases List.mem_cons.1 hz with rfl | hz
    · exact List.mem_map.2 ⟨i, List.mem_range.2 hi, rfl⟩
    · have := hoi z hz
      exact List.mem_map.2 ⟨z.toNat, List.mem_range.2 (by omega), by omega⟩
  rw [List.length_cons, List.length_map, List.length_range] at h2
  omega
theorem planRGo_way (ts : List Int) (l : List TN) : ∀ (order : List Int) (done out : List TN) (i : Nat) (e : TN), (∀ k ∈ order, 0 ≤ k) → (planRGo ts l order done out)[i]? = some e → ((i : Int) ∈ order ∨ ∃ e0, out[i]? = some e0 ∧ e0.way = (wishAt l i).way) → e.way = (wishAt l i).way := by
  intro order
  induction order with
  | nil =>
    intro done out i e _ he h
    rcases h with h | ⟨e0, h1, h2⟩
    · cases h
    · rw [planRGo] at he; rw [h1] at he; cases he; exact h2
  | cons k r ih =>
    intro done out i e hk he h
    rw [planRGo] at he
    have hk0 := hk k (List.mem_cons_self ..)
    refine ih _ _ i e (fun k' hk' => hk k' (List.mem_cons_of_mem _ hk')) he ?_
    by_cases hik : (i : Int) = k
    · by_cases hl : i < out.length
      · right
        refine ⟨_, by rw [show k.toNat = i by omega]; exact List.getElem?_set_self hl, by rw [hik]⟩
      · exfalso
        have hlen : ∀ (order : List Int) (done out : List TN), (planRGo ts l order done out).length = out.length := by
          intro order
          induction order with
          | nil => intro done out; rfl
          | cons k r ih => intro done out; rw [planRGo, ih, List.length_set]
        have := lt_of_get he
        rw [hlen, List.length_set] at this
        omega
    · rcases h with h | ⟨e0, h1, h2⟩
      · rcases List.mem_cons.1 h with h | h
        · exact absurd h hik
        · exact .inl h
      · right
        exact ⟨e0, by rw [List.getElem?_set_ne (by omega)]; exact h1, h2⟩
theorem planR_way {ts : List Int} {l : List TN} {order : List Int} (h : codeO ts l order = 0) {i : Nat} {e : TN} (he : (planR ts l order)[i]? = some e) : e.way = (wishAt l i).way := by
  have hil : i < l.length := by have := lt_of_get he; rw [planR_len] at this; exact this
  exact planRGo_way ts l order _ _ i e (fun k hk => ((codeO_ok h).2.2 k hk).1) he (.inl (order_all h hil))
set_option maxRecDepth 100000 in
theorem l00MaxR_any (a b : Int) (w : World) : Calls Try.prog 109 #[.int .i64 a, .int .i64 b] w fun e w' => e = .returned (.int .i64 (max a b)) ∧ w = w' := by
  by_cases h : b < a
  · have HR := hide (Int.max_eq_left (show b ≤ a by omega))
    go_enter Try.func109, Try.ntmps109
    go_wp2_with fail
    go_ret
    exact ⟨ret_i HR.out.symm, rfl⟩
  · have HR := hide (Int.max_eq_right (show a ≤ b by omega))
    go_enter Try.func109, Try.ntmps109
    go_wp2_with fail
    go_ret
    exact ⟨ret_i HR.out.symm, rfl⟩
/-- The last end, and the late wishes, of these starts from a wish on. -/
def leGo (ts : List Int) (l : List TN) : List Int → Nat → Int → Int
  | [], _, m => m
  | s :: r, i, m => leGo ts l r (i + 1) (max m (endGo ts s (wishAt l i).way))
def laGo (ts : List Int) (l : List TN) : List Int → Nat → List Int
  | [], _ => []
  | s :: r, i => if (wishAt l i).q < endGo ts s (wishAt l i).way then (i : Int) :: laGo ts l r (i + 1) else laGo ts l r (i + 1)
theorem leGo_drop {ts : List Int} {l : List TN} {xs : List Int} {k : Nat} {z : Int} (h : xs[k]? = some z) (m : Int) : leGo ts l (xs.drop k) k m = leGo ts l (xs.drop (k + 1)) (k + 1) (max m (endGo ts z (wishAt l k).way)) := by rw [drop_cons h, leGo]
theorem laGo_drop {ts : List Int} {l : List TN} {xs : List Int} {k : Nat} {z : Int} (h : xs[k]? = some z) : laGo ts l (xs.drop k) k = if (wishAt l k).q < endGo ts z (wishAt l k).way then (k : Int) :: laGo ts l (xs.drop (k + 1)) (k + 1) else laGo ts l (xs.drop (k + 1)) (k + 1) := by rw [drop_cons h, laGo]
def lastEnd (ts : List Int) (l : List TN) (order : List Int) : Int × Int := if codeO ts l order = 0 then (leGo ts l (plan ts l order) 0 0, 0) else (0, codeO ts l order)
def lateWishes (ts : List Int) (l : List TN) (order : List Int) : List Int × Int := if codeO ts l order = 0 then (laGo ts l (plan ts l order) 0, 0) else ([], codeO ts l order)
end Go.Proofs.Ytflbddfmhjlknaa
