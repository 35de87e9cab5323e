/-
  Networks: the reference's least lengths, kept until nothing turns: what holds of them, and why they end. Plain lemmas.
-/
import Derived.Test.YtflbddfmhjlknaaNet3
namespace Go.Proofs.Ytflbddfmhjlknaa
def cn (d : List Int) : Int := (d.map fun z => if 0 ≤ z then (1 : Int) else 0).sum
def mm (d : List Int) : Int := (d.map fun z => if z < 0 then (20001 : Int) else z).sum
theorem sum_setF (f : Int → Int) : ∀ {d : List Int} {k : Nat} {z y : Int}, d[k]? = some z → ((d.set k y).map f).sum = (d.map f).sum - f z + f y := by
  intro d
  induction d with
  | nil => intro k z y h; simp at h
  | cons u d ih =>
    intro k z y h
    cases k with
    | zero => simp at h; subst h; rw [List.set_cons_zero, List.map_cons, List.sum_cons, List.map_cons, List.sum_cons]; omega
    | succ k => rw [List.set_cons_succ, List.map_cons, List.sum_cons, List.map_cons, List.sum_cons, ih (by simpa using h)]; omega
theorem cn_le (d : List Int) : 0 ≤ cn d ∧ cn d ≤ d.length := by
  unfold cn
  induction d with
  | nil => simp
  | cons z d ih => rw [List.map_cons, List.sum_cons, List.length_cons]; split <;> omega
theorem mm_nonneg {d : List Int} (h : ∀ z ∈ d, -1 ≤ z) : 0 ≤ mm d := by
  unfold mm
  induction d with
  | nil => simp
  | cons z d ih =>
    have h1 := ih fun u hu => h u (List.mem_cons_of_mem _ hu)
    rw [List.map_cons, List.sum_cons]; split <;> omega
/-- The values while they are made. -/
def FB (n : Nat) (tb : List T3) (td : Int) (d : List Int) : Prop := d.length = n ∧ (∀ z ∈ d, -1 ≤ z ∧ z ≤ 2000 * cn d) ∧ Sound tb (-1) td d
theorem FB.bd {n : Nat} {tb : List T3} {td : Int} {d : List Int} (h : FB n tb td d) (hn : n ≤ 10) : ∀ z ∈ d, -1 ≤ z ∧ z ≤ 20000 := fun z hz => by
  have h1 := h.2.1 z hz
  have h2 := (cn_le d).2
  have h3 := h.1
  omega
theorem FB.set {n : Nat} {tb : List T3} (hok : OkTubes n tb) (hn : n ≤ 10) {td : Int} {d : List Int} (h : FB n tb td d) {j : Nat} {a b : Nat} {c da db : Int} (hj : tb[j]? = some ⟨(a : Int), (b : Int), c⟩) (ha : d[a]? = some da) (hb : d[b]? = some db) (hdb : 0 ≤ db) (hs : da < 0 ∨ db + c < da) :
    FB n tb td (d.set a (db + c)) ∧ mm (d.set a (db + c)) < mm d := by
  have hc := hok _ (List.mem_of_getElem? hj)
  obtain ⟨_, _, hc1, hc2⟩ := hc
  dsimp only at hc1 hc2
  have hba := h.2.1 da (List.mem_of_getElem? ha)
  have hbb := h.2.1 db (List.mem_of_getElem? hb)
  have hbd := h.bd hn
  have hbb2 := hbd db (List.mem_of_getElem? hb)
  have hcn : cn (d.set a (db + c)) = cn d - (if 0 ≤ da then 1 else 0) + 1 := by
    unfold cn
    rw [sum_setF (fun z => if 0 ≤ z then (1 : Int) else 0) ha]
    rw [if_pos (show 0 ≤ db + c by omega)]
  have hl : (d.set a (db + c)).length = n := by rw [List.length_set]; exact h.1
  have hcl := (cn_le (d.set a (db + c))).2
  have hle : cn d ≤ cn (d.set a (db + c)) := by rw [hcn]; split <;> omega
  have hnew : db + c ≤ 2000 * cn (d.set a (db + c)) := by
    rw [hcn]
    rcases hs with hs | hs
    · rw [if_neg (by omega)]; omega
    · by_cases h0 : 0 ≤ da
      · rw [if_pos h0]; omega
      · rw [if_neg h0]; omega
  refine ⟨⟨hl, fun z hz => ?_, ?_⟩, ?_⟩
  · rcases List.mem_or_eq_of_mem_set hz with hz | rfl
    · have := h.2.1 z hz; omega
    · omega
  · have hx := relax1_sound (wo := -1) (i := (j : Int)) hok h.1 (by omega) (by rw [Int.toNat_natCast]; exact hj) h.2.2
    unfold relax1 at hx
    have eb : dAt d (b : Int) = db := dAt_get hb
    have ea : dAt d (a : Int) = da := dAt_get ha
    rw [if_neg (by dsimp only; rw [eb]; omega), if_pos (by dsimp only; rw [eb, ea]; exact hs)] at hx
    dsimp only at hx
    rw [eb, Int.toNat_natCast] at hx
    exact hx
  · unfold mm
    rw [sum_setF (fun z => if z < 0 then (20001 : Int) else z) ha, if_neg (show ¬ db + c < 0 by omega)]
    by_cases h0 : da < 0
    · rw [if_pos h0]; omega
    · rw [if_neg h0]; omega
theorem FB.start {n : Nat} {tb : List T3} {td : Nat} (h : td < n) : FB n tb td (dist0 n td) := by
  have hc : (dist0 n td).length = n := by simp [dist0]
  have hg : (List.replicate n (-1 : Int))[td]? = some (-1) := by rw [List.getElem?_replicate, if_pos h]
  have h1 := sum_setF (fun z => if 0 ≤ z then (1 : Int) else 0) (y := 0) hg
  have h2 := (cn_le (List.replicate n (-1 : Int))).1
  refine ⟨hc, fun z hz => ?_, dist0_sound (by omega) (by omega)⟩
  have h3 : cn (dist0 n td) = cn (List.replicate n (-1 : Int)) + 1 := by
    unfold cn dist0
    rw [Int.toNat_natCast, h1]; simp
  unfold dist0 at hz
  rcases List.mem_or_eq_of_mem_set hz with hz | rfl
  · rw [List.eq_of_mem_replicate hz]; omega
  · omega
theorem repC_next {k n : Nat} (h : k < n) : (repC k n).set k (.int .i64 (-1)) = repC (k + 1) n := by
  apply List.ext_getElem?
  intro j
  unfold repC
  simp only [List.map_append, List.map_replicate]
  grind
end Go.Proofs.Ytflbddfmhjlknaa
