/-
  Zones: the changes that change nothing; in the program and in the reference.
-/
import Derived.Test.YticgaiboolojkaaZon7
namespace Go.Proofs.Yticgaiboolojkaa
open Go.RowKit

theorem lvlGo_append {zone t : Int} : ∀ {us vs : List T3} {acc : Int}, lvlGo zone t acc (us ++ vs) = lvlGo zone t (lvlGo zone t acc us) vs := by
  intro us
  induction us with
  | nil => intro vs acc; rfl
  | cons a us ih => intro vs acc; rw [List.cons_append, lvlGo, lvlGo, ih]
theorem lvlGo_ticks {zone t t' : Int} : ∀ {cs : List T3} {acc : Int}, (∀ c ∈ cs, c.b = zone → (c.a ≤ t ↔ c.a ≤ t')) → lvlGo zone t acc cs = lvlGo zone t' acc cs := by
  intro cs
  induction cs with
  | nil => intro acc _; rfl
  | cons c cs ih =>
    intro acc h
    have h1 := h c (List.mem_cons_self ..)
    rw [lvlGo, lvlGo, ih fun d hd => h d (List.mem_cons_of_mem _ hd)]
    congr 1
    by_cases hz : c.b = zone
    · by_cases ht : c.a ≤ t
      · rw [if_pos ⟨hz, ht⟩, if_pos ⟨hz, (h1 hz).1 ht⟩]
      · rw [if_neg fun k => ht k.2, if_neg fun k => ht ((h1 hz).2 k.2)]
    · rw [if_neg fun k => hz k.1, if_neg fun k => hz k.1]
theorem lvl_before {x : TZ} (hv : vZoned x = true) {k : Nat} {c : T3} (hk : x.ch[k]? = some c) : lvl x.ch c.b (c.a - 1) = lvlGo c.b 10000 0 (x.ch.take k) := by
  have hc := (vZoned_iff hv).2.2.2.2
  obtain ⟨hs, ho⟩ := chOk_sorted hc
  have hl := lt_of_get hk
  have hlate : ∀ d ∈ x.ch.drop k, c.a - 1 < d.a := fun d hd => by
    rw [drop_cons hk] at hd
    rcases List.mem_cons.1 hd with rfl | hd
    · omega
    · have := ltC_iff.1 ((chOk_at hc hk).2 d hd); omega
  have hearly : ∀ d ∈ x.ch.take k, d.b = c.b → (d.a ≤ c.a - 1 ↔ d.a ≤ 10000) := fun d hd hb => by
    obtain ⟨i, hi, he⟩ := List.getElem_of_mem hd
    rw [List.getElem_take] at he
    rw [List.length_take] at hi
    have hi2 : x.ch[i]? = some d := by rw [List.getElem?_eq_getElem (by omega), he]
    have hmem : c ∈ x.ch.drop (i + 1) := by
      refine List.mem_of_getElem? (i := k - (i + 1)) ?_
      rw [List.getElem?_drop, show i + 1 + (k - (i + 1)) = k by omega]; exact hk
    have h1 := ltC_iff.1 ((chOk_at hc hi2).2 c hmem)
    have h2 := (okC_iff.1 (ho d (List.mem_of_mem_take hd))).1
    omega
  unfold lvl
  conv => lhs; rw [← List.take_append_drop k x.ch]
  rw [lvlGo_append, lvlGo_late hlate, lvlGo_ticks hearly]
theorem lvl_next {cs : List T3} {k : Nat} {c : T3} (hk : cs[k]? = some c) (zone : Int) (hc : c.a ≤ 10000) : lvlGo zone 10000 0 (cs.take (k + 1)) = if c.b = zone then c.c else lvlGo zone 10000 0 (cs.take k) := by
  obtain ⟨hl, he⟩ := List.getElem?_eq_some_iff.1 hk
  rw [List.take_succ_eq_append_getElem hl, he, lvlGo_append, lvlGo, lvlGo]
  by_cases hz : c.b = zone
  · rw [if_pos ⟨hz, hc⟩, if_pos hz]
  · rw [if_neg fun k => hz k.1, if_neg hz]
def nlC (x : TZ) (c : T3) : Bool := decide (c.c = lvl x.ch c.b (c.a - 1))
theorem nlC_t {x : TZ} {c : T3} (h : c.c = lvl x.ch c.b (c.a - 1)) : nlC x c = true := decide_eq_true h
theorem nlC_f {x : TZ} {c : T3} (h : ¬ c.c = lvl x.ch c.b (c.a - 1)) : nlC x c = false := decide_eq_false h
theorem idx_hit {α : Type} {p : α → Bool} {xs : List α} {k : Nat} {z : α} {r acc : List Int} (hz : xs[k]? = some z) (hp : p z = true) (h : r = acc ++ idxFrom p (xs.drop k) k) : r = (acc ++ [(k : Int)]) ++ idxFrom p (xs.drop (k + 1)) (k + 1) := by
  rw [h, drop_cons hz, idxFrom, if_pos hp]; simp
theorem idx_miss {α : Type} {p : α → Bool} {xs : List α} {k : Nat} {z : α} {r acc : List Int} (hz : xs[k]? = some z) (hp : p z = false) (h : r = acc ++ idxFrom p (xs.drop k) k) : r = acc ++ idxFrom p (xs.drop (k + 1)) (k + 1) := by
  rw [h, drop_cons hz, idxFrom, if_neg (by simp [hp])]
theorem own_at9 {w : World} {base : Nat} {e : TypeId} {n c g : Nat} {zs : List Int} (h : w.ownsRow base e 1 (.slice (some ⟨g, 0, none⟩) n c) n (zs.map (Value.int .i64))) {i : Nat} {z : Int} (hz : zs[i]? = some z) : w.cell? ⟨g, i, none⟩ = some (.int .i64 z) := by
  have hl := h.1
  have hi := lt_of_get hz
  simp only [List.length_map, Nat.mul_one] at hl
  rw [h.cellAt i (by omega), List.getElem?_map, hz]; rfl
theorem own_set9 {w : World} {base : Nat} {e : TypeId} {n c g : Nat} {zs : List Int} (h : w.ownsRow base e 1 (.slice (some ⟨g, 0, none⟩) n c) n (zs.map (Value.int .i64))) (i : Nat) (z : Int) :
    (w.setCell ⟨g, i, none⟩ (.int .i64 z)).ownsRow base e 1 (.slice (some ⟨g, 0, none⟩) n c) n ((zs.set i z).map (Value.int .i64)) ∧ w.grownBy (w.setCell ⟨g, i, none⟩ (.int .i64 z)) (some g) := by
  have := h.stored i (.int .i64 z)
  rw [← List.map_set] at this
  exact this
theorem own_drew9 {w : World} {base : Nat} {e : TypeId} {size n : Nat} {v : Value} {xs : List Value} (h : w.ownsRow base e size v n xs) (k : Nat) : (w.drewN k).ownsRow base e size v n xs := h
def needlessChanges (x : TZ) : List Int × Int := if vZoned x = true then (idxFrom (nlC x) x.ch 0, 0) else ([], 1)
end Go.Proofs.Yticgaiboolojkaa
