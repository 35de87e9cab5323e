/-
  The laws' helpers mark and held for lists whose elements hold a list of numbers, by contract.
-/
import Derived.Test.YtofjnmeblmbnmaaNestL
namespace Go.Proofs.Ytofjnmeblmbnmaa
open Go.RowKit

theorem own_only {w w' : World} {g a b n c s : Nat} {e : TypeId} {xs : List Value} (h : w.ownsRow g e s (.slice (some ⟨g, 0, none⟩) n c) n xs) (k : Only a b w w') (hd : b ≤ g ∨ g < a) : w'.ownsRow g e s (.slice (some ⟨g, 0, none⟩) n c) n xs := by
  refine ⟨h.1, ?_⟩
  rcases h.2 with h0 | ⟨g', cap, cur, he, hb, hg, rest⟩
  · exact .inl h0
  · simp only [Value.slice.injEq, Option.some.injEq, Addr.mk.injEq, and_true, true_and] at he
    obtain ⟨rfl, rfl⟩ := he
    exact .inr ⟨g, _, cur, rfl, hb, (k.2.2.2.2 g (lt_of_block hg) (by omega)).trans hg, rest⟩
theorem onv_block {e : TypeId} {s : Nat} {w : World} {lo hi n : Nat} {v : Value} {xs : List Value} (h : OwnV e s w lo hi v n xs) (hn : 0 < n) : ∃ g c, v = .slice (some ⟨g, 0, none⟩) n c ∧ lo ≤ g ∧ g < hi ∧ w.ownsRow g e s v n xs ∧ w.ownsRow lo e s v n xs := by
  obtain ⟨⟨A, c, rfl⟩, _, h0 | ⟨ho, hlt⟩⟩ := h
  · omega
  · rcases ho.2 with ⟨_, h0⟩ | ⟨g, cap, cur, he, hb, hg, rest⟩
    · omega
    · simp only [Value.slice.injEq, true_and] at he
      obtain ⟨rfl, rfl⟩ := he
      exact ⟨g, _, rfl, hb, hlt g rfl, ⟨ho.1, .inr ⟨g, _, cur, rfl, Nat.le_refl _, hg, rest⟩⟩, ho⟩
theorem set_mid {α : Type} {us vs : List α} {p q : α} {j : Nat} (h : us.length = j) : (us ++ p :: vs).set j q = (us ++ [q]) ++ vs := by
  rw [List.set_append_right _ _ (by omega), h, Nat.sub_self, List.set_cons_zero, List.append_assoc]; rfl
theorem get_mid {α : Type} {us vs : List α} {p : α} {j : Nat} (h : us.length = j) : (us ++ p :: vs)[j]? = some p := by
  rw [List.getElem?_append_right (by omega), h, Nat.sub_self]; rfl
theorem mark1 {L : List (Value × TN)} {k : Nat} {p : Value × TN} (h : L[k]? = some p) (way : List Int) (a : Int) : (L.flatMap (Nc 1)).set (k * 2 + 1) (.int .i64 a) = (L.set k (p.1, ⟨way, a, p.2.q⟩)).flatMap (Nc 1) :=
  flatMap_set (Nc 1) 2 (fun _ => rfl) L k 1 p (p.1, ⟨way, a, p.2.q⟩) (.int .i64 a) h (by omega) rfl
theorem mark2 {L : List (Value × TN)} {k : Nat} {p : Value × TN} (h : L[k]? = some p) (way : List Int) (a b : Int) : ((L.flatMap (Nc 2)).set (k * 3 + 1) (.int .i64 a)).set (k * 3 + 2) (.int .i64 b) = (L.set k (p.1, ⟨way, a, b⟩)).flatMap (Nc 2) := by
  have h1 := flatMap_set (Nc 2) 3 (fun _ => rfl) L k 1 p (p.1, ⟨way, a, p.2.q⟩) (.int .i64 a) h (by omega) rfl
  have h2 := flatMap_set (Nc 2) 3 (fun _ => rfl) (L.set k (p.1, ⟨way, a, p.2.q⟩)) k 2 (p.1, ⟨way, a, p.2.q⟩) (p.1, ⟨way, a, b⟩) (.int .i64 b) (List.getElem?_set_self (lt_of_get h)) (by omega) rfl
  rw [h1, h2, set_set_same]
theorem mark0 {L : List (Value × TN)} {k : Nat} {p : Value × TN} (h : L[k]? = some p) (z : TN) : L.flatMap (Nc 0) = (L.set k (p.1, z)).flatMap (Nc 0) := by
  have h1 := flatMap_set (Nc 0) 1 (fun _ => rfl) L k 0 p (p.1, z) p.1 h (by omega) rfl
  rw [Nat.add_zero, Nat.mul_one] at h1
  rw [← h1]
  have h2 := flatMap_get (Nc 0) 1 (fun _ => rfl) L k 0 p h (by omega)
  rw [Nat.add_zero, Nat.mul_one] at h2
  refine (List.ext_getElem? fun i => ?_)
  by_cases hi : i = k
  · subst hi; rw [List.getElem?_set_self (lt_of_get h2), h2]; rfl
  · rw [List.getElem?_set_ne (fun e => hi e.symm)]
theorem take_next {α : Type} {x : List α} {j : Nat} {e : α} (h : x[j]? = some e) : x.take (j + 1) = x.take j ++ [e] := by
  obtain ⟨hl, he⟩ := List.getElem?_eq_some_iff.1 h
  rw [List.take_succ_eq_append_getElem hl, he]
theorem mkN_next {m : Nat} {x : List TN} {j : Nat} {e : TN} (h : x[j]? = some e) (k : Int) : mkN m (x.take (j + 1)) k = mkN m (x.take j) k ++ [⟨mark_Int64S e.way (k + cntN m (x.take j)), if 1 ≤ m then k + cntN m (x.take j) + e.way.length else e.p, if 2 ≤ m then k + cntN m (x.take j) + e.way.length + 1 else e.q⟩] := by
  rw [take_next h, mkN_append, mkN, mkN]
theorem cntN_le {m : Nat} (hm : m ≤ 2) {x : List TN} (hs : SmallN x) (j : Nat) : 0 ≤ cntN m (x.take j) ∧ cntN m (x.take j) ≤ 4194304 := by
  have h1 := cntN_bd m hm x
  have h2 := cntN_bd m hm (x.take j)
  have h3 := cntN_bd m hm (x.drop j)
  have h4 := cntN_append m (x.take j) (x.drop j)
  rw [List.take_append_drop] at h4
  unfold SmallN at hs
  omega
end Go.Proofs.Ytofjnmeblmbnmaa
