/-
  Orders of wishes: the codes; in the program and in the reference.
-/
import Derived.Test.YtflbddfmhjlknaaRunV
namespace Go.Proofs.Ytflbddfmhjlknaa
open Go.RowKit

def hasI (xs : List Int) (v : Int) : Bool := xs.any fun z => decide (z = v)
def ordGo (n : Int) : List Int → List Int → Bool
  | _, [] => true
  | pre, k :: r => inB 0 (n - 1) k && (!hasI pre k && ordGo n (pre ++ [k]) r)
def ordOk (n : Nat) (order : List Int) : Bool := ordGo n [] order && decide (order.length = n)
def codeO (ts : List Int) (l : List TN) (order : List Int) : Int := if vWishes ts l = true then (if ordOk l.length order = true then 0 else 2) else 1
theorem ordGo_drop {n : Int} {xs : List Int} {k : Nat} {z : Int} (h : xs[k]? = some z) : ordGo n (xs.take k) (xs.drop k) = (inB 0 (n - 1) z && (!hasI (xs.take k) z && ordGo n (xs.take (k + 1)) (xs.drop (k + 1)))) := by
  obtain ⟨hl, he⟩ := List.getElem?_eq_some_iff.1 h
  rw [drop_cons h, ordGo, List.take_succ_eq_append_getElem hl, he]
theorem cap_of {e : TypeId} {s : Nat} {w : World} {lo hi : Nat} {v : Value} {n : Nat} {xs : List Value} (h : OwnV e s w lo hi v n xs) : ∀ A m c, v = .slice A m c → m ≤ c := by
  intro A m c hv
  rcases h.2.2 with ⟨h0, _⟩ | ⟨ho, _⟩
  · obtain ⟨A', c', he⟩ := h.1
    rw [hv] at he
    simp only [Value.slice.injEq] at he
    omega
  · obtain ⟨A', c', he, hle, _⟩ := own_shape ho
    rw [hv] at he
    simp only [Value.slice.injEq] at he
    omega
theorem RdI.take {w : World} {B : Nat} {A : Option Addr} {xs : List Int} (h : RdI w B A xs) (k : Nat) : RdI w B A (xs.take k) := fun hn => by
  obtain ⟨b, o, hA, hb, hc⟩ := h (by intro e; apply hn; rw [List.map_eq_nil_iff] at e; rw [e]; simp)
  refine ⟨b, o, hA, hb, fun j u hu => hc j u ?_⟩
  rw [List.getElem?_map] at hu ⊢
  by_cases hj : j < k
  · rw [List.getElem?_take_of_lt hj] at hu; exact hu
  · rw [List.getElem?_eq_none (by rw [List.length_take]; omega)] at hu; cases hu
set_option maxRecDepth 100000 in
set_option maxHeartbeats 4000000 in
theorem indexI_any (xs : List Int) (v : Int) (A : Option Addr) (c : Nat) (w : World) (hx : xs.length ≤ 1048576) (h1 : RdI w w.heap.size A xs) :
    Calls Try.prog 176 #[.slice A xs.length c, .int .i64 v] w fun e w' => e = .returned (.int .i64 (firstI (fun z => decide (z = v)) xs 0)) ∧ Below w.heap.size w w' := by
  have HX := hide h1; clear h1
  go_enter Try.func176, Try.ntmps176
  go_wp2_with fail
  go_loopg [8] xs.length (fun g i wr => ∃ k : Nat, k ≤ xs.length ∧ Hid (g = xs.length - k) ∧ i = .int .i64 k ∧ Hid (firstI (fun z => decide (z = v)) xs 0 = firstI (fun z => decide (z = v)) (xs.drop k) k) ∧ Below w.heap.size w wr)
  case atStart => exact ⟨0, by omega, by simp [Hid], rfl, by simp [Hid], Below.refl _ _⟩
  case round =>
    obtain ⟨k, hk, hg, rfl, HS, hb⟩ := hrel
    by_cases hlt : k < xs.length
    · obtain ⟨b1, o1, z1, rfl, _, hz1, hca⟩ := (HX.out.below hb).at_ hlt
      have HS' := HS.out
      rw [drop_cons hz1, firstI] at HS'
      have HQ := hide HS'
      clear HS' HS hz1
      by_cases he : z1 = v
      · have hB : (v == z1) = true := by simp [he]
        have HN := hide (show firstI (fun z => decide (z = v)) xs 0 = k by rw [HQ.out, if_pos (decide_eq_true he)])
        clear he
        go_wp2_with fail
        go_ret
        exact ⟨ret_i HN.out.symm, hb⟩
      · have hB : (v == z1) = false := by simp; exact fun e => he e.symm
        have HN := hide (show firstI (fun z => decide (z = v)) xs 0 = firstI (fun z => decide (z = v)) (xs.drop (k + 1)) (k + 1) by rw [HQ.out, if_neg (by simp [he])])
        clear he
        go_wp2_with fail
        go_roundg (xs.length - (k + 1))
        case measure => have := hg.out; omega
        case rel => exact ⟨k + 1, by omega, rfl, by go_num, HN, hb⟩
    · have HN := hide (HS.out.trans (by rw [List.drop_eq_nil_of_le (by omega), firstI] : _ = (-1 : Int)))
      go_wp2_with fail
      go_ret
      exact ⟨ret_i HN.out.symm, hb⟩
set_option maxRecDepth 100000 in
set_option maxHeartbeats 4000000 in
theorem containsI_any (xs : List Int) (v : Int) (A : Option Addr) (c : Nat) (w : World) (hx : xs.length ≤ 1048576) (h1 : RdI w w.heap.size A xs) :
    Calls Try.prog 158 #[.slice A xs.length c, .int .i64 v] w fun e w' => e = .returned (.bool (hasI xs v)) ∧ Below w.heap.size w w' := by
  have HC := hide (indexI_any xs v A c w hx h1)
  have HE := hide (firstI_ge (fun z => decide (z = v)) xs 0)
  clear h1
  go_enter Try.func158, Try.ntmps158
  go_wp2_with (go_at_call 176; refine (HC.out).mono ?_; rintro e w1 ⟨rfl, hb1⟩)
  go_ret
  exact ⟨ret_b HE.out, hb1⟩
end Go.Proofs.Ytflbddfmhjlknaa
