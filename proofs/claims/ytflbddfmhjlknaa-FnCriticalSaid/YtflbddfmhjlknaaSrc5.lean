/-
  Drawn times and wishes, off bytes; small helpers of the laws.
-/
import Derived.Test.YtflbddfmhjlknaaSrc4
import Derived.Test.YtflbddfmhjlknaaRunO
namespace Go.Proofs.Ytflbddfmhjlknaa
open Go.RowKit

theorem small_drawn {n : Nat} : ∀ {l : List TN}, (∀ e ∈ l, WDrawn n e) → (l.map fun e => e.way.length).sum ≤ 4 * l.length := by
  intro l
  induction l with
  | nil => intro _; simp
  | cons e l ih =>
    intro h
    rw [List.map_cons, List.sum_cons, List.length_cons]
    have h1 := (h e (List.mem_cons_self ..)).1.1.2
    have h2 := ih fun x hx => h x (List.mem_cons_of_mem _ hx)
    omega
theorem below_of_src {w w1 w2 : World} (h : Below w.heap.size w w1) (k : Only w.heap.size (w.heap.size + 1) w1 w2) : Below w.heap.size w w2 := h.trans (k.below (Nat.le_refl _) h.size)
set_option maxRecDepth 100000 in
set_option maxHeartbeats 1000000 in
theorem a2Long_any (n m : Nat) (A A2 : Option Addr) (c c2 : Nat) (w : World) (hn : n ≤ 9223372036854775807) (hm : m ≤ 9223372036854775807) :
    Calls Try.prog 65 #[.slice A n c, .slice A2 m c2] w fun e w' => e = .returned (.bool (decide (3000 < n ∨ 3000 < m))) ∧ w = w' := by
  by_cases h1 : 3000 < n
  · have hR : decide (3000 < n ∨ 3000 < m) = true := decide_eq_true (.inl h1)
    have HR := hide hR
    have h1' : (3000 : Int) < (n : Int) := by omega
    clear hR
    go_enter Try.func65, Try.ntmps65
    go_wp2_with fail
    go_ret
    exact ⟨ret_b HR.out.symm, rfl⟩
  by_cases h2 : 3000 < m
  · have hR : decide (3000 < n ∨ 3000 < m) = true := decide_eq_true (.inr h2)
    have HR := hide hR
    have h1' : decide ((3000 : Int) < (n : Int)) = false := decide_eq_false (by omega)
    have h2' : decide ((3000 : Int) < (m : Int)) = true := decide_eq_true (by omega)
    clear hR
    go_enter Try.func65, Try.ntmps65
    go_wp2_with fail
    go_ret
    exact ⟨ret_b HR.out.symm, rfl⟩
  · have hR : decide (3000 < n ∨ 3000 < m) = false := decide_eq_false (by omega)
    have HR := hide hR
    have h1' : decide ((3000 : Int) < (n : Int)) = false := decide_eq_false (by omega)
    have h2' : decide ((3000 : Int) < (m : Int)) = false := decide_eq_false (by omega)
    clear hR
    go_enter Try.func65, Try.ntmps65
    go_wp2_with fail
    go_ret
    exact ⟨ret_b HR.out.symm, rfl⟩
set_option maxRecDepth 100000 in
set_option maxHeartbeats 4000000 in
theorem a2Has_any (xs : List Int) (v : Int) (A : Option Addr) (c : Nat) (w : World) (hx : xs.length ≤ 1048576) (h1 : RdI w w.heap.size A xs) :
    Calls Try.prog 71 #[.slice A xs.length c, .int .i64 v] w fun e w' => e = .returned (.bool (hasI xs v)) ∧ w = w' := by
  have HX := hide h1; clear h1
  go_enter Try.func71, Try.ntmps71
  go_wp2_with fail
  go_loopg [5] xs.length (fun g i wr => ∃ k : Nat, k ≤ xs.length ∧ Hid (g = xs.length - k) ∧ i = .int .i64 k ∧ Hid (hasI xs v = hasI (xs.drop k) v) ∧ w = wr)
  case atStart => exact ⟨0, by omega, by simp [Hid], rfl, by simp [Hid], rfl⟩
  case round =>
    obtain ⟨k, hk, hg, rfl, HS, rfl⟩ := hrel
    by_cases hlt : k < xs.length
    · obtain ⟨b1, o1, z1, rfl, _, hz1, hca⟩ := HX.out.at_ hlt
      have HS' := HS.out
      rw [drop_cons hz1, hasI, hasI, List.any_cons] at HS'
      have HQ : Hid (hasI xs v = (decide (z1 = v) || hasI (xs.drop (k + 1)) v)) := HS'
      clear HS' HS hz1
      by_cases he : z1 = v
      · have hB : (z1 == v) = true := by simp [he]
        have HN := hide (show hasI xs v = true by rw [HQ.out, decide_eq_true he]; rfl)
        clear he
        go_wp2_with fail
        go_ret
        exact ⟨ret_b HN.out.symm, rfl⟩
      · have hB : (z1 == v) = false := by simp [he]
        have HN := hide (show hasI xs v = hasI (xs.drop (k + 1)) v by rw [HQ.out, decide_eq_false he]; rfl)
        clear he
        go_wp2_with fail
        go_roundg (xs.length - (k + 1))
        case measure => have := hg.out; omega
        case rel => exact ⟨k + 1, by omega, rfl, by go_num, HN, rfl⟩
    · have HN := hide (show hasI xs v = false by rw [HS.out, List.drop_eq_nil_of_le (by omega)]; rfl)
      go_wp2_with fail
      go_ret
      exact ⟨ret_b HN.out.symm, rfl⟩
end Go.Proofs.Ytflbddfmhjlknaa
