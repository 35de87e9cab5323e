/-
  Lists of texts; addresses are valid, in both packages.
-/
import Derived.Test.YtofjnmeblmbnmaaNeaA
import Derived.Test.YtofjnmeblmbnmaaRunO
import Derived.StillTailTactics
namespace Go.Proofs.Ytofjnmeblmbnmaa
open Go.RowKit
def RdS (w : World) (B : Nat) (A : Option Addr) (xs : List ByteArray) : Prop := Rd w B A (xs.map Value.string)
theorem RdS.below {w w' : World} {B : Nat} {A : Option Addr} {xs : List ByteArray} (h : RdS w B A xs) (k : Below B w w') : RdS w' B A xs := Rd.below h k
theorem RdS.more {w : World} {B B' : Nat} {A : Option Addr} {xs : List ByteArray} (h : RdS w B A xs) (k : B ≤ B') : RdS w B' A xs := Rd.more h k
theorem RdS.at_ {w : World} {B : Nat} {A : Option Addr} {xs : List ByteArray} (h : RdS w B A xs) {j : Nat} (hj : j < xs.length) : ∃ b o s, A = some ⟨b, o, none⟩ ∧ b < B ∧ xs[j]? = some s ∧ w.cell? ⟨b, o + j, none⟩ = some (.string s) := by
  obtain ⟨b, o, u, hA, hb, hu, hc⟩ := Rd.at_ h (j := j) (by rw [List.length_map]; exact hj)
  rw [List.getElem?_map] at hu
  cases hx : xs[j]? with
  | none => rw [hx] at hu; cases hu
  | some s => rw [hx] at hu; cases hu; exact ⟨b, o, s, hA, hb, rfl, hc⟩
theorem RdS.take {w : World} {B b o : Nat} {xs : List ByteArray} (h : RdS w B (some ⟨b, o, none⟩) xs) (k : Nat) : RdS w B (some ⟨b, o, none⟩) (xs.take k) := fun hn => by
  have hn2 : xs.map Value.string ≠ [] := by
    intro e
    apply hn
    rw [List.map_take, e, List.take_nil]
  obtain ⟨b', o', hA, hb, hc⟩ := h hn2
  refine ⟨b', o', hA, hb, fun j u hu => hc j u ?_⟩
  rw [List.map_take, List.getElem?_take] at hu
  split at hu
  · exact hu
  · cases hu
theorem txt_eq (a b : ByteArray) : (a.toList == b.toList) = decide (a = b) := by
  rw [ByteArray.toList_eq, ByteArray.toList_eq]
  by_cases h : a = b
  · subst h; simp
  · rw [decide_eq_false h, beq_eq_false_iff_ne]
    intro e
    exact h (ByteArray.ext (Array.toList_inj.mp e))
def hasS (xs : List ByteArray) (v : ByteArray) : Bool := xs.any fun z => decide (z = v)
def txt (ws : List ByteArray) (i : Nat) : ByteArray := (ws[i]?).getD ByteArray.empty
theorem txt_get {ws : List ByteArray} {i : Nat} {s : ByteArray} (h : ws[i]? = some s) : txt ws i = s := by unfold txt; rw [h]; rfl
/-- The word with number i is an address beside those before it. -/
def okA (n : Int) (ws : List ByteArray) (i : Nat) : Bool := wordB n (txt ws i) && (decide ((txt ws i).size = (txt ws 0).size) && !hasS (ws.take i) (txt ws i))
def okN (n : Int) (ws : List ByteArray) : Nat → Nat → Bool
  | _, 0 => true
  | i, m + 1 => okA n ws i && okN n ws (i + 1) m
def addrs (n : Int) (ws : List ByteArray) : Bool := decide (2 ≤ n ∧ n ≤ 4) && (decide (ws.length ≤ 40) && okN n ws 0 ws.length)
theorem addrs_signs {n : Int} {ws : List ByteArray} (h : ¬ (2 ≤ n ∧ n ≤ 4)) : addrs n ws = false := by unfold addrs; rw [decide_eq_false h]; rfl
theorem addrs_long {n : Int} {ws : List ByteArray} (h : ¬ ws.length ≤ 40) : addrs n ws = false := by unfold addrs; rw [decide_eq_false h]; simp
theorem addrs_eq {n : Int} {ws : List ByteArray} (h : 2 ≤ n ∧ n ≤ 4) (k : ws.length ≤ 40) : addrs n ws = okN n ws 0 ws.length := by unfold addrs; rw [decide_eq_true h, decide_eq_true k]; rfl
set_option maxRecDepth 100000 in
set_option maxHeartbeats 1000000 in
theorem indexS_any (xs : List ByteArray) (v : ByteArray) (A : Option Addr) (c : Nat) (w : World) (hx : xs.length ≤ 1048576) (h1 : RdS w w.heap.size A xs) :
    Calls Try.prog 46 #[.slice A xs.length c, .string v] w fun e w' => e = .returned (.int .i64 (firstI (fun z => decide (z = v)) xs 0)) ∧ w = w' := by
  have HX := hide h1; clear h1
  go_enter Try.func46, Try.ntmps46
  go_wp2_with fail
  go_loopg [8] xs.length (fun g i wr => ∃ k : Nat, k ≤ xs.length ∧ Hid (g = xs.length - k) ∧ i = .int .i64 k ∧ Hid (firstI (fun z => decide (z = v)) xs 0 = firstI (fun z => decide (z = v)) (xs.drop k) k) ∧ wr = w)
  case atStart => exact ⟨0, by omega, by simp [Hid], rfl, by simp [Hid], rfl⟩
  case round =>
    obtain ⟨k, hk, hg, rfl, HS, rfl⟩ := hrel
    by_cases hlt : k < xs.length
    · obtain ⟨b1, o1, z1, rfl, _, hz1, hca⟩ := HX.out.at_ hlt
      have HS' := HS.out
      rw [drop_cons hz1, firstI] at HS'
      have HQ := hide HS'
      clear HS' HS hz1
      by_cases he : z1 = v
      · have HN := hide (show firstI (fun z => decide (z = v)) xs 0 = k by rw [HQ.out, if_pos (decide_eq_true he)])
        have hB : (v.toList == z1.toList) = true := by rw [txt_eq, he]; simp
        clear he
        go_wp2_with fail
        go_ret
        exact ⟨ret_i HN.out.symm, rfl⟩
      · have HN := hide (show firstI (fun z => decide (z = v)) xs 0 = firstI (fun z => decide (z = v)) (xs.drop (k + 1)) (k + 1) by rw [HQ.out, if_neg (by simp [he])])
        have hB : (v.toList == z1.toList) = false := by rw [txt_eq]; exact decide_eq_false fun e => he e.symm
        clear he
        go_wp2_with fail
        go_roundg (xs.length - (k + 1))
        case measure => have := hg.out; omega
        case rel => exact ⟨k + 1, by omega, rfl, by go_num, HN, rfl⟩
    · have HN := hide (HS.out.trans (by rw [List.drop_eq_nil_of_le (by omega), firstI] : _ = (-1 : Int)))
      go_wp2_with fail
      go_ret
      exact ⟨ret_i HN.out.symm, rfl⟩
set_option maxRecDepth 100000 in
set_option maxHeartbeats 1000000 in
theorem containsS_any (xs : List ByteArray) (v : ByteArray) (A : Option Addr) (c : Nat) (w : World) (hx : xs.length ≤ 1048576) (h1 : RdS w w.heap.size A xs) :
    Calls Try.prog 43 #[.slice A xs.length c, .string v] w fun e w' => e = .returned (.bool (hasS xs v)) ∧ w = w' := by
  have HC := hide (indexS_any xs v A c w hx h1)
  have HE := hide (firstI_ge (fun z => decide (z = v)) xs 0)
  clear h1
  go_enter Try.func43, Try.ntmps43
  go_wp2_with (go_at_call 46; refine (HC.out).mono ?_; rintro e w' ⟨rfl, rfl⟩)
  go_ret
  exact ⟨ret_b HE.out, rfl⟩
end Go.Proofs.Ytofjnmeblmbnmaa
