/-
  Distances of two words, and words, in both packages.
-/
import Derived.Test.YtofjnmeblmbnmaaNeaP
import Derived.Test.YtofjnmeblmbnmaaLawH
import Derived.Test.YtofjnmeblmbnmaaOpenB
import Derived.BigQuiet
import Derived.Deep.DeepCutAuto
namespace Go.Proofs.Ytofjnmeblmbnmaa
open Go.RowKit
theorem chr_of {s : ByteArray} {i : Nat} (h : i < s.size) : (((s[i]'h).toNat : Nat) : Int) = chr s i := by
  unfold chr
  congr 2
  cases s with
  | mk d =>
    show d[i] = d[i]!
    exact (getElem!_pos d i h).symm
theorem qdn {P : Program} {f : FuncId} {args : Array Value} {w : World} {n : Nat} {v : Value}
    (h : Calls P f args (w.drewN n) fun e w' => e = .returned v ∧ ∃ m, w' = (w.drewN n).drewN m) : Calls P f args (w.drewN n) fun e w'' => e = .returned v ∧ ∃ m, w'' = w.drewN m :=
  h.mono fun _ _ ⟨he, m, hm⟩ => ⟨he, n + m, by rw [hm, World.drewN_drewN]⟩
set_option maxRecDepth 100000 in
set_option maxHeartbeats 4000000 in
theorem l05Far_any (a b : ByteArray) (w : World) (hs : a.size = b.size) (hl : a.size ≤ 1048576) :
    Calls Try.prog 34 #[.string a, .string b] w fun e w' => e = .returned (.int .i64 (farB a b)) ∧ ∃ m, w' = w.drewN m := by
  have ka : ∀ (i : Nat) (h : i < a.size), (((a[i]'h).toNat : Nat) : Int) = chr a i := fun i h => chr_of h
  have kb : ∀ (i : Nat) (h : i < b.size), (((b[i]'h).toNat : Nat) : Int) = chr b i := fun i h => chr_of h
  have HS := hide hs
  clear hs
  go_enter Try.func34, Try.ntmps34
  go_wp2_with fail
  go_loopg [6, 5] a.size (fun g i s wr => ∃ (j : Nat) (x : Int), j ≤ a.size ∧ Hid (g = a.size - j) ∧ i = .int .i64 j ∧ s = .int .i64 x ∧ 0 ≤ x ∧ x ≤ j ∧ Hid (farB a b = x + farN a b j (a.size - j)) ∧ ∃ m, wr = w.drewN m)
  case atStart => exact ⟨0, 0, by omega, by simp [Hid], rfl, rfl, by omega, by omega, by simp [Hid, farB], 0, rfl⟩
  case round =>
    obtain ⟨j, x, hj, hgj, rfl, rfl, hx0, hx1, HT, m, rfl⟩ := hrel
    by_cases hjt : j < a.size
    · have hjb : j < b.size := by have := HS.out; omega
      have hT := HT.out
      rw [show a.size - j = (a.size - (j + 1)) + 1 by omega, farN] at hT
      have hji : (j : Int) < (a.size : Int) := by omega
      have hjc : (j : Int) < (b.size : Int) := by omega
      have hj0 : (0 : Int) ≤ (j : Int) := by omega
      by_cases hc : chr a j = chr b j
      · rw [if_pos hc] at hT
        have HT2 : Hid (farB a b = x + farN a b (j + 1) (a.size - (j + 1))) := by unfold Hid; omega
        have hB : (chr a j != chr b j) = false := by simp [hc]
        have HC := hide hc
        clear hT hc
        go_wp2_with fail
        go_quiet (fail)
        go_wp2_with fail
        go_roundg (a.size - (j + 1))
        case measure => have := hgj.out; omega
        case rel => exact ⟨j + 1, x, by omega, rfl, by go_num, rfl, by omega, by omega, HT2, m + nq, rfl⟩
      · rw [if_neg hc] at hT
        have HT2 : Hid (farB a b = (x + 1) + farN a b (j + 1) (a.size - (j + 1))) := by unfold Hid; omega
        have hB : (chr a j != chr b j) = true := by simp [hc]
        have HC := hide hc
        have hwr : IntKind.i64.wrap (x + 1) = x + 1 := by rw [IntKind.wrap_i64] <;> omega
        clear hT hc
        go_wp2_with fail
        go_quiet (fail)
        go_wp2_with fail
        go_roundg (a.size - (j + 1))
        case measure => have := hgj.out; omega
        case rel => exact ⟨j + 1, x + 1, by omega, rfl, by go_num, rfl, by omega, by omega, HT2, m + nq, rfl⟩
    · have hd := HT.out
      rw [show a.size - j = 0 by omega, farN, Int.add_zero] at hd
      have HD := hide hd
      clear hd
      go_wp2_with fail
      go_ret
      exact ⟨ret_i HD.out.symm, m, rfl⟩
set_option maxRecDepth 100000 in
set_option maxHeartbeats 4000000 in
theorem distance_any (a b : ByteArray) (w : World) (hs : a.size = b.size) (hl : a.size ≤ 1048576) :
    Calls Try.prog 31 #[.string a, .string b] w fun e w' => e = .returned (.int .i64 (farB a b)) ∧ ∃ m, w' = w.drewN m := by
  have ka : ∀ (i : Nat) (h : i < a.size), (((a[i]'h).toNat : Nat) : Int) = chr a i := fun i h => chr_of h
  have kb : ∀ (i : Nat) (h : i < b.size), (((b[i]'h).toNat : Nat) : Int) = chr b i := fun i h => chr_of h
  have HS := hide hs
  clear hs
  go_enter Try.func31, Try.ntmps31
  go_wp2_with fail
  go_loopg [9, 5] a.size (fun g i s wr => ∃ (j : Nat) (x : Int), j ≤ a.size ∧ Hid (g = a.size - j) ∧ i = .int .i64 j ∧ s = .int .i64 x ∧ 0 ≤ x ∧ x ≤ j ∧ Hid (farB a b = x + farN a b j (a.size - j)) ∧ ∃ m, wr = w.drewN m)
  case atStart => exact ⟨0, 0, by omega, by simp [Hid], rfl, rfl, by omega, by omega, by simp [Hid, farB], 0, rfl⟩
  case round =>
    obtain ⟨j, x, hj, hgj, rfl, rfl, hx0, hx1, HT, m, rfl⟩ := hrel
    by_cases hjt : j < a.size
    · have hjb : j < b.size := by have := HS.out; omega
      have hT := HT.out
      rw [show a.size - j = (a.size - (j + 1)) + 1 by omega, farN] at hT
      have hji : (j : Int) < (a.size : Int) := by omega
      have hjc : (j : Int) < (b.size : Int) := by omega
      have hj0 : (0 : Int) ≤ (j : Int) := by omega
      by_cases hc : chr a j = chr b j
      · rw [if_pos hc] at hT
        have HT2 : Hid (farB a b = x + farN a b (j + 1) (a.size - (j + 1))) := by unfold Hid; omega
        have hB : (chr a j != chr b j) = false := by simp [hc]
        have HC := hide hc
        clear hT hc
        go_wp2_with fail
        go_quiet (fail)
        go_wp2_with fail
        go_roundg (a.size - (j + 1))
        case measure => have := hgj.out; omega
        case rel => exact ⟨j + 1, x, by omega, rfl, by go_num, rfl, by omega, by omega, HT2, m + nq, rfl⟩
      · rw [if_neg hc] at hT
        have HT2 : Hid (farB a b = (x + 1) + farN a b (j + 1) (a.size - (j + 1))) := by unfold Hid; omega
        have hB : (chr a j != chr b j) = true := by simp [hc]
        have HC := hide hc
        have hwr : IntKind.i64.wrap (x + 1) = x + 1 := by rw [IntKind.wrap_i64] <;> omega
        clear hT hc
        go_wp2_with fail
        go_quiet (fail)
        go_wp2_with fail
        go_roundg (a.size - (j + 1))
        case measure => have := hgj.out; omega
        case rel => exact ⟨j + 1, x + 1, by omega, rfl, by go_num, rfl, by omega, by omega, HT2, m + nq, rfl⟩
    · have hd := HT.out
      rw [show a.size - j = 0 by omega, farN, Int.add_zero] at hd
      have HD := hide hd
      clear hd
      go_wp2_with fail
      go_ret
      exact ⟨ret_i HD.out.symm, m, rfl⟩
set_option maxRecDepth 100000 in
set_option maxHeartbeats 4000000 in
theorem l05Word_any (n : Int) (s : ByteArray) (w : World) (hn : 0 ≤ n ∧ n ≤ 100) (hl : s.size ≤ 1048576) :
    Calls Try.prog 33 #[.int .i64 n, .string s] w fun e w' => e = .returned (.bool (wordB n s)) ∧ w = w' := by
  have ka : ∀ (i : Nat) (h : i < s.size), (((s[i]'h).toNat : Nat) : Int) = chr s i := fun i h => chr_of h
  obtain ⟨hn0, hn1⟩ := hn
  go_enter Try.func33, Try.ntmps33
  go_wp2_with fail
  go_loopg [5] s.size (fun g i wr => ∃ j : Nat, j ≤ s.size ∧ Hid (g = s.size - j) ∧ i = .int .i64 j ∧ Hid (letN n s 0 s.size = letN n s j (s.size - j)) ∧ wr = w)
  case atStart => exact ⟨0, by omega, by simp [Hid], rfl, hide rfl, rfl⟩
  case round =>
    obtain ⟨j, hj, hgj, rfl, HT, rfl⟩ := hrel
    by_cases hjt : j < s.size
    · have hd := HT.out
      rw [show s.size - j = (s.size - (j + 1)) + 1 by omega] at hd
      have hji : (j : Int) < (s.size : Int) := by omega
      have hb := chr_bd s j
      by_cases hcc : 97 ≤ chr s j ∧ chr s j ≤ 97 + n - 1
      case neg =>
        rw [letN_false hcc] at hd
        have hw1 : IntKind.i64.wrap (97 + n) = 97 + n := by rw [IntKind.wrap_i64] <;> omega
        have hw2 : IntKind.i64.wrap (97 + n - 1) = 97 + n - 1 := by rw [IntKind.wrap_i64] <;> omega
        have hw3 : IntKind.i64.wrap (chr s j) = chr s j := by rw [IntKind.wrap_i64] <;> omega
        have HD := hide hd
        clear hd
        go_wp2_with (go_at_call 41; first | (refine (l00In_t _ _ _ _ (by omega)).mono ?_; rintro e w' ⟨rfl, rfl⟩) | (refine (l00In_f _ _ _ _ (by omega)).mono ?_; rintro e w' ⟨rfl, rfl⟩))
        go_ret
        exact ⟨ret_b (by rw [wordB_bad HD.out]), rfl⟩
      case pos =>
        rw [letN_true hcc] at hd
        obtain ⟨hc1, hc2⟩ := hcc
        have hw1 : IntKind.i64.wrap (97 + n) = 97 + n := by rw [IntKind.wrap_i64] <;> omega
        have hw2 : IntKind.i64.wrap (97 + n - 1) = 97 + n - 1 := by rw [IntKind.wrap_i64] <;> omega
        have hw3 : IntKind.i64.wrap (chr s j) = chr s j := by rw [IntKind.wrap_i64] <;> omega
        have HT2 := hide hd
        clear hd
        go_wp2_with (go_at_call 41; first | (refine (l00In_t _ _ _ _ (by omega)).mono ?_; rintro e w' ⟨rfl, rfl⟩) | (refine (l00In_f _ _ _ _ (by omega)).mono ?_; rintro e w' ⟨rfl, rfl⟩))
        go_roundg (s.size - (j + 1))
        case measure => have := hgj.out; omega
        case rel => exact ⟨j + 1, by omega, rfl, by go_num, HT2, rfl⟩
    · have hd := HT.out
      rw [show s.size - j = 0 by omega] at hd
      have HD := hide (wordB_good hd)
      clear hd
      by_cases hz : 1 ≤ s.size ∧ s.size ≤ 8
      · have HE := hide (show wordB n s = true by rw [HD.out, decide_eq_true hz])
        obtain ⟨hz1, hz2⟩ := hz
        go_wp2_with (go_at_call 41; first | (refine (l00In_t _ _ _ _ (by omega)).mono ?_; rintro e w' ⟨rfl, rfl⟩) | (refine (l00In_f _ _ _ _ (by omega)).mono ?_; rintro e w' ⟨rfl, rfl⟩))
        go_ret
        exact ⟨ret_b HE.out.symm, rfl⟩
      · have HE := hide (show wordB n s = false by rw [HD.out, decide_eq_false hz])
        go_wp2_with (go_at_call 41; first | (refine (l00In_t _ _ _ _ (by omega)).mono ?_; rintro e w' ⟨rfl, rfl⟩) | (refine (l00In_f _ _ _ _ (by omega)).mono ?_; rintro e w' ⟨rfl, rfl⟩))
        go_ret
        exact ⟨ret_b HE.out.symm, rfl⟩
set_option maxRecDepth 100000 in
set_option maxHeartbeats 4000000 in
theorem isWord_any (n : Int) (s : ByteArray) (w : World) (hn : 0 ≤ n ∧ n ≤ 100) (hl : s.size ≤ 1048576) :
    Calls Try.prog 30 #[.int .i64 n, .string s] w fun e w' => e = .returned (.bool (wordB n s)) ∧ w = w' := by
  have ka : ∀ (i : Nat) (h : i < s.size), (((s[i]'h).toNat : Nat) : Int) = chr s i := fun i h => chr_of h
  obtain ⟨hn0, hn1⟩ := hn
  go_enter Try.func30, Try.ntmps30
  go_wp2_with fail
  go_loopg [8] s.size (fun g i wr => ∃ j : Nat, j ≤ s.size ∧ Hid (g = s.size - j) ∧ i = .int .i64 j ∧ Hid (letN n s 0 s.size = letN n s j (s.size - j)) ∧ wr = w)
  case atStart => exact ⟨0, by omega, by simp [Hid], rfl, hide rfl, rfl⟩
  case round =>
    obtain ⟨j, hj, hgj, rfl, HT, rfl⟩ := hrel
    by_cases hjt : j < s.size
    · have hd := HT.out
      rw [show s.size - j = (s.size - (j + 1)) + 1 by omega] at hd
      have hji : (j : Int) < (s.size : Int) := by omega
      have hb := chr_bd s j
      by_cases hcc : 97 ≤ chr s j ∧ chr s j ≤ 97 + n - 1
      case neg =>
        rw [letN_false hcc] at hd
        by_cases h97 : chr s j < 97
        · have HD := hide hd
          clear hd hcc
          go_wp2_with fail
          go_ret
          exact ⟨ret_b (by rw [wordB_bad HD.out]), rfl⟩
        · have hge : n ≤ chr s j - 97 := by omega
          have hw1 : IntKind.u8.wrap (chr s j - 97) = chr s j - 97 := by rw [IntKind.wrap_u8] <;> omega
          have hw2 : IntKind.i64.wrap (chr s j - 97) = chr s j - 97 := by rw [IntKind.wrap_i64] <;> omega
          have HD := hide hd
          clear hd hcc
          go_wp2_with fail
          go_ret
          exact ⟨ret_b (by rw [wordB_bad HD.out]), rfl⟩
      case pos =>
        rw [letN_true hcc] at hd
        obtain ⟨hc1, hc2⟩ := hcc
        have h97 : ¬ chr s j < 97 := by omega
        have hge : ¬ n ≤ chr s j - 97 := by omega
        have hw1 : IntKind.u8.wrap (chr s j - 97) = chr s j - 97 := by rw [IntKind.wrap_u8] <;> omega
        have hw2 : IntKind.i64.wrap (chr s j - 97) = chr s j - 97 := by rw [IntKind.wrap_i64] <;> omega
        have HT2 := hide hd
        clear hd
        go_wp2_with fail
        go_roundg (s.size - (j + 1))
        case measure => have := hgj.out; omega
        case rel => exact ⟨j + 1, by omega, rfl, by go_num, HT2, rfl⟩
    · have hd := HT.out
      rw [show s.size - j = 0 by omega] at hd
      have HD := hide (wordB_good hd)
      clear hd
      by_cases hz : 1 ≤ s.size ∧ s.size ≤ 8
      · have HE := hide (show wordB n s = true by rw [HD.out, decide_eq_true hz])
        obtain ⟨hz1, hz2⟩ := hz
        go_wp2_with (go_at_call 40; first | (refine (within_t _ _ _ _ (by omega)).mono ?_; rintro e w' ⟨rfl, rfl⟩) | (refine (within_f _ _ _ _ (by omega)).mono ?_; rintro e w' ⟨rfl, rfl⟩))
        go_ret
        exact ⟨ret_b HE.out.symm, rfl⟩
      · have HE := hide (show wordB n s = false by rw [HD.out, decide_eq_false hz])
        go_wp2_with (go_at_call 40; first | (refine (within_t _ _ _ _ (by omega)).mono ?_; rintro e w' ⟨rfl, rfl⟩) | (refine (within_f _ _ _ _ (by omega)).mono ?_; rintro e w' ⟨rfl, rfl⟩))
        go_ret
        exact ⟨ret_b HE.out.symm, rfl⟩
end Go.Proofs.Ytofjnmeblmbnmaa
