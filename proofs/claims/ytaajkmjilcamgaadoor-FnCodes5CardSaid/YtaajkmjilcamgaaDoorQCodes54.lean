/-
  Addresses are valid, in both packages.
  The codes of signs, rings and distances, in both packages.
  Distances of two words; the least distance of words, in both packages.
  The program's least distance; LeastDistance and CorrectsAll in both packages.
  LeastDistance and CorrectsAll in both packages.
  The nearest address, in the program.
  The nearest address, in the reference.
  Words for which another one can be misread, in the program.
  Words for which another one can be misread, in the reference.
-/
import Derived.Test.YtaajkmjilcamgaaDoorQCodes53
import Derived.Test.YtaajkmjilcamgaaDoorQCodes51
import Derived.Test.YtaajkmjilcamgaaDoorQCodes50
namespace Go.Proofs.YtaajkmjilcamgaaDoor
open Go.RowKit
theorem hasS_succ {ws : List ByteArray} {k : Nat} {y x : ByteArray} (h : ws[k]? = some y) : hasS (ws.take (k + 1)) x = (hasS (ws.take k) x || decide (y = x)) := by
  unfold hasS
  rw [List.take_add_one, h, List.any_append]
  simp
theorem hasS_zero {ws : List ByteArray} {x : ByteArray} : hasS (ws.take 0) x = false := by simp [hasS]
theorem okN_step {n : Int} {ws : List ByteArray} {i m : Nat} : okN n ws i (m + 1) = (okA n ws i && okN n ws (i + 1) m) := rfl
theorem hasS_mono {ws : List ByteArray} {k j : Nat} {x : ByteArray} (h : k ≤ j) (e : hasS (ws.take k) x = true) : hasS (ws.take j) x = true := by
  unfold hasS at *
  rw [List.any_eq_true] at *
  obtain ⟨z, hz, hp⟩ := e
  exact ⟨z, (List.take_subset_take_left ws h) hz, hp⟩
theorem l05Signs_any (n : Int) (w : World) : Calls Tryd.prog 47 #[.int .i64 n] w fun e w' => e = .returned (.bool (decide (2 ≤ n ∧ n ≤ 4))) ∧ w = w' := by
  by_cases h : 2 ≤ n ∧ n ≤ 4
  · rw [decide_eq_true h]
    obtain ⟨h1, h2⟩ := h
    go_enter Tryd.func47, Tryd.ntmps47
    go_wp2_with (go_at_call 41; first | (refine (l00In_t _ _ _ _ (by omega)).mono ?_; rintro e w' ⟨rfl, rfl⟩) | (refine (l00In_f _ _ _ _ (by omega)).mono ?_; rintro e w' ⟨rfl, rfl⟩))
    go_ret
    exact ⟨rfl, rfl⟩
  · rw [decide_eq_false h]
    go_enter Tryd.func47, Tryd.ntmps47
    go_wp2_with (go_at_call 41; first | (refine (l00In_t _ _ _ _ (by omega)).mono ?_; rintro e w' ⟨rfl, rfl⟩) | (refine (l00In_f _ _ _ _ (by omega)).mono ?_; rintro e w' ⟨rfl, rfl⟩))
    go_ret
    exact ⟨rfl, rfl⟩
theorem areSigns_any (n : Int) (w : World) : Calls Tryd.prog 44 #[.int .i64 n] w fun e w' => e = .returned (.bool (decide (2 ≤ n ∧ n ≤ 4))) ∧ w = w' := by
  by_cases h : 2 ≤ n ∧ n ≤ 4
  · rw [decide_eq_true h]
    obtain ⟨h1, h2⟩ := h
    go_enter Tryd.func44, Tryd.ntmps44
    go_wp2_with (go_at_call 37; first | (refine (within_t _ _ _ _ (by omega)).mono ?_; rintro e w' ⟨rfl, rfl⟩) | (refine (within_f _ _ _ _ (by omega)).mono ?_; rintro e w' ⟨rfl, rfl⟩))
    go_ret
    exact ⟨rfl, rfl⟩
  · rw [decide_eq_false h]
    go_enter Tryd.func44, Tryd.ntmps44
    go_wp2_with (go_at_call 37; first | (refine (within_t _ _ _ _ (by omega)).mono ?_; rintro e w' ⟨rfl, rfl⟩) | (refine (within_f _ _ _ _ (by omega)).mono ?_; rintro e w' ⟨rfl, rfl⟩))
    go_ret
    exact ⟨rfl, rfl⟩
set_option maxRecDepth 100000 in
set_option maxHeartbeats 4000000 in
theorem validAddresses_any (n : Int) (ws : List ByteArray) (A : Option Addr) (c : Nat) (w : World) (hcap : ws.length ≤ c) (hc2 : c ≤ 9223372036854775807) (hsz : ∀ s ∈ ws, s.size ≤ 1048576) (hr : RdS w w.heap.size A ws) :
    Calls Tryd.prog 36 #[.int .i64 n, .slice A ws.length c] w fun e w' => e = .returned (.bool (addrs n ws)) ∧ w = w' := by
  have HSG := hide (areSigns_any n w)
  have HR := hide hr
  have HSZ := hide hsz
  clear hr hsz
  by_cases hsg : 2 ≤ n ∧ n ≤ 4
  case neg =>
    rw [decide_eq_false hsg] at HSG
    have HE := hide (addrs_signs (ws := ws) hsg)
    clear hsg
    go_enter Tryd.func36, Tryd.ntmps36
    go_wp2_with (go_at_call 44; refine (HSG.out).mono ?_; rintro e w' ⟨rfl, rfl⟩)
    go_ret
    exact ⟨ret_b HE.out.symm, rfl⟩
  rw [decide_eq_true hsg] at HSG
  by_cases hlen : ws.length ≤ 40
  case neg =>
    have HE := hide (addrs_long (n := n) hlen)
    have hB : decide (40 < (ws.length : Int)) = true := by simp; omega
    clear hlen
    go_enter Tryd.func36, Tryd.ntmps36
    go_wp2_with (go_at_call 44; refine (HSG.out).mono ?_; rintro e w' ⟨rfl, rfl⟩)
    go_ret
    exact ⟨ret_b HE.out.symm, rfl⟩
  have HE := hide (addrs_eq hsg hlen)
  have hB : decide (40 < (ws.length : Int)) = false := by simp; omega
  obtain ⟨hn1, hn2⟩ := hsg
  go_enter Tryd.func36, Tryd.ntmps36
  go_wp2_with (go_at_call 44; refine (HSG.out).mono ?_; rintro e w' ⟨rfl, rfl⟩)
  go_loopg [17] ws.length (fun g i wr => ∃ j : Nat, j ≤ ws.length ∧ Hid (g = ws.length - j) ∧ i = .int .i64 j ∧ Hid (addrs n ws = okN n ws j (ws.length - j)) ∧ wr = w)
  case atStart => exact ⟨0, by omega, by simp [Hid], rfl, by unfold Hid; rw [HE.out]; rfl, rfl⟩
  case round =>
    obtain ⟨j, hj, hgj, rfl, HT, rfl⟩ := hrel
    by_cases hjt : j < ws.length
    case neg =>
      have hd := HT.out
      rw [show ws.length - j = 0 by omega, okN] at hd
      have HD := hide hd
      clear hd
      go_wp2_with fail
      go_ret
      exact ⟨ret_b HD.out.symm, rfl⟩
    obtain ⟨b, o, s, rfl, _, hs, hcs⟩ := HR.out.at_ hjt
    obtain ⟨b', o', s0, hA, _, hs0, hc0⟩ := HR.out.at_ (j := 0) (by omega)
    obtain ⟨rfl, rfl⟩ : b = b' ∧ o = o' := by cases hA; exact ⟨rfl, rfl⟩
    have hd := HT.out
    rw [show ws.length - j = (ws.length - (j + 1)) + 1 by omega, okN_step] at hd
    unfold okA at hd
    rw [txt_get hs, txt_get hs0] at hd
    have hss := HSZ.out s (List.mem_of_getElem? hs)
    have HW := hide (isWord_any n s wr (by omega) hss)
    have HCT := hide (containsS_any (ws.take j) s (some ⟨b, o, none⟩) c wr (by rw [List.length_take]; omega) (HR.out.take j))
    rw [show (ws.take j).length = j by rw [List.length_take]; omega] at HCT
    have hjc : j ≤ c := by omega
    rw [Nat.add_zero] at hc0
    clear hs hs0 hA HT
    cases hwd : wordB n s
    · rw [hwd] at hd HW
      have HD := hide (show addrs n ws = false by rw [hd]; rfl)
      clear hd hwd
      go_wp2_with (go_at_call 42; refine (HW.out).mono ?_; rintro e w' ⟨rfl, rfl⟩)
      go_ret
      exact ⟨ret_b HD.out.symm, rfl⟩
    rw [hwd] at hd HW
    by_cases hle : s.size = s0.size
    case neg =>
      rw [decide_eq_false hle] at hd
      have HD := hide (show addrs n ws = false by rw [hd]; rfl)
      have hB3 : ((s.size : Int) != (s0.size : Int)) = true := by simp; omega
      have HLE := hide hle
      clear hd hwd hle
      go_wp2_with (go_at_call 42; refine (HW.out).mono ?_; rintro e w' ⟨rfl, rfl⟩)
      go_ret
      exact ⟨ret_b HD.out.symm, rfl⟩
    rw [decide_eq_true hle] at hd
    have hB3 : ((s.size : Int) != (s0.size : Int)) = false := by simp; omega
    have HLE := hide hle
    clear hle
    cases hh : hasS (ws.take j) s
    · rw [hh] at hd HCT
      have HT2 := hide (show addrs n ws = okN n ws (j + 1) (ws.length - (j + 1)) by rw [hd]; simp)
      clear hd hwd hh
      go_wp2_with (first | (go_at_call 42; refine (HW.out).mono ?_; rintro e w' ⟨rfl, rfl⟩) | (go_at_call 53; refine (HCT.out).mono ?_; rintro e w' ⟨rfl, rfl⟩))
      go_roundg (ws.length - (j + 1))
      case measure => have := hgj.out; omega
      case rel => exact ⟨j + 1, by omega, rfl, by go_num, HT2, rfl⟩
    · rw [hh] at hd HCT
      have HD := hide (show addrs n ws = false by rw [hd]; rfl)
      clear hd hwd hh
      go_wp2_with (first | (go_at_call 42; refine (HW.out).mono ?_; rintro e w' ⟨rfl, rfl⟩) | (go_at_call 53; refine (HCT.out).mono ?_; rintro e w' ⟨rfl, rfl⟩))
      go_ret
      exact ⟨ret_b HD.out.symm, rfl⟩
set_option maxRecDepth 100000 in
set_option maxHeartbeats 4000000 in
theorem l05Ok_any (n : Int) (ws : List ByteArray) (A : Option Addr) (c : Nat) (w : World) (hwl : ws.length ≤ 1048576) (hsz : ∀ s ∈ ws, s.size ≤ 1048576) (hr : RdS w w.heap.size A ws) :
    Calls Tryd.prog 40 #[.int .i64 n, .slice A ws.length c] w fun e w' => e = .returned (.bool (addrs n ws)) ∧ ∃ m, w' = w.drewN m := by
  have HSG := hide (l05Signs_any n w)
  have HR := hide hr
  have HSZ := hide hsz
  clear hr hsz
  by_cases hsg : 2 ≤ n ∧ n ≤ 4
  case neg =>
    rw [decide_eq_false hsg] at HSG
    have HE := hide (addrs_signs (ws := ws) hsg)
    clear hsg
    go_enter Tryd.func40, Tryd.ntmps40
    go_wp2_with (go_at_call 47; refine (HSG.out).mono ?_; rintro e w' ⟨rfl, rfl⟩)
    go_ret
    exact ⟨ret_b HE.out.symm, 0, rfl⟩
  rw [decide_eq_true hsg] at HSG
  by_cases hlen : ws.length ≤ 40
  case neg =>
    have HE := hide (addrs_long (n := n) hlen)
    have hB : decide (40 < (ws.length : Int)) = true := by simp; omega
    clear hlen
    go_enter Tryd.func40, Tryd.ntmps40
    go_wp2_with (go_at_call 47; refine (HSG.out).mono ?_; rintro e w' ⟨rfl, rfl⟩)
    go_ret
    exact ⟨ret_b HE.out.symm, 0, rfl⟩
  have HE := hide (addrs_eq hsg hlen)
  have hB : decide (40 < (ws.length : Int)) = false := by simp; omega
  obtain ⟨hn1, hn2⟩ := hsg
  go_enter Tryd.func40, Tryd.ntmps40
  go_wp2_with (go_at_call 47; refine (HSG.out).mono ?_; rintro e w' ⟨rfl, rfl⟩)
  go_loopg [5] ws.length (fun g i wr => ∃ j : Nat, j ≤ ws.length ∧ Hid (g = ws.length - j) ∧ i = .int .i64 j ∧ Hid (addrs n ws = okN n ws j (ws.length - j)) ∧ ∃ m, Hid (wr = w.drewN m))
  case atStart => exact ⟨0, by omega, by simp [Hid], rfl, by unfold Hid; rw [HE.out]; rfl, 0, rfl⟩
  case round =>
    obtain ⟨j, hj, hgj, rfl, HT, m, HM⟩ := hrel
    by_cases hjt : j < ws.length
    case neg =>
      have hd := HT.out
      rw [show ws.length - j = 0 by omega, okN] at hd
      have HD := hide hd
      clear hd
      go_wp2_with fail
      go_ret
      exact ⟨ret_b HD.out.symm, m, HM.out⟩
    obtain ⟨b, o, s, rfl, _, hs, hcs⟩ := HR.out.at_ hjt
    obtain ⟨b', o', s0, hA, _, hs0, hc0⟩ := HR.out.at_ (j := 0) (by omega)
    obtain ⟨rfl, rfl⟩ : b = b' ∧ o = o' := by cases hA; exact ⟨rfl, rfl⟩
    have hd := HT.out
    rw [show ws.length - j = (ws.length - (j + 1)) + 1 by omega, okN_step] at hd
    unfold okA at hd
    rw [txt_get hs, txt_get hs0] at hd
    have hss := HSZ.out s (List.mem_of_getElem? hs)
    have HW := hide fun W => l05Word_any n s W (by omega) hss
    rw [Nat.add_zero] at hc0
    have hji : (j : Int) < (ws.length : Int) := by omega
    have hjz : (0 : Int) < (ws.length : Int) := by omega
    have ks : wr.cell? ⟨b, o + j, none⟩ = some (.string s) := by rw [HM.out]; exact hcs
    have k0 : wr.cell? ⟨b, o, none⟩ = some (.string s0) := by rw [HM.out]; exact hc0
    have HCS := hide hcs
    have HS := hide hs
    clear hs hs0 hA HT hcs hc0
    cases hwd : wordB n s
    · rw [hwd] at hd HW
      have HD := hide (show addrs n ws = false by rw [hd]; rfl)
      clear hd hwd
      go_wp2_with fail
      go_quiet ((go_at_call 54; with_reducible exact ql (HW.out _)))
      go_wp2_with fail
      go_ret
      exact ⟨ret_b HD.out.symm, m + nq, by rw [HM.out, World.drewN_drewN]⟩
    rw [hwd] at hd HW
    by_cases hle : s.size = s0.size
    case neg =>
      rw [decide_eq_false hle] at hd
      have HD := hide (show addrs n ws = false by rw [hd]; rfl)
      have hB3 : ((s.size : Int) != (s0.size : Int)) = true := by simp; omega
      have HLE := hide hle
      clear hd hwd hle
      go_wp2_with fail
      go_quiet ((go_at_call 54; with_reducible exact ql (HW.out _)))
      go_wp2_with fail
      go_ret
      exact ⟨ret_b HD.out.symm, m + nq, by rw [HM.out, World.drewN_drewN]⟩
    rw [decide_eq_true hle] at hd
    have hB3 : ((s.size : Int) != (s0.size : Int)) = false := by simp; omega
    have HLE := hide hle
    have HDD := hide hd
    clear hle hd hwd
    go_wp2_with fail
    go_quiet ((go_at_call 54; with_reducible exact ql (HW.out _)))
    clear ks k0
    go_wp2_with fail
    go_loopg [6] j (fun g i wr => ∃ k : Nat, k ≤ j ∧ Hid (g = j - k) ∧ i = .int .i64 k ∧ Hid (hasS (ws.take k) s = false) ∧ ∃ q, Hid (wr = w.drewN q))
    case atStart => exact ⟨0, by omega, by simp [Hid], rfl, hide hasS_zero, m + nq, hide (by rw [HM.out, World.drewN_drewN])⟩
    case round =>
      obtain ⟨k, hk, hgk, rfl, HH, q, HM2⟩ := hrel
      by_cases hkt : k < j
      case neg =>
        obtain rfl : k = j := by omega
        have HT2 := hide (show addrs n ws = okN n ws (k + 1) (ws.length - (k + 1)) by rw [HDD.out, HH.out]; simp)
        go_wp2_with fail
        go_roundg (ws.length - (k + 1))
        case measure => have := hgj.out; omega
        case rel => exact ⟨k + 1, by omega, rfl, by go_num, HT2, q, HM2⟩
      obtain ⟨b', o', y, hA, _, hy, hcy⟩ := HR.out.at_ (j := k) (by omega)
      obtain ⟨rfl, rfl⟩ : b = b' ∧ o = o' := by cases hA; exact ⟨rfl, rfl⟩
      have ky : wr.cell? ⟨b, o + k, none⟩ = some (.string y) := by rw [HM2.out]; exact hcy
      have kx : wr.cell? ⟨b, o + j, none⟩ = some (.string s) := by rw [HM2.out]; exact HCS.out
      have hki : (k : Int) < (ws.length : Int) := by omega
      have hsu := hasS_succ (x := s) hy
      rw [HH.out] at hsu
      clear hA hy hcy
      by_cases hxy : y = s
      · have hsu2 : hasS (ws.take (k + 1)) s = true := by rw [hsu, decide_eq_true hxy]; rfl
        have hh := hasS_mono (show k + 1 ≤ j by omega) hsu2
        have HD := hide (show addrs n ws = false by rw [HDD.out, hh]; rfl)
        have hB4 : (y.toList == s.toList) = true := by rw [txt_eq, decide_eq_true hxy]
        have HXY := hide hxy
        clear hsu hsu2 hh hxy
        go_wp2_with fail
        go_quiet (fail)
        go_wp2_with fail
        go_ret
        exact ⟨ret_b HD.out.symm, q + nq, by rw [HM2.out, World.drewN_drewN]⟩
      · have HH2 := hide (show hasS (ws.take (k + 1)) s = false by rw [hsu, decide_eq_false hxy]; rfl)
        have hB4 : (y.toList == s.toList) = false := by rw [txt_eq, decide_eq_false hxy]
        have HXY := hide hxy
        clear hsu hxy
        go_wp2_with fail
        go_quiet (fail)
        go_wp2_with fail
        go_roundg (j - (k + 1))
        case measure => have := hgk.out; omega
        case rel => exact ⟨k + 1, by omega, rfl, by go_num, HH2, q + nq, hide (by rw [HM2.out, World.drewN_drewN])⟩
end Go.Proofs.YtaajkmjilcamgaaDoor
namespace Go.Proofs.YtaajkmjilcamgaaDoor
open Go.RowKit
/-- s to the r-th. -/
def powI (s r : Int) : Int := ((s.toNat ^ r.toNat : Nat) : Int)
def codeW (s r d l : Int) : Int := if (2 ≤ s ∧ s ≤ 4) ∧ (1 ≤ r ∧ r ≤ 8) ∧ (1 ≤ d ∧ d ≤ r) then (if powI s r ≤ l then 0 else 5) else 2
theorem pow_bd {s r : Nat} (hs : s ≤ 4) (hr : r ≤ 8) : s ^ r ≤ 65536 :=
  Nat.le_trans (Nat.pow_le_pow_left hs r) (Nat.le_trans (Nat.pow_le_pow_right (by decide) hr) (by decide))
theorem pow_ge1 {s : Nat} (hs : 1 ≤ s) (r : Nat) : 1 ≤ s ^ r := Nat.pow_pos hs
theorem min_step {s k : Nat} {l : Nat} (hs : 1 ≤ s) : min ((min (s ^ k) (l + 1)) * s) (l + 1) = min (s ^ (k + 1)) (l + 1) := by
  rw [Nat.pow_succ]
  by_cases h : s ^ k ≤ l + 1
  · rw [Nat.min_eq_left h]
  · rw [Nat.min_eq_right (show l + 1 ≤ s ^ k by omega)]
    have h1 : l + 1 ≤ (l + 1) * s := Nat.le_mul_of_pos_right _ hs
    have h2 : s ^ k ≤ s ^ k * s := Nat.le_mul_of_pos_right _ hs
    omega
set_option maxRecDepth 100000 in
set_option maxHeartbeats 2000000 in
theorem count_any (s r l : Nat) (w : World) (hs : 1 ≤ s) (hs2 : s ≤ 4) (hr : r ≤ 8) (hl : l ≤ 300) :
    Calls Tryd.prog 38 #[.int .i64 s, .int .i64 r, .int .i64 l] w fun e w' => e = .returned (.int .i64 ((min (s ^ r) (l + 1) : Nat) : Int)) ∧ w = w' := by
  go_enter Tryd.func38, Tryd.ntmps38
  go_wp2_with fail
  go_loopg [9, 7] r (fun g i n wr => ∃ k m : Nat, k ≤ r ∧ Hid (g = r - k) ∧ i = .int .i64 k ∧ n = .int .i64 m ∧ Hid (m = min (s ^ k) (l + 1)) ∧ w = wr)
  case atStart => exact ⟨0, 1, by omega, by simp [Hid], rfl, rfl, hide (by rw [Nat.pow_zero, Nat.min_eq_left (by omega)]), rfl⟩
  case round =>
    obtain ⟨k, m, hk, hg, rfl, rfl, HM, rfl⟩ := hrel
    have hm1 : m ≤ 301 := by have := HM.out; omega
    by_cases hlt : k < r
    · have hki : (k : Int) < (r : Int) := by omega
      have hms : m * s ≤ 1204 := Nat.le_trans (Nat.mul_le_mul hm1 hs2) (by decide)
      have HN := hide (show min (m * s) (l + 1) = min (s ^ (k + 1)) (l + 1) by rw [HM.out]; exact min_step hs)
      obtain ⟨q, hq⟩ : ∃ q, q = m * s := ⟨_, rfl⟩
      have hqi : (m : Int) * (s : Int) = (q : Int) := by rw [hq]; push_cast; rfl
      rw [← hq] at HN hms
      have hwm : IntKind.i64.wrap ((m : Int) * (s : Int)) = (q : Int) := by rw [hqi, IntKind.wrap_i64] <;> omega
      have HQ := hide hq
      clear hq hqi
      by_cases hc : q ≤ l + 1
      · have HN2 := hide (show q = min (s ^ (k + 1)) (l + 1) by rw [← HN.out]; omega)
        go_wp2_with fail
        go_roundg (r - (k + 1))
        case measure => have := hg.out; omega
        case rel => exact ⟨k + 1, q, by omega, rfl, by go_num, by go_num, HN2, rfl⟩
      · have HN2 := hide (show l + 1 = min (s ^ (k + 1)) (l + 1) by rw [← HN.out]; omega)
        go_wp2_with fail
        go_roundg (r - (k + 1))
        case measure => have := hg.out; omega
        case rel => exact ⟨k + 1, l + 1, by omega, rfl, by go_num, by go_num, HN2, rfl⟩
    · obtain rfl : k = r := by omega
      have HD := HM.out
      subst HD
      go_wp2_with fail
      go_ret
      exact ⟨rfl, rfl⟩
set_option maxRecDepth 100000 in
set_option maxHeartbeats 2000000 in
theorem wordsCode_any (s r d : Int) (l : Nat) (w : World) (hl : l ≤ 300) :
    Calls Tryd.prog 20 #[.int .i64 s, .int .i64 r, .int .i64 d, .int .i64 l] w fun e w' => e = .returned (.int .i64 (codeW s r d l)) ∧ w = w' := by
  have HS := hide (areSigns_any s w)
  by_cases h1 : 2 ≤ s ∧ s ≤ 4
  case neg =>
    have HR := hide (show codeW s r d l = 2 by unfold codeW; rw [if_neg fun h => h1 h.1])
    rw [decide_eq_false h1] at HS
    clear h1
    go_enter Tryd.func20, Tryd.ntmps20
    go_wp2_with (go_at_call 44; refine (HS.out).mono ?_; rintro e w' ⟨rfl, rfl⟩)
    go_ret
    exact ⟨ret_i HR.out.symm, rfl⟩
  rw [decide_eq_true h1] at HS
  by_cases h2 : 1 ≤ r ∧ r ≤ 8
  case neg =>
    have HR := hide (show codeW s r d l = 2 by unfold codeW; rw [if_neg fun h => h2 h.2.1])
    go_enter Tryd.func20, Tryd.ntmps20
    go_wp2_with (first | (go_at_call 44; refine (HS.out).mono ?_; rintro e w' ⟨rfl, rfl⟩) | (go_at_call 37; first | (refine (within_t _ _ _ _ (by omega)).mono ?_; rintro e w' ⟨rfl, rfl⟩) | (refine (within_f _ _ _ _ (by omega)).mono ?_; rintro e w' ⟨rfl, rfl⟩)))
    go_ret
    exact ⟨ret_i HR.out.symm, rfl⟩
  by_cases h3 : 1 ≤ d ∧ d ≤ r
  case neg =>
    have HR := hide (show codeW s r d l = 2 by unfold codeW; rw [if_neg fun h => h3 h.2.2])
    go_enter Tryd.func20, Tryd.ntmps20
    go_wp2_with (first | (go_at_call 44; refine (HS.out).mono ?_; rintro e w' ⟨rfl, rfl⟩) | (go_at_call 37; first | (refine (within_t _ _ _ _ (by omega)).mono ?_; rintro e w' ⟨rfl, rfl⟩) | (refine (within_f _ _ _ _ (by omega)).mono ?_; rintro e w' ⟨rfl, rfl⟩)))
    go_ret
    exact ⟨ret_i HR.out.symm, rfl⟩
  obtain ⟨S, rfl⟩ : ∃ S : Nat, s = S := ⟨s.toNat, by omega⟩
  obtain ⟨R, rfl⟩ : ∃ R : Nat, r = R := ⟨r.toNat, by omega⟩
  have HC := hide (count_any S R l w (by omega) (by omega) (by omega) hl)
  have HE := hide (show powI S R = ((S ^ R : Nat) : Int) by unfold powI; rw [Int.toNat_natCast, Int.toNat_natCast])
  by_cases h4 : S ^ R ≤ l
  · have HR := hide (show codeW S R d l = 0 by unfold codeW; rw [if_pos ⟨h1, h2, h3⟩, HE.out, if_pos (by omega)])
    have hlm : ¬ l < min (S ^ R) (l + 1) := by omega
    generalize min (S ^ R) (l + 1) = m at *
    clear h4 HE
    go_enter Tryd.func20, Tryd.ntmps20
    go_wp2_with (first | (go_at_call 44; refine (HS.out).mono ?_; rintro e w' ⟨rfl, rfl⟩) | (go_at_call 37; first | (refine (within_t _ _ _ _ (by omega)).mono ?_; rintro e w' ⟨rfl, rfl⟩) | (refine (within_f _ _ _ _ (by omega)).mono ?_; rintro e w' ⟨rfl, rfl⟩)) | (go_at_call 38; refine (HC.out).mono ?_; rintro e w' ⟨rfl, rfl⟩))
    go_ret
    exact ⟨ret_i HR.out.symm, rfl⟩
  · have HR := hide (show codeW S R d l = 5 by unfold codeW; rw [if_pos ⟨h1, h2, h3⟩, HE.out, if_neg (by omega)])
    have hlm : l < min (S ^ R) (l + 1) := by omega
    generalize min (S ^ R) (l + 1) = m at *
    clear h4 HE
    go_enter Tryd.func20, Tryd.ntmps20
    go_wp2_with (first | (go_at_call 44; refine (HS.out).mono ?_; rintro e w' ⟨rfl, rfl⟩) | (go_at_call 37; first | (refine (within_t _ _ _ _ (by omega)).mono ?_; rintro e w' ⟨rfl, rfl⟩) | (refine (within_f _ _ _ _ (by omega)).mono ?_; rintro e w' ⟨rfl, rfl⟩)) | (go_at_call 38; refine (HC.out).mono ?_; rintro e w' ⟨rfl, rfl⟩))
    go_ret
    exact ⟨ret_i HR.out.symm, rfl⟩
set_option maxRecDepth 100000 in
set_option maxHeartbeats 2000000 in
theorem l05Whole_any (s r : Int) (w : World) :
    Calls Tryd.prog 30 #[.int .i64 s, .int .i64 r] w fun e w' => e = .returned (.int .i64 (codeW s r 1 300)) ∧ w = w' := by
  have HS := hide (l05Signs_any s w)
  by_cases h1 : 2 ≤ s ∧ s ≤ 4
  case neg =>
    have HR := hide (show codeW s r 1 300 = 2 by unfold codeW; rw [if_neg fun h => h1 h.1])
    rw [decide_eq_false h1] at HS
    clear h1
    go_enter Tryd.func30, Tryd.ntmps30
    go_wp2_with (go_at_call 47; refine (HS.out).mono ?_; rintro e w' ⟨rfl, rfl⟩)
    go_ret
    exact ⟨ret_i HR.out.symm, rfl⟩
  rw [decide_eq_true h1] at HS
  by_cases h2 : 1 ≤ r ∧ r ≤ 8
  case neg =>
    have HR := hide (show codeW s r 1 300 = 2 by unfold codeW; rw [if_neg fun h => h2 h.2.1])
    go_enter Tryd.func30, Tryd.ntmps30
    go_wp2_with (first | (go_at_call 47; refine (HS.out).mono ?_; rintro e w' ⟨rfl, rfl⟩) | (go_at_call 41; first | (refine (l00In_t _ _ _ _ (by omega)).mono ?_; rintro e w' ⟨rfl, rfl⟩) | (refine (l00In_f _ _ _ _ (by omega)).mono ?_; rintro e w' ⟨rfl, rfl⟩)))
    go_ret
    exact ⟨ret_i HR.out.symm, rfl⟩
  obtain ⟨S, rfl⟩ : ∃ S : Nat, s = S := ⟨s.toNat, by omega⟩
  obtain ⟨R, rfl⟩ : ∃ R : Nat, r = R := ⟨r.toNat, by omega⟩
  have HE := hide (show powI S R = ((S ^ R : Nat) : Int) by unfold powI; rw [Int.toNat_natCast, Int.toNat_natCast])
  have HPB := hide fun k (h : k ≤ R) => pow_bd (s := S) (r := k) (by omega) (by omega)
  go_enter Tryd.func30, Tryd.ntmps30
  go_wp2_with (first | (go_at_call 47; refine (HS.out).mono ?_; rintro e w' ⟨rfl, rfl⟩) | (go_at_call 41; first | (refine (l00In_t _ _ _ _ (by omega)).mono ?_; rintro e w' ⟨rfl, rfl⟩) | (refine (l00In_f _ _ _ _ (by omega)).mono ?_; rintro e w' ⟨rfl, rfl⟩)))
  go_loopg [6, 5] R (fun g i n wr => ∃ k m : Nat, k ≤ R ∧ Hid (g = R - k) ∧ i = .int .i64 k ∧ n = .int .i64 m ∧ Hid (m = S ^ k) ∧ w = wr)
  case atStart => exact ⟨0, 1, by omega, by simp [Hid], rfl, rfl, hide (by rw [Nat.pow_zero]), rfl⟩
  case round =>
    obtain ⟨k, m, hk, hg, rfl, rfl, HM, rfl⟩ := hrel
    have hm1 : m ≤ 65536 := by have := HM.out; have := HPB.out k hk; omega
    by_cases hlt : k < R
    · have hki : (k : Int) < (R : Int) := by omega
      have HN := hide (show m * S = S ^ (k + 1) by rw [HM.out, Nat.pow_succ])
      have hms : m * S ≤ 65536 := by rw [HN.out]; exact HPB.out (k + 1) hlt
      obtain ⟨q, hq⟩ : ∃ q, q = m * S := ⟨_, rfl⟩
      have hqi : (m : Int) * (S : Int) = (q : Int) := by rw [hq]; push_cast; rfl
      rw [← hq] at HN hms
      have hwm : IntKind.i64.wrap ((m : Int) * (S : Int)) = (q : Int) := by rw [hqi, IntKind.wrap_i64] <;> omega
      have HQ := hide hq
      clear hq hqi
      go_wp2_with fail
      go_roundg (R - (k + 1))
      case measure => have := hg.out; omega
      case rel => exact ⟨k + 1, q, by omega, rfl, by go_num, by go_num, HN, rfl⟩
    · obtain rfl : k = R := by omega
      have HD := HM.out
      by_cases h4 : m ≤ 300
      · have HR := hide (show codeW S k 1 300 = 0 by unfold codeW; rw [if_pos ⟨h1, h2, by omega⟩, HE.out, ← HD, if_pos (by omega)])
        have hB : decide ((300 : Int) < (m : Int)) = false := decide_eq_false (by omega)
        clear HD
        go_wp2_with fail
        go_ret
        exact ⟨ret_i HR.out.symm, rfl⟩
      · have HR := hide (show codeW S k 1 300 = 5 by unfold codeW; rw [if_pos ⟨h1, h2, by omega⟩, HE.out, ← HD, if_neg (by omega)])
        have hB : decide ((300 : Int) < (m : Int)) = true := decide_eq_true (by omega)
        clear HD
        go_wp2_with fail
        go_ret
        exact ⟨ret_i HR.out.symm, rfl⟩
set_option maxRecDepth 100000 in
set_option maxHeartbeats 2000000 in
theorem l05Code_any (s r d : Int) (w : World) :
    Calls Tryd.prog 23 #[.int .i64 s, .int .i64 r, .int .i64 d] w fun e w' => e = .returned (.int .i64 (codeW s r d 300)) ∧ w = w' := by
  have HS := hide (l05Signs_any s w)
  have HW := hide (l05Whole_any s r w)
  by_cases h1 : 2 ≤ s ∧ s ≤ 4
  case neg =>
    have HR := hide (show codeW s r d 300 = 2 by unfold codeW; rw [if_neg fun h => h1 h.1])
    rw [decide_eq_false h1] at HS
    clear h1
    go_enter Tryd.func23, Tryd.ntmps23
    go_wp2_with (go_at_call 47; refine (HS.out).mono ?_; rintro e w' ⟨rfl, rfl⟩)
    go_ret
    exact ⟨ret_i HR.out.symm, rfl⟩
  rw [decide_eq_true h1] at HS
  by_cases h2 : 1 ≤ r ∧ r ≤ 8
  case neg =>
    have HR := hide (show codeW s r d 300 = 2 by unfold codeW; rw [if_neg fun h => h2 h.2.1])
    go_enter Tryd.func23, Tryd.ntmps23
    go_wp2_with (first | (go_at_call 47; refine (HS.out).mono ?_; rintro e w' ⟨rfl, rfl⟩) | (go_at_call 41; first | (refine (l00In_t _ _ _ _ (by omega)).mono ?_; rintro e w' ⟨rfl, rfl⟩) | (refine (l00In_f _ _ _ _ (by omega)).mono ?_; rintro e w' ⟨rfl, rfl⟩)))
    go_ret
    exact ⟨ret_i HR.out.symm, rfl⟩
  by_cases h3 : 1 ≤ d ∧ d ≤ r
  case neg =>
    have HR := hide (show codeW s r d 300 = 2 by unfold codeW; rw [if_neg fun h => h3 h.2.2])
    go_enter Tryd.func23, Tryd.ntmps23
    go_wp2_with (first | (go_at_call 47; refine (HS.out).mono ?_; rintro e w' ⟨rfl, rfl⟩) | (go_at_call 41; first | (refine (l00In_t _ _ _ _ (by omega)).mono ?_; rintro e w' ⟨rfl, rfl⟩) | (refine (l00In_f _ _ _ _ (by omega)).mono ?_; rintro e w' ⟨rfl, rfl⟩)))
    go_ret
    exact ⟨ret_i HR.out.symm, rfl⟩
  have HR := hide (show codeW s r d 300 = codeW s r 1 300 by unfold codeW; rw [if_pos ⟨h1, h2, h3⟩, if_pos (show (2 ≤ s ∧ s ≤ 4) ∧ (1 ≤ r ∧ r ≤ 8) ∧ ((1 : Int) ≤ 1 ∧ 1 ≤ r) from ⟨h1, h2, by omega⟩)])
  generalize codeW s r 1 300 = cd at *
  go_enter Tryd.func23, Tryd.ntmps23
  go_wp2_with (first | (go_at_call 47; refine (HS.out).mono ?_; rintro e w' ⟨rfl, rfl⟩) | (go_at_call 41; first | (refine (l00In_t _ _ _ _ (by omega)).mono ?_; rintro e w' ⟨rfl, rfl⟩) | (refine (l00In_f _ _ _ _ (by omega)).mono ?_; rintro e w' ⟨rfl, rfl⟩)) | (go_at_call 30; refine (HW.out).mono ?_; rintro e w' ⟨rfl, rfl⟩))
  go_ret
  exact ⟨ret_i HR.out.symm, rfl⟩
end Go.Proofs.YtaajkmjilcamgaaDoor
namespace Go.Proofs.YtaajkmjilcamgaaDoor
open Go.RowKit
def distR (a b : ByteArray) : Int × Int := if wordB 4 a = false ∨ wordB 4 b = false then (0, 1) else if a.size = b.size then (farB a b, 0) else (0, 8)
/-- The distance without a place (all places count for -1). -/
def farW (r : Int) (a b : ByteArray) : Int := farB a b - (if 0 ≤ r ∧ chr a r.toNat ≠ chr b r.toNat then 1 else 0)
theorem farW_all (a b : ByteArray) : farW (-1) a b = farB a b := by unfold farW; rw [if_neg (fun e => absurd e.1 (by decide))]; omega
def lpI (f : ByteArray → ByteArray → Int) (x : ByteArray) : List ByteArray → Int → Int
  | [], m => m
  | y :: ys, m => lpI f x ys (if m < 0 ∨ f x y < m then f x y else m)
def lpO (f : ByteArray → ByteArray → Int) (ws : List ByteArray) : Nat → Nat → Int → Int
  | _, 0, m => m
  | i, c + 1, m => lpO f ws (i + 1) c (lpI f (txt ws i) (ws.take i) m)
def leastA (f : ByteArray → ByteArray → Int) (ws : List ByteArray) : Int := lpO f ws 0 ws.length (-1)
theorem lpI_drop {f : ByteArray → ByteArray → Int} {x : ByteArray} {ys : List ByteArray} {q : Nat} {y : ByteArray} {m : Int} (h : ys[q]? = some y) : lpI f x (ys.drop q) m = lpI f x (ys.drop (q + 1)) (if m < 0 ∨ f x y < m then f x y else m) := by rw [drop_cons h, lpI]
theorem lpI_end {f : ByteArray → ByteArray → Int} {x : ByteArray} {ys : List ByteArray} {q : Nat} {m : Int} (h : ys.length ≤ q) : lpI f x (ys.drop q) m = m := by rw [List.drop_eq_nil_of_le h, lpI]
theorem leastA_all (ws : List ByteArray) : leastA (farW (-1)) ws = leastA farB ws := by rw [show farW (-1) = farB from funext fun a => funext fun b => farW_all a b]
set_option maxRecDepth 100000 in
set_option maxHeartbeats 1000000 in
theorem distanceOf_any (a b : ByteArray) (w : World) (ha : a.size ≤ 1048576) (hb : b.size ≤ 1048576) :
    Calls Tryd.prog 18 #[.string a, .string b] w fun e w' => e = .returned (.tuple #[.int .i64 (distR a b).1, .int .i64 (distR a b).2]) ∧ ∃ m, w' = w.drewN m := by
  have HWA := hide (isWord_any 4 a w (by omega) ha)
  have HWB := hide (isWord_any 4 b w (by omega) hb)
  cases h1 : wordB 4 a
  · have HR := hide (show distR a b = (0, 1) by unfold distR; rw [if_pos (.inl h1)])
    rw [h1] at HWA
    clear h1
    go_enter Tryd.func18, Tryd.ntmps18
    go_wp2_with (go_at_call 42; with_reducible refine (HWA.out).mono ?_; rintro e w' ⟨rfl, rfl⟩)
    go_ret2
    exact ⟨by rw [HR.out]; rfl, 0, rfl⟩
  rw [h1] at HWA
  cases h2 : wordB 4 b
  · have HR := hide (show distR a b = (0, 1) by unfold distR; rw [if_pos (.inr h2)])
    rw [h2] at HWB
    clear h1 h2
    go_enter Tryd.func18, Tryd.ntmps18
    go_wp2_with (first | (go_at_call 42; with_reducible refine (HWA.out).mono ?_; rintro e w' ⟨rfl, rfl⟩) | (go_at_call 42; with_reducible refine (HWB.out).mono ?_; rintro e w' ⟨rfl, rfl⟩))
    go_ret2
    exact ⟨by rw [HR.out]; rfl, 0, rfl⟩
  rw [h2] at HWB
  by_cases h3 : a.size = b.size
  · have HR := hide (show distR a b = (farB a b, 0) by unfold distR; rw [if_neg (by rw [h1, h2]; simp), if_pos h3])
    have HF := hide (distance_any a b w h3 ha)
    have hB : ((a.size : Int) != (b.size : Int)) = false := by simp; omega
    have H3 := hide h3
    clear h1 h2 h3
    go_enter Tryd.func18, Tryd.ntmps18
    go_wp2_with (first | (go_at_call 42; with_reducible refine (HWA.out).mono ?_; rintro e w' ⟨rfl, rfl⟩) | (go_at_call 42; with_reducible refine (HWB.out).mono ?_; rintro e w' ⟨rfl, rfl⟩) | (go_at_call 26; with_reducible refine (HF.out).mono ?_; rintro e w' ⟨rfl, m, rfl⟩))
    go_ret2
    exact ⟨by rw [HR.out]; rfl, m, rfl⟩
  · have HR := hide (show distR a b = (0, 8) by unfold distR; rw [if_neg (by rw [h1, h2]; simp), if_neg h3])
    have hB : ((a.size : Int) != (b.size : Int)) = true := by simp; omega
    have H3 := hide h3
    clear h1 h2 h3
    go_enter Tryd.func18, Tryd.ntmps18
    go_wp2_with (first | (go_at_call 42; with_reducible refine (HWA.out).mono ?_; rintro e w' ⟨rfl, rfl⟩) | (go_at_call 42; with_reducible refine (HWB.out).mono ?_; rintro e w' ⟨rfl, rfl⟩))
    go_ret2
    exact ⟨by rw [HR.out]; rfl, 0, rfl⟩
end Go.Proofs.YtaajkmjilcamgaaDoor
namespace Go.Proofs.YtaajkmjilcamgaaDoor
open Go.RowKit
end Go.Proofs.YtaajkmjilcamgaaDoor
namespace Go.Proofs.YtaajkmjilcamgaaDoor
open Go.RowKit
theorem okN_all {n : Int} {ws : List ByteArray} : ∀ {m i : Nat}, okN n ws i m = true → ∀ k, i ≤ k → k < i + m → okA n ws k = true := by
  intro m
  induction m with
  | zero => intro i _ k h1 h2; omega
  | succ m ih =>
    intro i h k h1 h2
    rw [okN_step, Bool.and_eq_true] at h
    by_cases hk : k = i
    · rw [hk]; exact h.1
    · exact ih h.2 k (by omega) (by omega)
theorem addrs_len {n : Int} {ws : List ByteArray} (h : addrs n ws = true) : (2 ≤ n ∧ n ≤ 4) ∧ ws.length ≤ 40 := by
  unfold addrs at h
  rw [Bool.and_eq_true, Bool.and_eq_true, decide_eq_true_eq, decide_eq_true_eq] at h
  exact ⟨h.1, h.2.1⟩
theorem addrs_at {n : Int} {ws : List ByteArray} (h : addrs n ws = true) {k : Nat} {s : ByteArray} (hs : ws[k]? = some s) : wordB n s = true ∧ s.size = (txt ws 0).size ∧ hasS (ws.take k) s = false := by
  have h0 := addrs_len h
  have hk := lt_of_get hs
  rw [addrs_eq h0.1 h0.2] at h
  have := okN_all h k (by omega) (by omega)
  unfold okA at this
  rw [txt_get hs, Bool.and_eq_true, Bool.and_eq_true, decide_eq_true_eq] at this
  exact ⟨this.1, this.2.1, by simpa using this.2.2⟩
theorem wordB_size {n : Int} {s : ByteArray} (h : wordB n s = true) : 1 ≤ s.size ∧ s.size ≤ 8 := by
  unfold wordB at h
  rw [Bool.and_eq_true, decide_eq_true_eq] at h
  exact h.2
theorem addrs_size {n : Int} {ws : List ByteArray} (h : addrs n ws = true) : ∀ s ∈ ws, s.size = (txt ws 0).size ∧ s.size ≤ 8 := fun s hs => by
  obtain ⟨k, hk, rfl⟩ := List.mem_iff_getElem.1 hs
  have := addrs_at h (List.getElem?_eq_getElem hk)
  exact ⟨this.2.1, (wordB_size this.1).2⟩
theorem txt0_size {n : Int} {ws : List ByteArray} (h : addrs n ws = true) : (txt ws 0).size ≤ 8 := by
  cases ws with
  | nil => decide
  | cons s ws => exact (addrs_size h s (List.mem_cons_self ..)).2
def pcode (n : Int) (ws : List ByteArray) : Int := if addrs n ws = false then 1 else if ws.length < 2 then 3 else 0
def leastR (n : Int) (ws : List ByteArray) : Int × Int := if pcode n ws = 0 then (leastA farB ws, 0) else (0, pcode n ws)
def correctsR (n : Int) (ws : List ByteArray) : Int × Int := if pcode n ws = 0 then ((leastA farB ws - 1).tdiv 2, 0) else (0, pcode n ws)
theorem pcode_ok {n : Int} {ws : List ByteArray} (h : pcode n ws = 0) : addrs n ws = true ∧ 2 ≤ ws.length := by
  unfold pcode at h
  split at h
  · omega
  · rename_i h1
    split at h
    · omega
    · exact ⟨by simpa using h1, by omega⟩
theorem lpI_bd {f : ByteArray → ByteArray → Int} {x : ByteArray} (h : ∀ y, -1 ≤ f x y ∧ f x y ≤ 1048576) : ∀ (ys : List ByteArray) (m : Int), -1 ≤ m ∧ m ≤ 1048576 → -1 ≤ lpI f x ys m ∧ lpI f x ys m ≤ 1048576 := by
  intro ys
  induction ys with
  | nil => intro m hm; exact hm
  | cons y ys ih => intro m hm; rw [lpI]; apply ih; split; exact h y; exact hm
theorem lpO_bd {f : ByteArray → ByteArray → Int} {ws : List ByteArray} (h : ∀ i y, -1 ≤ f (txt ws i) y ∧ f (txt ws i) y ≤ 1048576) : ∀ (c i : Nat) (m : Int), -1 ≤ m ∧ m ≤ 1048576 → -1 ≤ lpO f ws i c m ∧ lpO f ws i c m ≤ 1048576 := by
  intro c
  induction c with
  | zero => intro i m hm; exact hm
  | succ c ih => intro i m hm; rw [lpO]; exact ih _ _ (lpI_bd (h i) _ _ hm)
theorem leastA_bd {n : Int} {ws : List ByteArray} (h : addrs n ws = true) : -1 ≤ leastA farB ws ∧ leastA farB ws ≤ 1048576 := by
  unfold leastA
  refine lpO_bd (fun i y => ?_) _ _ _ ⟨by decide, by decide⟩
  have h1 := farB_bd (txt ws i) y
  have h2 : (txt ws i).size ≤ 8 := by
    unfold txt
    cases hx : ws[i]? with
    | none => decide
    | some s => exact (addrs_size h s (List.mem_of_getElem? hx)).2
  omega
end Go.Proofs.YtaajkmjilcamgaaDoor
namespace Go.Proofs.YtaajkmjilcamgaaDoor
open Go.RowKit
def nst (i : Nat) (own : Int) (s : Nat × Int × Bool) : Nat × Int × Bool := if s.2.1 < 0 ∨ own < s.2.1 then (i, own, false) else if own = s.2.1 then (s.1, s.2.1, true) else s
def nearN (seen : ByteArray) (ws : List ByteArray) : Nat → Nat → Nat × Int × Bool → Nat × Int × Bool
  | _, 0, s => s
  | i, m + 1, s => nearN seen ws (i + 1) m (nst i (farB (txt ws i) seen) s)
def nearF (seen : ByteArray) (ws : List ByteArray) : Nat × Int × Bool := nearN seen ws 0 ws.length (0, -1, false)
def nearR (n : Int) (ws : List ByteArray) (seen : ByteArray) : Int × Int × Int :=
  if addrs n ws = false then (0, 0, 1) else if wordB n seen = false then (0, 0, 2) else if ws.length = 0 then (0, 0, 3) else if seen.size ≠ (txt ws 0).size then (0, 0, 8) else if (nearF seen ws).2.2 = true then (0, 0, 9) else (((nearF seen ws).1 : Int), (nearF seen ws).2.1, 0)
theorem nearR_1 {n : Int} {ws : List ByteArray} {seen : ByteArray} (h : addrs n ws = false) : nearR n ws seen = (0, 0, 1) := by unfold nearR; rw [if_pos h]
theorem nearR_2 {n : Int} {ws : List ByteArray} {seen : ByteArray} (h : addrs n ws = true) (h2 : wordB n seen = false) : nearR n ws seen = (0, 0, 2) := by unfold nearR; rw [if_neg (by rw [h]; decide), if_pos h2]
theorem nearR_3 {n : Int} {ws : List ByteArray} {seen : ByteArray} (h : addrs n ws = true) (h2 : wordB n seen = true) (h3 : ws.length = 0) : nearR n ws seen = (0, 0, 3) := by unfold nearR; rw [if_neg (by rw [h]; decide), if_neg (by rw [h2]; decide), if_pos h3]
theorem nearR_8 {n : Int} {ws : List ByteArray} {seen : ByteArray} (h : addrs n ws = true) (h2 : wordB n seen = true) (h3 : ¬ ws.length = 0) (h4 : seen.size ≠ (txt ws 0).size) : nearR n ws seen = (0, 0, 8) := by unfold nearR; rw [if_neg (by rw [h]; decide), if_neg (by rw [h2]; decide), if_neg h3, if_pos h4]
theorem nearR_9 {n : Int} {ws : List ByteArray} {seen : ByteArray} (h : addrs n ws = true) (h2 : wordB n seen = true) (h3 : ¬ ws.length = 0) (h4 : seen.size = (txt ws 0).size) (h5 : (nearF seen ws).2.2 = true) : nearR n ws seen = (0, 0, 9) := by unfold nearR; rw [if_neg (by rw [h]; decide), if_neg (by rw [h2]; decide), if_neg h3, if_neg (fun e => e h4), if_pos h5]
theorem nearR_0 {n : Int} {ws : List ByteArray} {seen : ByteArray} (h : addrs n ws = true) (h2 : wordB n seen = true) (h3 : ¬ ws.length = 0) (h4 : seen.size = (txt ws 0).size) (h5 : (nearF seen ws).2.2 = false) : nearR n ws seen = (((nearF seen ws).1 : Int), (nearF seen ws).2.1, 0) := by unfold nearR; rw [if_neg (by rw [h]; decide), if_neg (by rw [h2]; decide), if_neg h3, if_neg (fun e => e h4), if_neg (by rw [h5]; decide)]
end Go.Proofs.YtaajkmjilcamgaaDoor
namespace Go.Proofs.YtaajkmjilcamgaaDoor
open Go.RowKit
/-- The reference's best word and how many are as near, beside the program's state. -/
def NearI (seen : ByteArray) (ws : List ByteArray) (j bn mn : Nat) (lv : Int) (sb : Bool) : Prop := (j = 0 ∧ bn = 0 ∧ mn = 0 ∧ lv = -1 ∧ sb = false) ∨ (1 ≤ j ∧ bn < ws.length ∧ lv = farB (txt ws bn) seen ∧ ((sb = false ∧ mn = 1) ∨ (sb = true ∧ 2 ≤ mn ∧ mn ≤ j)))
theorem NearI.lt {seen : ByteArray} {ws : List ByteArray} {j bn mn : Nat} {lv : Int} {sb : Bool} (h : NearI seen ws j bn mn lv sb) (hl : 0 < ws.length) : bn < ws.length := by
  rcases h with h | h
  · omega
  · exact h.2.1
theorem NearI.mn {seen : ByteArray} {ws : List ByteArray} {j bn mn : Nat} {lv : Int} {sb : Bool} (h : NearI seen ws j bn mn lv sb) : mn ≤ j := by
  rcases h with h | ⟨h1, _, _, h | h⟩ <;> omega
theorem NearI.less {seen : ByteArray} {ws : List ByteArray} {j bn mn : Nat} {lv : Int} {sb : Bool} (h : NearI seen ws j bn mn lv sb) (hj : j < ws.length) (hd : farB (txt ws j) seen < farB (txt ws bn) seen) : nst j (farB (txt ws j) seen) (bn, lv, sb) = (j, farB (txt ws j) seen, false) ∧ NearI seen ws (j + 1) j 1 (farB (txt ws j) seen) false := by
  rcases h with ⟨h1, h2, _⟩ | ⟨h1, h2, h3, h4⟩
  · subst h1; subst h2; omega
  · refine ⟨?_, .inr ⟨by omega, hj, rfl, .inl ⟨rfl, rfl⟩⟩⟩
    unfold nst
    rw [if_pos (.inr (by dsimp only; omega))]
theorem NearI.same {seen : ByteArray} {ws : List ByteArray} {j bn mn : Nat} {lv : Int} {sb : Bool} (h : NearI seen ws j bn mn lv sb) (hj : j < ws.length) (hd : farB (txt ws j) seen = farB (txt ws bn) seen) : ∃ lv' sb', nst j (farB (txt ws j) seen) (bn, lv, sb) = (bn, lv', sb') ∧ NearI seen ws (j + 1) bn (mn + 1) lv' sb' := by
  rcases h with ⟨h1, h2, h3, h4, h5⟩ | ⟨h1, h2, h3, h4⟩
  · subst h1; subst h2; subst h3; subst h4; subst h5
    exact ⟨farB (txt ws 0) seen, false, by unfold nst; rw [if_pos (.inl (by decide))], .inr ⟨by omega, hj, rfl, .inl ⟨rfl, rfl⟩⟩⟩
  · have h0 := (farB_bd (txt ws bn) seen).1
    refine ⟨lv, true, ?_, .inr ⟨by omega, h2, h3, .inr ⟨rfl, by omega, by omega⟩⟩⟩
    unfold nst
    rw [if_neg (fun e => by dsimp only at e; omega), if_pos (by dsimp only; omega)]
theorem NearI.more {seen : ByteArray} {ws : List ByteArray} {j bn mn : Nat} {lv : Int} {sb : Bool} (h : NearI seen ws j bn mn lv sb) (hd : farB (txt ws bn) seen < farB (txt ws j) seen) : nst j (farB (txt ws j) seen) (bn, lv, sb) = (bn, lv, sb) ∧ NearI seen ws (j + 1) bn mn lv sb := by
  rcases h with ⟨h1, h2, h3, h4, h5⟩ | ⟨h1, h2, h3, h4⟩
  · subst h1; subst h2; omega
  · have h0 := (farB_bd (txt ws bn) seen).1
    refine ⟨?_, .inr ⟨by omega, h2, h3, by rcases h4 with h4 | h4; exact .inl h4; exact .inr ⟨h4.1, h4.2.1, by omega⟩⟩⟩
    unfold nst
    rw [if_neg (fun e => by dsimp only at e; omega), if_neg (by dsimp only; omega)]
theorem NearI.end_ {seen : ByteArray} {ws : List ByteArray} {bn mn : Nat} {lv : Int} {sb : Bool} (h : NearI seen ws ws.length bn mn lv sb) (hl : 0 < ws.length) : (sb = false ∧ mn = 1 ∧ lv = farB (txt ws bn) seen) ∨ (sb = true ∧ 2 ≤ mn) := by
  rcases h with h | ⟨_, _, h3, h | h⟩
  · omega
  · exact .inl ⟨h.1, h.2, h3⟩
  · exact .inr ⟨h.1, h.2.1⟩
end Go.Proofs.YtaajkmjilcamgaaDoor
namespace Go.Proofs.YtaajkmjilcamgaaDoor
open Go.RowKit
def misN (ws : List ByteArray) (tk : ByteArray) (k rings : Int) : Nat → Nat → List Int
  | _, 0 => []
  | i, m + 1 => (if (i : Int) ≠ k ∧ farB (txt ws i) tk ≤ rings then [(i : Int)] else []) ++ misN ws tk k rings (i + 1) m
def misCode (n : Int) (ws : List ByteArray) (k rings : Int) : Int := if addrs n ws = false then 1 else if (0 ≤ k ∧ k ≤ (ws.length : Int) - 1) ∧ 0 ≤ rings ∧ rings ≤ 8 then 0 else 2
def misL (n : Int) (ws : List ByteArray) (k rings : Int) : List Int := if misCode n ws k rings = 0 then misN ws (txt ws k.toNat) k rings 0 ws.length else []
theorem misN_no {ws : List ByteArray} {tk : ByteArray} {k rings : Int} {i m : Nat} (h : ¬ ((i : Int) ≠ k ∧ farB (txt ws i) tk ≤ rings)) : misN ws tk k rings i (m + 1) = misN ws tk k rings (i + 1) m := by rw [misN, if_neg h]; rfl
theorem misN_yes {ws : List ByteArray} {tk : ByteArray} {k rings : Int} {i m : Nat} (h : (i : Int) ≠ k ∧ farB (txt ws i) tk ≤ rings) : misN ws tk k rings i (m + 1) = (i : Int) :: misN ws tk k rings (i + 1) m := by rw [misN, if_pos h]; rfl
end Go.Proofs.YtaajkmjilcamgaaDoor
namespace Go.Proofs.YtaajkmjilcamgaaDoor
open Go.RowKit
theorem misN_len (ws : List ByteArray) (tk : ByteArray) (k rings : Int) : ∀ m i, (misN ws tk k rings i m).length ≤ m := by
  intro m
  induction m with
  | zero => intro i; exact Nat.le_refl _
  | succ m ih =>
    intro i
    have := ih (i + 1)
    rw [misN, List.length_append]
    split
    · rw [List.length_singleton]; omega
    · rw [List.length_nil]; omega
theorem misL_len (n : Int) (ws : List ByteArray) (k rings : Int) : (misL n ws k rings).length ≤ ws.length := by
  unfold misL
  split
  · exact misN_len _ _ _ _ _ _
  · exact Nat.zero_le _
end Go.Proofs.YtaajkmjilcamgaaDoor
