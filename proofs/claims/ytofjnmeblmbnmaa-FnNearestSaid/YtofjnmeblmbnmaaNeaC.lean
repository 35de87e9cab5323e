/-
  Addresses are valid, in both packages.
-/
import Derived.Test.YtofjnmeblmbnmaaNeaB
namespace Go.Proofs.Ytofjnmeblmbnmaa
open Go.RowKit
theorem hasS_succ {ws : List ByteArray} {k : Nat} {y x : ByteArray} (h : ws[k]? = some y) : hasS (ws.take (k + 1)) x = (hasS (ws.take k) x || decide (y = x)) := by
  unfold hasS
  rw [List.take_add_one, h, List.any_append]
  simp
theorem hasS_zero {ws : List ByteArray} {x : ByteArray} : hasS (ws.take 0) x = false := by simp [hasS]
theorem okN_step {n : Int} {ws : List ByteArray} {i m : Nat} : okN n ws i (m + 1) = (okA n ws i && okN n ws (i + 1) m) := rfl
theorem hasS_mono {ws : List ByteArray} {k j : Nat} {x : ByteArray} (h : k ≤ j) (e : hasS (ws.take k) x = true) : hasS (ws.take j) x = true := by
  unfold hasS at *
  rw [List.any_eq_true] at *
  obtain ⟨z, hz, hp⟩ := e
  exact ⟨z, (List.take_subset_take_left ws h) hz, hp⟩
theorem l05Signs_any (n : Int) (w : World) : Calls Try.prog 44 #[.int .i64 n] w fun e w' => e = .returned (.bool (decide (2 ≤ n ∧ n ≤ 4))) ∧ w = w' := by
  by_cases h : 2 ≤ n ∧ n ≤ 4
  · rw [decide_eq_true h]
    obtain ⟨h1, h2⟩ := h
    go_enter Try.func44, Try.ntmps44
    go_wp2_with (go_at_call 41; first | (refine (l00In_t _ _ _ _ (by omega)).mono ?_; rintro e w' ⟨rfl, rfl⟩) | (refine (l00In_f _ _ _ _ (by omega)).mono ?_; rintro e w' ⟨rfl, rfl⟩))
    go_ret
    exact ⟨rfl, rfl⟩
  · rw [decide_eq_false h]
    go_enter Try.func44, Try.ntmps44
    go_wp2_with (go_at_call 41; first | (refine (l00In_t _ _ _ _ (by omega)).mono ?_; rintro e w' ⟨rfl, rfl⟩) | (refine (l00In_f _ _ _ _ (by omega)).mono ?_; rintro e w' ⟨rfl, rfl⟩))
    go_ret
    exact ⟨rfl, rfl⟩
theorem areSigns_any (n : Int) (w : World) : Calls Try.prog 42 #[.int .i64 n] w fun e w' => e = .returned (.bool (decide (2 ≤ n ∧ n ≤ 4))) ∧ w = w' := by
  by_cases h : 2 ≤ n ∧ n ≤ 4
  · rw [decide_eq_true h]
    obtain ⟨h1, h2⟩ := h
    go_enter Try.func42, Try.ntmps42
    go_wp2_with (go_at_call 40; first | (refine (within_t _ _ _ _ (by omega)).mono ?_; rintro e w' ⟨rfl, rfl⟩) | (refine (within_f _ _ _ _ (by omega)).mono ?_; rintro e w' ⟨rfl, rfl⟩))
    go_ret
    exact ⟨rfl, rfl⟩
  · rw [decide_eq_false h]
    go_enter Try.func42, Try.ntmps42
    go_wp2_with (go_at_call 40; first | (refine (within_t _ _ _ _ (by omega)).mono ?_; rintro e w' ⟨rfl, rfl⟩) | (refine (within_f _ _ _ _ (by omega)).mono ?_; rintro e w' ⟨rfl, rfl⟩))
    go_ret
    exact ⟨rfl, rfl⟩
set_option maxRecDepth 100000 in
set_option maxHeartbeats 4000000 in
theorem validAddresses_any (n : Int) (ws : List ByteArray) (A : Option Addr) (c : Nat) (w : World) (hcap : ws.length ≤ c) (hc2 : c ≤ 9223372036854775807) (hsz : ∀ s ∈ ws, s.size ≤ 1048576) (hr : RdS w w.heap.size A ws) :
    Calls Try.prog 21 #[.int .i64 n, .slice A ws.length c] w fun e w' => e = .returned (.bool (addrs n ws)) ∧ w = w' := by
  have HSG := hide (areSigns_any n w)
  have HR := hide hr
  have HSZ := hide hsz
  clear hr hsz
  by_cases hsg : 2 ≤ n ∧ n ≤ 4
  case neg =>
    rw [decide_eq_false hsg] at HSG
    have HE := hide (addrs_signs (ws := ws) hsg)
    clear hsg
    go_enter Try.func21, Try.ntmps21
    go_wp2_with (go_at_call 42; refine (HSG.out).mono ?_; rintro e w' ⟨rfl, rfl⟩)
    go_ret
    exact ⟨ret_b HE.out.symm, rfl⟩
  rw [decide_eq_true hsg] at HSG
  by_cases hlen : ws.length ≤ 40
  case neg =>
    have HE := hide (addrs_long (n := n) hlen)
    have hB : decide (40 < (ws.length : Int)) = true := by simp; omega
    clear hlen
    go_enter Try.func21, Try.ntmps21
    go_wp2_with (go_at_call 42; refine (HSG.out).mono ?_; rintro e w' ⟨rfl, rfl⟩)
    go_ret
    exact ⟨ret_b HE.out.symm, rfl⟩
  have HE := hide (addrs_eq hsg hlen)
  have hB : decide (40 < (ws.length : Int)) = false := by simp; omega
  obtain ⟨hn1, hn2⟩ := hsg
  go_enter Try.func21, Try.ntmps21
  go_wp2_with (go_at_call 42; refine (HSG.out).mono ?_; rintro e w' ⟨rfl, rfl⟩)
  go_loopg [17] ws.length (fun g i wr => ∃ j : Nat, j ≤ ws.length ∧ Hid (g = ws.length - j) ∧ i = .int .i64 j ∧ Hid (addrs n ws = okN n ws j (ws.length - j)) ∧ wr = w)
  case atStart => exact ⟨0, by omega, by simp [Hid], rfl, by unfold Hid; rw [HE.out]; rfl, rfl⟩
  case round =>
    obtain ⟨j, hj, hgj, rfl, HT, rfl⟩ := hrel
    by_cases hjt : j < ws.length
    case neg =>
      have hd := HT.out
      rw [show ws.length - j = 0 by omega, okN] at hd
      have HD := hide hd
      clear hd
      go_wp2_with fail
      go_ret
      exact ⟨ret_b HD.out.symm, rfl⟩
    obtain ⟨b, o, s, rfl, _, hs, hcs⟩ := HR.out.at_ hjt
    obtain ⟨b', o', s0, hA, _, hs0, hc0⟩ := HR.out.at_ (j := 0) (by omega)
    obtain ⟨rfl, rfl⟩ : b = b' ∧ o = o' := by cases hA; exact ⟨rfl, rfl⟩
    have hd := HT.out
    rw [show ws.length - j = (ws.length - (j + 1)) + 1 by omega, okN_step] at hd
    unfold okA at hd
    rw [txt_get hs, txt_get hs0] at hd
    have hss := HSZ.out s (List.mem_of_getElem? hs)
    have HW := hide (isWord_any n s wr (by omega) hss)
    have HCT := hide (containsS_any (ws.take j) s (some ⟨b, o, none⟩) c wr (by rw [List.length_take]; omega) (HR.out.take j))
    rw [show (ws.take j).length = j by rw [List.length_take]; omega] at HCT
    have hjc : j ≤ c := by omega
    rw [Nat.add_zero] at hc0
    clear hs hs0 hA HT
    cases hwd : wordB n s
    · rw [hwd] at hd HW
      have HD := hide (show addrs n ws = false by rw [hd]; rfl)
      clear hd hwd
      go_wp2_with (go_at_call 30; refine (HW.out).mono ?_; rintro e w' ⟨rfl, rfl⟩)
      go_ret
      exact ⟨ret_b HD.out.symm, rfl⟩
    rw [hwd] at hd HW
    by_cases hle : s.size = s0.size
    case neg =>
      rw [decide_eq_false hle] at hd
      have HD := hide (show addrs n ws = false by rw [hd]; rfl)
      have hB3 : ((s.size : Int) != (s0.size : Int)) = true := by simp; omega
      have HLE := hide hle
      clear hd hwd hle
      go_wp2_with (go_at_call 30; refine (HW.out).mono ?_; rintro e w' ⟨rfl, rfl⟩)
      go_ret
      exact ⟨ret_b HD.out.symm, rfl⟩
    rw [decide_eq_true hle] at hd
    have hB3 : ((s.size : Int) != (s0.size : Int)) = false := by simp; omega
    have HLE := hide hle
    clear hle
    cases hh : hasS (ws.take j) s
    · rw [hh] at hd HCT
      have HT2 := hide (show addrs n ws = okN n ws (j + 1) (ws.length - (j + 1)) by rw [hd]; simp)
      clear hd hwd hh
      go_wp2_with (first | (go_at_call 30; refine (HW.out).mono ?_; rintro e w' ⟨rfl, rfl⟩) | (go_at_call 43; refine (HCT.out).mono ?_; rintro e w' ⟨rfl, rfl⟩))
      go_roundg (ws.length - (j + 1))
      case measure => have := hgj.out; omega
      case rel => exact ⟨j + 1, by omega, rfl, by go_num, HT2, rfl⟩
    · rw [hh] at hd HCT
      have HD := hide (show addrs n ws = false by rw [hd]; rfl)
      clear hd hwd hh
      go_wp2_with (first | (go_at_call 30; refine (HW.out).mono ?_; rintro e w' ⟨rfl, rfl⟩) | (go_at_call 43; refine (HCT.out).mono ?_; rintro e w' ⟨rfl, rfl⟩))
      go_ret
      exact ⟨ret_b HD.out.symm, rfl⟩
set_option maxRecDepth 100000 in
set_option maxHeartbeats 4000000 in
theorem l05Ok_any (n : Int) (ws : List ByteArray) (A : Option Addr) (c : Nat) (w : World) (hwl : ws.length ≤ 1048576) (hsz : ∀ s ∈ ws, s.size ≤ 1048576) (hr : RdS w w.heap.size A ws) :
    Calls Try.prog 32 #[.int .i64 n, .slice A ws.length c] w fun e w' => e = .returned (.bool (addrs n ws)) ∧ ∃ m, w' = w.drewN m := by
  have HSG := hide (l05Signs_any n w)
  have HR := hide hr
  have HSZ := hide hsz
  clear hr hsz
  by_cases hsg : 2 ≤ n ∧ n ≤ 4
  case neg =>
    rw [decide_eq_false hsg] at HSG
    have HE := hide (addrs_signs (ws := ws) hsg)
    clear hsg
    go_enter Try.func32, Try.ntmps32
    go_wp2_with (go_at_call 44; refine (HSG.out).mono ?_; rintro e w' ⟨rfl, rfl⟩)
    go_ret
    exact ⟨ret_b HE.out.symm, 0, rfl⟩
  rw [decide_eq_true hsg] at HSG
  by_cases hlen : ws.length ≤ 40
  case neg =>
    have HE := hide (addrs_long (n := n) hlen)
    have hB : decide (40 < (ws.length : Int)) = true := by simp; omega
    clear hlen
    go_enter Try.func32, Try.ntmps32
    go_wp2_with (go_at_call 44; refine (HSG.out).mono ?_; rintro e w' ⟨rfl, rfl⟩)
    go_ret
    exact ⟨ret_b HE.out.symm, 0, rfl⟩
  have HE := hide (addrs_eq hsg hlen)
  have hB : decide (40 < (ws.length : Int)) = false := by simp; omega
  obtain ⟨hn1, hn2⟩ := hsg
  go_enter Try.func32, Try.ntmps32
  go_wp2_with (go_at_call 44; refine (HSG.out).mono ?_; rintro e w' ⟨rfl, rfl⟩)
  go_loopg [5] ws.length (fun g i wr => ∃ j : Nat, j ≤ ws.length ∧ Hid (g = ws.length - j) ∧ i = .int .i64 j ∧ Hid (addrs n ws = okN n ws j (ws.length - j)) ∧ ∃ m, Hid (wr = w.drewN m))
  case atStart => exact ⟨0, by omega, by simp [Hid], rfl, by unfold Hid; rw [HE.out]; rfl, 0, rfl⟩
  case round =>
    obtain ⟨j, hj, hgj, rfl, HT, m, HM⟩ := hrel
    by_cases hjt : j < ws.length
    case neg =>
      have hd := HT.out
      rw [show ws.length - j = 0 by omega, okN] at hd
      have HD := hide hd
      clear hd
      go_wp2_with fail
      go_ret
      exact ⟨ret_b HD.out.symm, m, HM.out⟩
    obtain ⟨b, o, s, rfl, _, hs, hcs⟩ := HR.out.at_ hjt
    obtain ⟨b', o', s0, hA, _, hs0, hc0⟩ := HR.out.at_ (j := 0) (by omega)
    obtain ⟨rfl, rfl⟩ : b = b' ∧ o = o' := by cases hA; exact ⟨rfl, rfl⟩
    have hd := HT.out
    rw [show ws.length - j = (ws.length - (j + 1)) + 1 by omega, okN_step] at hd
    unfold okA at hd
    rw [txt_get hs, txt_get hs0] at hd
    have hss := HSZ.out s (List.mem_of_getElem? hs)
    have HW := hide fun W => l05Word_any n s W (by omega) hss
    rw [Nat.add_zero] at hc0
    have hji : (j : Int) < (ws.length : Int) := by omega
    have hjz : (0 : Int) < (ws.length : Int) := by omega
    have ks : wr.cell? ⟨b, o + j, none⟩ = some (.string s) := by rw [HM.out]; exact hcs
    have k0 : wr.cell? ⟨b, o, none⟩ = some (.string s0) := by rw [HM.out]; exact hc0
    have HCS := hide hcs
    have HS := hide hs
    clear hs hs0 hA HT hcs hc0
    cases hwd : wordB n s
    · rw [hwd] at hd HW
      have HD := hide (show addrs n ws = false by rw [hd]; rfl)
      clear hd hwd
      go_wp2_with fail
      go_quiet ((go_at_call 33; with_reducible exact ql (HW.out _)))
      go_wp2_with fail
      go_ret
      exact ⟨ret_b HD.out.symm, m + nq, by rw [HM.out, World.drewN_drewN]⟩
    rw [hwd] at hd HW
    by_cases hle : s.size = s0.size
    case neg =>
      rw [decide_eq_false hle] at hd
      have HD := hide (show addrs n ws = false by rw [hd]; rfl)
      have hB3 : ((s.size : Int) != (s0.size : Int)) = true := by simp; omega
      have HLE := hide hle
      clear hd hwd hle
      go_wp2_with fail
      go_quiet ((go_at_call 33; with_reducible exact ql (HW.out _)))
      go_wp2_with fail
      go_ret
      exact ⟨ret_b HD.out.symm, m + nq, by rw [HM.out, World.drewN_drewN]⟩
    rw [decide_eq_true hle] at hd
    have hB3 : ((s.size : Int) != (s0.size : Int)) = false := by simp; omega
    have HLE := hide hle
    have HDD := hide hd
    clear hle hd hwd
    go_wp2_with fail
    go_quiet ((go_at_call 33; with_reducible exact ql (HW.out _)))
    clear ks k0
    go_wp2_with fail
    go_loopg [6] j (fun g i wr => ∃ k : Nat, k ≤ j ∧ Hid (g = j - k) ∧ i = .int .i64 k ∧ Hid (hasS (ws.take k) s = false) ∧ ∃ q, Hid (wr = w.drewN q))
    case atStart => exact ⟨0, by omega, by simp [Hid], rfl, hide hasS_zero, m + nq, hide (by rw [HM.out, World.drewN_drewN])⟩
    case round =>
      obtain ⟨k, hk, hgk, rfl, HH, q, HM2⟩ := hrel
      by_cases hkt : k < j
      case neg =>
        obtain rfl : k = j := by omega
        have HT2 := hide (show addrs n ws = okN n ws (k + 1) (ws.length - (k + 1)) by rw [HDD.out, HH.out]; simp)
        go_wp2_with fail
        go_roundg (ws.length - (k + 1))
        case measure => have := hgj.out; omega
        case rel => exact ⟨k + 1, by omega, rfl, by go_num, HT2, q, HM2⟩
      obtain ⟨b', o', y, hA, _, hy, hcy⟩ := HR.out.at_ (j := k) (by omega)
      obtain ⟨rfl, rfl⟩ : b = b' ∧ o = o' := by cases hA; exact ⟨rfl, rfl⟩
      have ky : wr.cell? ⟨b, o + k, none⟩ = some (.string y) := by rw [HM2.out]; exact hcy
      have kx : wr.cell? ⟨b, o + j, none⟩ = some (.string s) := by rw [HM2.out]; exact HCS.out
      have hki : (k : Int) < (ws.length : Int) := by omega
      have hsu := hasS_succ (x := s) hy
      rw [HH.out] at hsu
      clear hA hy hcy
      by_cases hxy : y = s
      · have hsu2 : hasS (ws.take (k + 1)) s = true := by rw [hsu, decide_eq_true hxy]; rfl
        have hh := hasS_mono (show k + 1 ≤ j by omega) hsu2
        have HD := hide (show addrs n ws = false by rw [HDD.out, hh]; rfl)
        have hB4 : (y.toList == s.toList) = true := by rw [txt_eq, decide_eq_true hxy]
        have HXY := hide hxy
        clear hsu hsu2 hh hxy
        go_wp2_with fail
        go_quiet (fail)
        go_wp2_with fail
        go_ret
        exact ⟨ret_b HD.out.symm, q + nq, by rw [HM2.out, World.drewN_drewN]⟩
      · have HH2 := hide (show hasS (ws.take (k + 1)) s = false by rw [hsu, decide_eq_false hxy]; rfl)
        have hB4 : (y.toList == s.toList) = false := by rw [txt_eq, decide_eq_false hxy]
        have HXY := hide hxy
        clear hsu hxy
        go_wp2_with fail
        go_quiet (fail)
        go_wp2_with fail
        go_roundg (j - (k + 1))
        case measure => have := hgk.out; omega
        case rel => exact ⟨k + 1, by omega, rfl, by go_num, HH2, q + nq, hide (by rw [HM2.out, World.drewN_drewN])⟩
end Go.Proofs.Ytofjnmeblmbnmaa
