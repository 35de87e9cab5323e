/-
  The nearest address, in the program.
-/
import Derived.Test.YtofjnmeblmbnmaaNeaF
namespace Go.Proofs.Ytofjnmeblmbnmaa
open Go.RowKit
def nst (i : Nat) (own : Int) (s : Nat × Int × Bool) : Nat × Int × Bool := if s.2.1 < 0 ∨ own < s.2.1 then (i, own, false) else if own = s.2.1 then (s.1, s.2.1, true) else s
def nearN (seen : ByteArray) (ws : List ByteArray) : Nat → Nat → Nat × Int × Bool → Nat × Int × Bool
  | _, 0, s => s
  | i, m + 1, s => nearN seen ws (i + 1) m (nst i (farB (txt ws i) seen) s)
def nearF (seen : ByteArray) (ws : List ByteArray) : Nat × Int × Bool := nearN seen ws 0 ws.length (0, -1, false)
def nearR (n : Int) (ws : List ByteArray) (seen : ByteArray) : Int × Int × Int :=
  if addrs n ws = false then (0, 0, 1) else if wordB n seen = false then (0, 0, 2) else if ws.length = 0 then (0, 0, 3) else if seen.size ≠ (txt ws 0).size then (0, 0, 8) else if (nearF seen ws).2.2 = true then (0, 0, 9) else (((nearF seen ws).1 : Int), (nearF seen ws).2.1, 0)
theorem nearR_1 {n : Int} {ws : List ByteArray} {seen : ByteArray} (h : addrs n ws = false) : nearR n ws seen = (0, 0, 1) := by unfold nearR; rw [if_pos h]
theorem nearR_2 {n : Int} {ws : List ByteArray} {seen : ByteArray} (h : addrs n ws = true) (h2 : wordB n seen = false) : nearR n ws seen = (0, 0, 2) := by unfold nearR; rw [if_neg (by rw [h]; decide), if_pos h2]
theorem nearR_3 {n : Int} {ws : List ByteArray} {seen : ByteArray} (h : addrs n ws = true) (h2 : wordB n seen = true) (h3 : ws.length = 0) : nearR n ws seen = (0, 0, 3) := by unfold nearR; rw [if_neg (by rw [h]; decide), if_neg (by rw [h2]; decide), if_pos h3]
theorem nearR_8 {n : Int} {ws : List ByteArray} {seen : ByteArray} (h : addrs n ws = true) (h2 : wordB n seen = true) (h3 : ¬ ws.length = 0) (h4 : seen.size ≠ (txt ws 0).size) : nearR n ws seen = (0, 0, 8) := by unfold nearR; rw [if_neg (by rw [h]; decide), if_neg (by rw [h2]; decide), if_neg h3, if_pos h4]
theorem nearR_9 {n : Int} {ws : List ByteArray} {seen : ByteArray} (h : addrs n ws = true) (h2 : wordB n seen = true) (h3 : ¬ ws.length = 0) (h4 : seen.size = (txt ws 0).size) (h5 : (nearF seen ws).2.2 = true) : nearR n ws seen = (0, 0, 9) := by unfold nearR; rw [if_neg (by rw [h]; decide), if_neg (by rw [h2]; decide), if_neg h3, if_neg (fun e => e h4), if_pos h5]
theorem nearR_0 {n : Int} {ws : List ByteArray} {seen : ByteArray} (h : addrs n ws = true) (h2 : wordB n seen = true) (h3 : ¬ ws.length = 0) (h4 : seen.size = (txt ws 0).size) (h5 : (nearF seen ws).2.2 = false) : nearR n ws seen = (((nearF seen ws).1 : Int), (nearF seen ws).2.1, 0) := by unfold nearR; rw [if_neg (by rw [h]; decide), if_neg (by rw [h2]; decide), if_neg h3, if_neg (fun e => e h4), if_neg (by rw [h5]; decide)]
set_option maxRecDepth 100000 in
set_option maxHeartbeats 8000000 in
theorem nearest_any (n : Int) (ws : List ByteArray) (seen : ByteArray) (A : Option Addr) (c : Nat) (w : World) (hcap : ws.length ≤ c) (hc2 : c ≤ 9223372036854775807) (hsz : ∀ s ∈ ws, s.size ≤ 1048576) (hss : seen.size ≤ 1048576) (hr : RdS w w.heap.size A ws) :
    Calls Try.prog 6 #[.int .i64 n, .slice A ws.length c, .string seen] w fun e w' => e = .returned (.tuple #[.int .i64 (nearR n ws seen).1, .int .i64 (nearR n ws seen).2.1, .int .i64 (nearR n ws seen).2.2]) ∧ ∃ m, w' = w.drewN m := by
  have HV := hide (validAddresses_any n ws A c w hcap hc2 hsz hr)
  have HRD := hide hr
  clear hr hsz
  cases h : addrs n ws
  · have HR := hide (nearR_1 (seen := seen) h)
    rw [h] at HV
    clear h
    go_enter Try.func6, Try.ntmps6
    go_wp2_with (go_at_call 21; refine (HV.out).mono ?_; rintro e w' ⟨rfl, rfl⟩)
    go_ret3
    exact ⟨by rw [HR.out]; rfl, 0, rfl⟩
  rw [h] at HV
  have hn := (addrs_len h).1
  have HW := hide (isWord_any n seen w (by omega) hss)
  cases h2 : wordB n seen
  · have HR := hide (nearR_2 h h2)
    rw [h2] at HW
    clear h h2
    go_enter Try.func6, Try.ntmps6
    go_wp2_with (first | (go_at_call 21; refine (HV.out).mono ?_; rintro e w' ⟨rfl, rfl⟩) | (go_at_call 30; refine (HW.out).mono ?_; rintro e w' ⟨rfl, rfl⟩))
    go_ret3
    exact ⟨by rw [HR.out]; rfl, 0, rfl⟩
  rw [h2] at HW
  by_cases h3 : ws.length = 0
  · have HR := hide (nearR_3 h h2 h3)
    have hB : ((ws.length : Int) == 0) = true := by rw [h3]; rfl
    have H3 := hide h3
    clear h h2 h3
    go_enter Try.func6, Try.ntmps6
    go_wp2_with (first | (go_at_call 21; refine (HV.out).mono ?_; rintro e w' ⟨rfl, rfl⟩) | (go_at_call 30; refine (HW.out).mono ?_; rintro e w' ⟨rfl, rfl⟩))
    go_ret3
    exact ⟨by rw [HR.out]; rfl, 0, rfl⟩
  have hB : ((ws.length : Int) == 0) = false := by rw [beq_eq_false_iff_ne]; omega
  obtain ⟨b, o, s0, rfl, _, hs0, hc0⟩ := HRD.out.at_ (j := 0) (by omega)
  rw [Nat.add_zero] at hc0
  have h0t := txt_get hs0
  have hjz : (0 : Int) < (ws.length : Int) := by omega
  by_cases h4 : seen.size = (txt ws 0).size
  case neg =>
    have HR := hide (nearR_8 h h2 h3 h4)
    rw [h0t] at h4
    have hB4 : ((seen.size : Int) != (s0.size : Int)) = true := by simp; omega
    have H3 := hide h3
    have H4 := hide h4
    clear h h2 h3 h4 hs0 h0t
    go_enter Try.func6, Try.ntmps6
    go_wp2_with (first | (go_at_call 21; refine (HV.out).mono ?_; rintro e w' ⟨rfl, rfl⟩) | (go_at_call 30; refine (HW.out).mono ?_; rintro e w' ⟨rfl, rfl⟩))
    go_ret3
    exact ⟨by rw [HR.out]; rfl, 0, rfl⟩
  have HSZ := hide (addrs_size h)
  have HR9 := hide (nearR_9 h h2 h3 h4)
  have HR0 := hide (nearR_0 h h2 h3 h4)
  have H40 := hide h4
  rw [h0t] at h4
  have hB4 : ((seen.size : Int) != (s0.size : Int)) = false := by simp; omega
  have H3 := hide h3
  have H4 := hide h4
  clear h h2 h3 h4 hs0 h0t
  go_enter Try.func6, Try.ntmps6
  go_wp2_with (first | (go_at_call 21; refine (HV.out).mono ?_; rintro e w' ⟨rfl, rfl⟩) | (go_at_call 30; refine (HW.out).mono ?_; rintro e w' ⟨rfl, rfl⟩))
  go_loopg [39, 9, 10, 11] ws.length (fun g i bs ls sv wr => ∃ (j bn : Nat) (lv : Int) (sb : Bool), j ≤ ws.length ∧ Hid (g = ws.length - j) ∧ i = .int .i64 j ∧ bs = .int .i64 bn ∧ ls = .int .i64 lv ∧ sv = .bool sb ∧ Hid (nearF seen ws = nearN seen ws j (ws.length - j) (bn, lv, sb)) ∧ ∃ m, Hid (wr = w.drewN m))
  case atStart => exact ⟨0, 0, -1, false, by omega, by simp [Hid], rfl, rfl, rfl, rfl, hide rfl, 0, hide rfl⟩
  case round =>
    obtain ⟨j, bn, lv, sb, hj, hgj, rfl, rfl, rfl, rfl, HT, m, HM⟩ := hrel
    by_cases hjt : j < ws.length
    case neg =>
      have hd := HT.out
      rw [show ws.length - j = 0 by omega, nearN] at hd
      have HD := hide hd
      clear hd
      cases sb
      · have HR := hide (show nearR n ws seen = ((bn : Int), lv, 0) by rw [HR0.out (by rw [HD.out]), HD.out])
        go_wp2_with fail
        go_ret3
        exact ⟨by rw [HR.out]; rfl, m, HM.out⟩
      · have HR := hide (HR9.out (by rw [HD.out]))
        go_wp2_with fail
        go_ret3
        exact ⟨by rw [HR.out]; rfl, m, HM.out⟩
    obtain ⟨b', o', t, hA, _, ht, hct⟩ := HRD.out.at_ hjt
    obtain ⟨rfl, rfl⟩ : b = b' ∧ o = o' := by cases hA; exact ⟨rfl, rfl⟩
    have kt : wr.cell? ⟨b, o + j, none⟩ = some (.string t) := by rw [HM.out]; exact hct
    have htz := HSZ.out t (List.mem_of_getElem? ht)
    have hd := HT.out
    rw [show ws.length - j = (ws.length - (j + 1)) + 1 by omega, nearN, txt_get ht] at hd
    have HF := hide (distance_any t seen wr (by rw [htz.1, H40.out]) (by omega))
    clear hA ht hct htz HT
    generalize farB t seen = d at *
    by_cases h1 : lv < 0
    · rw [show nst j d (bn, lv, sb) = (j, d, false) from by unfold nst; rw [if_pos (.inl h1)]] at hd
      have HT2 := hide hd
      clear hd
      go_wp2_with (go_at_call 31; with_reducible refine (HF.out).mono ?_; rintro e w2 ⟨rfl, q1, rfl⟩)
      go_roundg (ws.length - (j + 1))
      case measure => have := hgj.out; omega
      case rel => exact ⟨j + 1, j, d, false, by omega, rfl, by go_num, rfl, rfl, rfl, HT2, m + q1, hide (by rw [HM.out, World.drewN_drewN])⟩
    by_cases h5 : d < lv
    · rw [show nst j d (bn, lv, sb) = (j, d, false) from by unfold nst; rw [if_pos (.inr h5)]] at hd
      have HT2 := hide hd
      clear hd
      go_wp2_with (go_at_call 31; with_reducible refine (HF.out).mono ?_; rintro e w2 ⟨rfl, q1, rfl⟩)
      go_roundg (ws.length - (j + 1))
      case measure => have := hgj.out; omega
      case rel => exact ⟨j + 1, j, d, false, by omega, rfl, by go_num, rfl, rfl, rfl, HT2, m + q1, hide (by rw [HM.out, World.drewN_drewN])⟩
    by_cases h6 : d = lv
    · have hB6 : (d == lv) = true := by simpa using h6
      have H6 := hide h6
      clear h6
      rw [show nst j d (bn, lv, sb) = (bn, lv, true) from by unfold nst; rw [if_neg (fun e => by rcases e with e | e; exact h1 e; exact h5 e), if_pos H6.out]] at hd
      have HT2 := hide hd
      clear hd
      go_wp2_with (go_at_call 31; with_reducible refine (HF.out).mono ?_; rintro e w2 ⟨rfl, q1, rfl⟩)
      go_roundg (ws.length - (j + 1))
      case measure => have := hgj.out; omega
      case rel => exact ⟨j + 1, bn, lv, true, by omega, rfl, by go_num, rfl, rfl, rfl, HT2, m + q1, hide (by rw [HM.out, World.drewN_drewN])⟩
    · have hB6 : (d == lv) = false := by simpa using h6
      have H6 := hide h6
      clear h6
      rw [show nst j d (bn, lv, sb) = (bn, lv, sb) from by unfold nst; rw [if_neg (fun e => by rcases e with e | e; exact h1 e; exact h5 e), if_neg H6.out]] at hd
      have HT2 := hide hd
      clear hd
      go_wp2_with (go_at_call 31; with_reducible refine (HF.out).mono ?_; rintro e w2 ⟨rfl, q1, rfl⟩)
      go_roundg (ws.length - (j + 1))
      case measure => have := hgj.out; omega
      case rel => exact ⟨j + 1, bn, lv, sb, by omega, rfl, by go_num, rfl, rfl, rfl, HT2, m + q1, hide (by rw [HM.out, World.drewN_drewN])⟩
end Go.Proofs.Ytofjnmeblmbnmaa
