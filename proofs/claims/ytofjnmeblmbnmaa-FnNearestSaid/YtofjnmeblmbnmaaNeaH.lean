/-
  The nearest address, in the reference.
-/
import Derived.Test.YtofjnmeblmbnmaaNeaG
namespace Go.Proofs.Ytofjnmeblmbnmaa
open Go.RowKit
/-- The reference's best word and how many are as near, beside the program's state. -/
def NearI (seen : ByteArray) (ws : List ByteArray) (j bn mn : Nat) (lv : Int) (sb : Bool) : Prop := (j = 0 ∧ bn = 0 ∧ mn = 0 ∧ lv = -1 ∧ sb = false) ∨ (1 ≤ j ∧ bn < ws.length ∧ lv = farB (txt ws bn) seen ∧ ((sb = false ∧ mn = 1) ∨ (sb = true ∧ 2 ≤ mn ∧ mn ≤ j)))
theorem NearI.lt {seen : ByteArray} {ws : List ByteArray} {j bn mn : Nat} {lv : Int} {sb : Bool} (h : NearI seen ws j bn mn lv sb) (hl : 0 < ws.length) : bn < ws.length := by
  rcases h with h | h
  · omega
  · exact h.2.1
theorem NearI.mn {seen : ByteArray} {ws : List ByteArray} {j bn mn : Nat} {lv : Int} {sb : Bool} (h : NearI seen ws j bn mn lv sb) : mn ≤ j := by
  rcases h with h | ⟨h1, _, _, h | h⟩ <;> omega
theorem NearI.less {seen : ByteArray} {ws : List ByteArray} {j bn mn : Nat} {lv : Int} {sb : Bool} (h : NearI seen ws j bn mn lv sb) (hj : j < ws.length) (hd : farB (txt ws j) seen < farB (txt ws bn) seen) : nst j (farB (txt ws j) seen) (bn, lv, sb) = (j, farB (txt ws j) seen, false) ∧ NearI seen ws (j + 1) j 1 (farB (txt ws j) seen) false := by
  rcases h with ⟨h1, h2, _⟩ | ⟨h1, h2, h3, h4⟩
  · subst h1; subst h2; omega
  · refine ⟨?_, .inr ⟨by omega, hj, rfl, .inl ⟨rfl, rfl⟩⟩⟩
    unfold nst
    rw [if_pos (.inr (by dsimp only; omega))]
theorem NearI.same {seen : ByteArray} {ws : List ByteArray} {j bn mn : Nat} {lv : Int} {sb : Bool} (h : NearI seen ws j bn mn lv sb) (hj : j < ws.length) (hd : farB (txt ws j) seen = farB (txt ws bn) seen) : ∃ lv' sb', nst j (farB (txt ws j) seen) (bn, lv, sb) = (bn, lv', sb') ∧ NearI seen ws (j + 1) bn (mn + 1) lv' sb' := by
  rcases h with ⟨h1, h2, h3, h4, h5⟩ | ⟨h1, h2, h3, h4⟩
  · subst h1; subst h2; subst h3; subst h4; subst h5
    exact ⟨farB (txt ws 0) seen, false, by unfold nst; rw [if_pos (.inl (by decide))], .inr ⟨by omega, hj, rfl, .inl ⟨rfl, rfl⟩⟩⟩
  · have h0 := (farB_bd (txt ws bn) seen).1
    refine ⟨lv, true, ?_, .inr ⟨by omega, h2, h3, .inr ⟨rfl, by omega, by omega⟩⟩⟩
    unfold nst
    rw [if_neg (fun e => by dsimp only at e; omega), if_pos (by dsimp only; omega)]
theorem NearI.more {seen : ByteArray} {ws : List ByteArray} {j bn mn : Nat} {lv : Int} {sb : Bool} (h : NearI seen ws j bn mn lv sb) (hd : farB (txt ws bn) seen < farB (txt ws j) seen) : nst j (farB (txt ws j) seen) (bn, lv, sb) = (bn, lv, sb) ∧ NearI seen ws (j + 1) bn mn lv sb := by
  rcases h with ⟨h1, h2, h3, h4, h5⟩ | ⟨h1, h2, h3, h4⟩
  · subst h1; subst h2; omega
  · have h0 := (farB_bd (txt ws bn) seen).1
    refine ⟨?_, .inr ⟨by omega, h2, h3, by rcases h4 with h4 | h4; exact .inl h4; exact .inr ⟨h4.1, h4.2.1, by omega⟩⟩⟩
    unfold nst
    rw [if_neg (fun e => by dsimp only at e; omega), if_neg (by dsimp only; omega)]
theorem NearI.end_ {seen : ByteArray} {ws : List ByteArray} {bn mn : Nat} {lv : Int} {sb : Bool} (h : NearI seen ws ws.length bn mn lv sb) (hl : 0 < ws.length) : (sb = false ∧ mn = 1 ∧ lv = farB (txt ws bn) seen) ∨ (sb = true ∧ 2 ≤ mn) := by
  rcases h with h | ⟨_, _, h3, h | h⟩
  · omega
  · exact .inl ⟨h.1, h.2, h3⟩
  · exact .inr ⟨h.1, h.2.1⟩
set_option maxRecDepth 100000 in
set_option maxHeartbeats 8000000 in
theorem specNearest_any (n : Int) (ws : List ByteArray) (seen : ByteArray) (A : Option Addr) (c : Nat) (w : World) (hwl : ws.length ≤ 1048576) (hsz : ∀ s ∈ ws, s.size ≤ 1048576) (hss : seen.size ≤ 1048576) (hr : RdS w w.heap.size A ws) :
    Calls Try.prog 7 #[.int .i64 n, .slice A ws.length c, .string seen] w fun e w' => e = .returned (.tuple #[.int .i64 (nearR n ws seen).1, .int .i64 (nearR n ws seen).2.1, .int .i64 (nearR n ws seen).2.2]) ∧ ∃ m, w' = w.drewN m := by
  have HV := hide (l05Ok_any n ws A c w hwl hsz hr)
  have HRD := hide hr
  clear hr hsz
  cases h : addrs n ws
  · have HR := hide (nearR_1 (seen := seen) h)
    rw [h] at HV
    clear h
    go_enter Try.func7, Try.ntmps7
    go_wp2_with (go_at_call 32; with_reducible refine (HV.out).mono ?_; rintro e w1 ⟨rfl, m0, hm0⟩; have HM0 := hide hm0; clear hm0)
    go_ret3
    exact ⟨by rw [HR.out]; rfl, m0, HM0.out⟩
  rw [h] at HV
  have hn := (addrs_len h).1
  have HW := hide fun W => l05Word_any n seen W (by omega) hss
  cases h2 : wordB n seen
  · have HR := hide (nearR_2 h h2)
    rw [h2] at HW
    clear h h2
    go_enter Try.func7, Try.ntmps7
    go_wp2_with (first | (go_at_call 32; with_reducible refine (HV.out).mono ?_; rintro e w1 ⟨rfl, m0, hm0⟩; have HM0 := hide hm0; clear hm0) | (go_at_call 33; with_reducible refine (HW.out _).mono ?_; rintro e w2 ⟨rfl, rfl⟩))
    go_ret3
    exact ⟨by rw [HR.out]; rfl, m0, HM0.out⟩
  rw [h2] at HW
  by_cases h3 : ws.length = 0
  · have HR := hide (nearR_3 h h2 h3)
    have hB : ((ws.length : Int) == 0) = true := by rw [h3]; rfl
    have H3 := hide h3
    clear h h2 h3
    go_enter Try.func7, Try.ntmps7
    go_wp2_with (first | (go_at_call 32; with_reducible refine (HV.out).mono ?_; rintro e w1 ⟨rfl, m0, hm0⟩; have HM0 := hide hm0; clear hm0) | (go_at_call 33; with_reducible refine (HW.out _).mono ?_; rintro e w2 ⟨rfl, rfl⟩))
    go_ret3
    exact ⟨by rw [HR.out]; rfl, m0, HM0.out⟩
  have hB : ((ws.length : Int) == 0) = false := by rw [beq_eq_false_iff_ne]; omega
  obtain ⟨b, o, s0, rfl, _, hs0, hc0⟩ := HRD.out.at_ (j := 0) (by omega)
  rw [Nat.add_zero] at hc0
  have h0t := txt_get hs0
  have hjz : (0 : Int) < (ws.length : Int) := by omega
  have hjn : 0 < ws.length := by omega
  by_cases h4 : seen.size = (txt ws 0).size
  case neg =>
    have HR := hide (nearR_8 h h2 h3 h4)
    rw [h0t] at h4
    have hB4 : ((seen.size : Int) != (s0.size : Int)) = true := by simp; omega
    have H3 := hide h3
    have H4 := hide h4
    have HC0 := hide fun (m : Nat) => (show (w.drewN m).cell? ⟨b, o, none⟩ = some (.string s0) from hc0)
    clear h h2 h3 h4 hs0 h0t hc0
    go_enter Try.func7, Try.ntmps7
    go_wp2_with (first | (go_at_call 32; with_reducible refine (HV.out).mono ?_; rintro e w1 ⟨rfl, m0, hm0⟩; have HM0 := hide hm0; have k0 : w1.cell? ⟨b, o, none⟩ = some (.string s0) := (by rw [hm0]; exact HC0.out m0); clear hm0) | (go_at_call 33; with_reducible refine (HW.out _).mono ?_; rintro e w2 ⟨rfl, rfl⟩))
    go_ret3
    exact ⟨by rw [HR.out]; rfl, m0, HM0.out⟩
  have HSZ := hide (addrs_size h)
  have HR9 := hide (nearR_9 h h2 h3 h4)
  have HR0 := hide (nearR_0 h h2 h3 h4)
  have H40 := hide h4
  rw [h0t] at h4
  have hB4 : ((seen.size : Int) != (s0.size : Int)) = false := by simp; omega
  have H3 := hide h3
  have H4 := hide h4
  have HC0 := hide fun (m : Nat) => (show (w.drewN m).cell? ⟨b, o, none⟩ = some (.string s0) from hc0)
  clear h h2 h3 h4 hs0 h0t hc0
  have HFA := hide fun (i : Nat) (t : ByteArray) (hi : ws[i]? = some t) (W : World) => l05Far_any t seen W (by rw [(HSZ.out t (List.mem_of_getElem? hi)).1, H40.out]) (by have := (HSZ.out t (List.mem_of_getElem? hi)).2; omega)
  go_enter Try.func7, Try.ntmps7
  go_wp2_with (first | (go_at_call 32; with_reducible refine (HV.out).mono ?_; rintro e w1 ⟨rfl, m0, hm0⟩; have HM0 := hide hm0; have k0 : w1.cell? ⟨b, o, none⟩ = some (.string s0) := (by rw [hm0]; exact HC0.out m0); clear hm0) | (go_at_call 33; with_reducible refine (HW.out _).mono ?_; rintro e w2 ⟨rfl, rfl⟩))
  go_loopg [11, 9, 10] ws.length (fun g i bs mb wr => ∃ (j bn mn : Nat) (lv : Int) (sb : Bool), j ≤ ws.length ∧ Hid (g = ws.length - j) ∧ i = .int .i64 j ∧ bs = .int .i64 bn ∧ mb = .int .i64 mn ∧ Hid (NearI seen ws j bn mn lv sb) ∧ Hid (nearF seen ws = nearN seen ws j (ws.length - j) (bn, lv, sb)) ∧ ∃ m, Hid (wr = w.drewN m))
  case atStart => exact ⟨0, 0, 0, -1, false, by omega, by simp [Hid], rfl, rfl, rfl, hide (.inl ⟨rfl, rfl, rfl, rfl, rfl⟩), hide rfl, m0, HM0⟩
  case round =>
    obtain ⟨j, bn, mn, lv, sb, hj, hgj, rfl, rfl, rfl, HI, HT, m, HM⟩ := hrel
    have hbl := HI.out.lt hjn
    have hmn := HI.out.mn
    obtain ⟨b9, o9, tb, hA9, _, htb, hctb⟩ := HRD.out.at_ hbl
    obtain ⟨rfl, rfl⟩ : b = b9 ∧ o = o9 := by cases hA9; exact ⟨rfl, rfl⟩
    have hbi : (bn : Int) < (ws.length : Int) := by omega
    have HFB := hide (HFA.out bn tb htb)
    have htbx := txt_get htb
    by_cases hjt : j < ws.length
    case neg =>
      obtain rfl : j = ws.length := by omega
      have hd := HT.out
      rw [show ws.length - ws.length = 0 by omega, nearN] at hd
      have HD := hide hd
      have kb : wr.cell? ⟨b, o + bn, none⟩ = some (.string tb) := by rw [HM.out]; exact hctb
      rcases HI.out.end_ hjn with ⟨rfl, rfl, he⟩ | ⟨rfl, he⟩
      · rw [htbx] at he
        have HR := hide (show nearR n ws seen = ((bn : Int), farB tb seen, 0) by rw [HR0.out (by rw [HD.out]), HD.out, he])
        clear hd he htb hctb hA9 htbx
        go_wp2_with (go_at_call 34; with_reducible refine (HFB.out _).mono ?_; rintro e w2 ⟨rfl, q1, hq1⟩)
        go_ret3
        exact ⟨by rw [HR.out]; rfl, m + q1, by first | (rw [hq1, HM.out, World.drewN_drewN]) | (rw [HM.out, World.drewN_drewN])⟩
      · have HR := hide (HR9.out (by rw [HD.out]))
        have hB8 : decide (1 < (mn : Int)) = true := by simp; omega
        clear hd htb hctb hA9 htbx
        go_wp2_with fail
        go_ret3
        exact ⟨by rw [HR.out]; rfl, m, HM.out⟩
    obtain ⟨b', o', t, hA, _, ht, hct⟩ := HRD.out.at_ hjt
    obtain ⟨rfl, rfl⟩ : b = b' ∧ o = o' := by cases hA; exact ⟨rfl, rfl⟩
    have kt : wr.cell? ⟨b, o + j, none⟩ = some (.string t) := by rw [HM.out]; exact hct
    have hji : (j : Int) < (ws.length : Int) := by omega
    have HF := hide (HFA.out j t ht)
    have htx := txt_get ht
    have hd := HT.out
    rw [show ws.length - j = (ws.length - (j + 1)) + 1 by omega, nearN] at hd
    have hless := fun e => HI.out.less hjt e
    have hsame := fun e => HI.out.same hjt e
    have hmore := fun e => HI.out.more (j := j) e
    rw [htx, htbx] at hless hsame hmore
    rw [htx] at hd
    have HLE := hide hless
    have HSA := hide hsame
    have HMO := hide hmore
    have HD := hide hd
    have HKB := hide hctb
    clear hA ht hct HT hA9 htb hctb htx htbx hless hsame hmore hd
    generalize farB t seen = d at *
    generalize farB tb seen = e9 at *
    go_upto_region 15 with (go_at_call 34; with_reducible refine (HF.out _).mono ?_; rintro e w2 ⟨rfl, q1, hq1⟩)
    clear kt
    have HQ1 := hide (show wr.drewN q1 = w.drewN (m + q1) by rw [HM.out, World.drewN_drewN])
    try (have hq9 := hq1; clear hq1)
    obtain ⟨wa, hwa⟩ : ∃ z, z = wr.drewN q1 := ⟨_, rfl⟩
    try rw [hq9]
    rw [← hwa]
    have kb : wa.cell? ⟨b, o + bn, none⟩ = some (.string tb) := by rw [hwa, HQ1.out]; exact HKB.out
    have HWA := hide hwa
    clear hwa
    try clear hq9
    go_upto_region 16 with (go_at_call 34; with_reducible refine (HFB.out _).mono ?_; rintro e w3 ⟨rfl, q2, rfl⟩)
    clear kb
    obtain ⟨q3, HM3⟩ : ∃ q3, Hid (wa.drewN q2 = w.drewN q3) := ⟨m + q1 + q2, hide (by rw [HWA.out, HQ1.out, World.drewN_drewN])⟩
    have hmw : IntKind.i64.wrap ((mn : Int) + 1) = (mn : Int) + 1 := by rw [IntKind.wrap_i64] <;> omega
    rcases Int.lt_trichotomy d e9 with h7 | h7 | h7
    · obtain ⟨hs1, hs2⟩ := HLE.out h7
      have HT2 := hide (HD.out.trans (by rw [hs1]))
      have HI2 := hide hs2
      have h8 : d ≤ e9 := by omega
      clear hs1 hs2
      go_wp2_with fail
      go_roundg (ws.length - (j + 1))
      case measure => have := hgj.out; omega
      case rel => exact ⟨j + 1, j, 1, d, false, by omega, rfl, by go_num, rfl, rfl, HI2, HT2, q3, HM3⟩
    · obtain ⟨lv2, sb2, hs1, hs2⟩ := HSA.out h7
      have HT2 := hide (HD.out.trans (by rw [hs1]))
      have HI2 := hide hs2
      have h8 : d ≤ e9 := by omega
      have h9 : ¬ d < e9 := by omega
      have H7 := hide h7
      clear hs1 hs2 h7
      go_wp2_with fail
      go_roundg (ws.length - (j + 1))
      case measure => have := hgj.out; omega
      case rel => exact ⟨j + 1, bn, mn + 1, lv2, sb2, by omega, rfl, by go_num, rfl, by go_num, HI2, HT2, q3, HM3⟩
    · obtain ⟨hs1, hs2⟩ := HMO.out h7
      have HT2 := hide (HD.out.trans (by rw [hs1]))
      have HI2 := hide hs2
      have h8 : ¬ d ≤ e9 := by omega
      have h9 : ¬ d < e9 := by omega
      clear hs1 hs2
      go_wp2_with fail
      go_roundg (ws.length - (j + 1))
      case measure => have := hgj.out; omega
      case rel => exact ⟨j + 1, bn, mn, lv, sb, by omega, rfl, by go_num, rfl, rfl, HI2, HT2, q3, HM3⟩
end Go.Proofs.Ytofjnmeblmbnmaa
