/-
  The worst ring, in both packages.
-/
import Derived.Test.YtofjnmeblmbnmaaNeaJ
import Derived.Test.YtofjnmeblmbnmaaNeaR
import Derived.Test.YtofjnmeblmbnmaaRunD
namespace Go.Proofs.Ytofjnmeblmbnmaa
open Go.RowKit
theorem RdS.of_own {w : World} {base : Nat} {e : TypeId} {A : Option Addr} {n c : Nat} {xs : List ByteArray} (h : w.ownsRow base e 1 (.slice A n c) n (xs.map Value.string)) : RdS w w.heap.size A xs := Rd.of_own h
theorem str_one (s : ByteArray) : ∀ u ∈ [Value.string s], u.oneCell' = true := by intro u hu; simp at hu; subst hu; rfl
theorem string_inf : (Try.prog.info? 9).map (fun i => (i.zero, i.size, i.bytes)) = some (some (.string ByteArray.empty), 1, 16) := by kernel_rfl
theorem worstR_no {n : Int} {ws : List ByteArray} {q : Int} (h : pcode n ws = q) (h0 : q ≠ 0) : worstR n ws = (0, q) := by unfold worstR; rw [h, if_neg h0]
theorem worstR_ok {n : Int} {ws : List ByteArray} (h : pcode n ws = 0) : worstR n ws = (((worstN (wrL ws) 0 (txt ws 0).size 0 : Nat) : Int), 0) := by unfold worstR; rw [if_pos h]
theorem pcode_1 {n : Int} {ws : List ByteArray} (h : addrs n ws = false) : pcode n ws = 1 := by unfold pcode; rw [if_pos h]
theorem pcode_3 {n : Int} {ws : List ByteArray} (h : addrs n ws = true) (hl : ws.length < 2) : pcode n ws = 3 := by unfold pcode; rw [if_neg (by rw [h]; decide), if_pos hl]
theorem pcode_0 {n : Int} {ws : List ByteArray} (h : addrs n ws = true) (hl : ¬ ws.length < 2) : pcode n ws = 0 := by unfold pcode; rw [if_neg (by rw [h]; decide), if_neg hl]
set_option maxRecDepth 100000 in
set_option maxHeartbeats 8000000 in
theorem worst_any (n : Int) (ws : List ByteArray) (A : Option Addr) (c : Nat) (w : World) (hcap : ws.length ≤ c) (hc2 : c ≤ 9223372036854775807) (hsz : ∀ s ∈ ws, s.size ≤ 1048576) (hr : RdS w w.heap.size A ws) :
    Calls Try.prog 18 #[.int .i64 n, .slice A ws.length c] w fun e w' => e = .returned (.tuple #[.int .i64 (worstR n ws).1, .int .i64 (worstR n ws).2]) ∧ ∃ m, w' = w.drewN m := by
  have HP := hide (pairsCode_any n ws A c w hcap hc2 hsz hr)
  by_cases h : pcode n ws = 0
  case neg =>
    have HR := hide (worstR_no rfl h)
    have hB : (pcode n ws != 0) = true := by simpa using h
    have H := hide h
    clear h hsz hr
    generalize pcode n ws = q at *
    go_enter Try.func18, Try.ntmps18
    go_wp2_with (go_at_call 35; refine (HP.out).mono ?_; rintro e w' ⟨rfl, rfl⟩)
    go_ret2
    exact ⟨by rw [HR.out]; rfl, 0, rfl⟩
  obtain ⟨h1, h2⟩ := pcode_ok h
  have HR := hide (worstR_ok h)
  rw [h] at HP
  obtain ⟨b, o, s0, rfl, _, hs0, hc0⟩ := RdS.at_ hr (j := 0) (by omega)
  have hz8 := txt0_size h1
  have HZ := hide (addrs_size h1)
  have hz0 := txt_get hs0
  rw [hz0] at HR hz8 HZ
  have HLD := hide fun (q rn : Nat) (hrn : rn < s0.size) => leastDistance_any ws s0.size (rn : Int) (some ⟨b, o, none⟩) c (w.drewN q) hcap hc2 (by omega) (fun s hs => (HZ.out s hs).1) (.inr ⟨rn, rfl, hrn⟩) (RdS.below hr (bdn (Below.refl _ _) q))
  rw [Nat.add_zero] at hc0
  have HC0 := hide hc0
  have hjz : (0 : Int) < (ws.length : Int) := by omega
  have hjn : 0 < ws.length := by omega
  clear h h1 h2 hsz hr hs0 hz0
  go_enter Try.func18, Try.ntmps18
  go_wp2_with (go_at_call 35; refine (HP.out).mono ?_; rintro e w' ⟨rfl, rfl⟩)
  clear hc0
  go_loopg [19, 7] s0.size (fun g i bv wr => ∃ (r bn : Nat), r ≤ s0.size ∧ Hid (g = s0.size - r) ∧ i = .int .i64 r ∧ bv = .int .i64 bn ∧ Hid (r = 0 ∨ bn < s0.size) ∧ (r = 0 → bn = 0) ∧ Hid (worstN (wrL ws) 0 s0.size 0 = worstN (wrL ws) r (s0.size - r) bn) ∧ ∃ m, Hid (wr = w.drewN m))
  case atStart => exact ⟨0, 0, by omega, by simp [Hid], rfl, rfl, hide (.inl rfl), fun _ => rfl, hide rfl, 0, hide rfl⟩
  case round =>
    obtain ⟨r, bn, hrz, hg, rfl, rfl, HBN, hb0, HT, m, HM⟩ := hrel
    by_cases hlt : r < s0.size
    case neg =>
      have hd := HT.out
      rw [show s0.size - r = 0 by omega, worstN] at hd
      have HD := hide hd
      clear hd hb0
      go_wp2_with fail
      go_ret2
      exact ⟨by rw [HR.out, HD.out]; rfl, m, HM.out⟩
    have hbn : bn < s0.size := by
      rcases HBN.out with e | e
      · have := hb0 e; omega
      · exact e
    have hd := HT.out
    rw [show s0.size - r = (s0.size - (r + 1)) + 1 by omega] at hd
    have HL1 := hide (HLD.out m r hlt)
    have HL2 := hide fun q => HLD.out q bn hbn
    have HWR := hide HM.out.symm
    rw [HM.out] at *
    clear hb0 HT
    by_cases hle : wrL ws r < wrL ws bn
    · rw [worstN_yes hle] at hd
      have HD := hide hd
      have hB : decide (leastA (farW (r : Int)) ws < leastA (farW (bn : Int)) ws) = true := decide_eq_true hle
      have HLE := hide hle
      clear hd hle
      generalize leastA (farW (r : Int)) ws = x at *
      generalize leastA (farW (bn : Int)) ws = y at *
      go_wp2_with (first | (go_at_call 36; with_reducible refine (HL1.out).mono ?_; rintro e w2 ⟨rfl, q1, rfl⟩; rw [World.drewN_drewN]) | (go_at_call 36; with_reducible refine (HL2.out _).mono ?_; rintro e w3 ⟨rfl, q2, rfl⟩; rw [World.drewN_drewN]))
      go_roundg (s0.size - (r + 1))
      case measure => have := hg.out; omega
      case rel => exact ⟨r + 1, r, by omega, rfl, by go_num, rfl, hide (.inr hlt), fun h => by omega, HD, _, rfl⟩
    · rw [worstN_no hle] at hd
      have HD := hide hd
      have hB : decide (leastA (farW (r : Int)) ws < leastA (farW (bn : Int)) ws) = false := decide_eq_false hle
      have HLE := hide hle
      clear hd hle
      generalize leastA (farW (r : Int)) ws = x at *
      generalize leastA (farW (bn : Int)) ws = y at *
      go_wp2_with (first | (go_at_call 36; with_reducible refine (HL1.out).mono ?_; rintro e w2 ⟨rfl, q1, rfl⟩; rw [World.drewN_drewN]) | (go_at_call 36; with_reducible refine (HL2.out _).mono ?_; rintro e w3 ⟨rfl, q2, rfl⟩; rw [World.drewN_drewN]))
      go_roundg (s0.size - (r + 1))
      case measure => have := hg.out; omega
      case rel => exact ⟨r + 1, bn, by omega, rfl, by go_num, rfl, hide (.inr hbn), fun h => by omega, HD, _, rfl⟩
end Go.Proofs.Ytofjnmeblmbnmaa
