/-
  The program's least distance; LeastDistance and CorrectsAll in both packages.
-/
import Derived.Test.YtofjnmeblmbnmaaNeaD
namespace Go.Proofs.Ytofjnmeblmbnmaa
open Go.RowKit
set_option maxRecDepth 100000 in
set_option maxHeartbeats 8000000 in
theorem leastDistance_any (ws : List ByteArray) (z : Nat) (r : Int) (A : Option Addr) (c : Nat) (w : World) (hwl : ws.length ≤ c) (hc : c ≤ 9223372036854775807) (hz : z ≤ 1048576) (hsz : ∀ s ∈ ws, s.size = z) (hrr : r = -1 ∨ ∃ rn : Nat, r = (rn : Int) ∧ rn < z) (hr : RdS w w.heap.size A ws) :
    Calls Try.prog 36 #[.slice A ws.length c, .int .i64 r] w fun e w' => e = .returned (.int .i64 (leastA (farW r) ws)) ∧ ∃ m, w' = w.drewN m := by
  have HR := hide hr
  have HSZ := hide hsz
  have HRR := hide hrr
  clear hr hsz hrr
  go_enter Try.func36, Try.ntmps36
  go_wp2_with fail
  go_loopg [13, 5] ws.length (fun g i s wr => ∃ (j : Nat) (x : Int), j ≤ ws.length ∧ Hid (g = ws.length - j) ∧ i = .int .i64 j ∧ s = .int .i64 x ∧ Hid (leastA (farW r) ws = lpO (farW r) ws j (ws.length - j) x) ∧ ∃ m, Hid (wr = w.drewN m))
  case atStart => exact ⟨0, -1, by omega, by simp [Hid], rfl, rfl, hide rfl, 0, hide rfl⟩
  case round =>
    obtain ⟨j, x, hj, hgj, rfl, rfl, HT, m, HM⟩ := hrel
    by_cases hjt : j < ws.length
    case neg =>
      have hd := HT.out
      rw [show ws.length - j = 0 by omega, lpO] at hd
      have HD := hide hd
      clear hd
      go_wp2_with fail
      go_ret
      exact ⟨ret_i HD.out.symm, m, HM.out⟩
    obtain ⟨b, o, s, rfl, _, hs, hcs⟩ := HR.out.at_ hjt
    have hd := HT.out
    rw [show ws.length - j = (ws.length - (j + 1)) + 1 by omega, lpO, txt_get hs] at hd
    have HD := hide hd
    have hcs' : wr.cell? ⟨b, o + j, none⟩ = some (.string s) := by rw [HM.out]; exact hcs
    have HS := hide (HSZ.out s (List.mem_of_getElem? hs))
    have hjc : j ≤ c := by omega
    clear hd hs hcs HT
    go_wp2_with fail
    go_loopg [22, 5] j (fun g i s' wr => ∃ (k : Nat) (y : Int), k ≤ j ∧ Hid (g = j - k) ∧ i = .int .i64 k ∧ s' = .int .i64 y ∧ Hid (lpI (farW r) s (ws.take j) x = lpI (farW r) s ((ws.take j).drop k) y) ∧ ∃ q, Hid (wr = w.drewN q))
    case atStart => exact ⟨0, x, by omega, by simp [Hid], rfl, rfl, hide rfl, m, HM⟩
    case round =>
      obtain ⟨k, y, hk, hgk, rfl, rfl, HI, q, HM2⟩ := hrel
      clear hcs'
      by_cases hkt : k < j
      case neg =>
        have hi := HI.out
        rw [lpI_end (by rw [List.length_take]; omega)] at hi
        have HT2 := hide (show leastA (farW r) ws = lpO (farW r) ws (j + 1) (ws.length - (j + 1)) y by rw [HD.out, hi])
        clear hi
        go_wp2_with fail
        go_roundg (ws.length - (j + 1))
        case measure => have := hgj.out; omega
        case rel => exact ⟨j + 1, y, by omega, rfl, by go_num, rfl, HT2, q, HM2⟩
      obtain ⟨b', o', t, hA, _, ht, hct⟩ := HR.out.at_ (j := k) (by omega)
      obtain ⟨rfl, rfl⟩ : b = b' ∧ o = o' := by cases hA; exact ⟨rfl, rfl⟩
      have kt : wr.cell? ⟨b, o + k, none⟩ = some (.string t) := by rw [HM2.out]; exact hct
      have HTZ := hide (HSZ.out t (List.mem_of_getElem? ht))
      have hi := HI.out
      rw [lpI_drop (show (ws.take j)[k]? = some t by rw [List.getElem?_take, if_pos hkt]; exact ht)] at hi
      have HF := hide (distance_any s t wr (by rw [HS.out, HTZ.out]) (by rw [HS.out]; omega))
      have ka : ∀ (i : Nat) (h : i < s.size), (((s[i]'h).toNat : Nat) : Int) = chr s i := fun i h => chr_of h
      have kb : ∀ (i : Nat) (h : i < t.size), (((t[i]'h).toNat : Nat) : Int) = chr t i := fun i h => chr_of h
      have hfb := farB_bd s t
      have hsz1 := HS.out
      have hwr : IntKind.i64.wrap (farB s t - 1) = farB s t - 1 := by rw [IntKind.wrap_i64] <;> omega
      clear hA ht hct HI hsz1 hfb
      rcases HRR.out with rfl | ⟨rn, rfl, hrn⟩
      · have HW := hide (show farW (-1) s t = farB s t from farW_all s t)
        rw [HW.out] at hi
        generalize farB s t = d at *
        go_upto_region 9 with (go_at_call 31; with_reducible refine (HF.out).mono ?_; rintro e w2 ⟨rfl, q1, rfl⟩)
        clear kt
        go_quiet (fail)
        obtain ⟨q2, HM3⟩ : ∃ q2, Hid (wr.drewN (q1 + nq) = w.drewN q2) := ⟨q + (q1 + nq), hide (by rw [HM2.out, World.drewN_drewN])⟩
        by_cases h1 : y < 0
        · rw [if_pos (.inl h1)] at hi
          have HI2 := hide hi
          clear hi
          go_wp2_with fail
          go_roundg (j - (k + 1))
          case measure => have := hgk.out; omega
          case rel => exact ⟨k + 1, d, by omega, rfl, by go_num, rfl, HI2, q2, HM3⟩
        by_cases h2 : d < y
        · rw [if_pos (.inr h2)] at hi
          have HI2 := hide hi
          clear hi
          go_wp2_with fail
          go_roundg (j - (k + 1))
          case measure => have := hgk.out; omega
          case rel => exact ⟨k + 1, d, by omega, rfl, by go_num, rfl, HI2, q2, HM3⟩
        · rw [if_neg (fun e => by rcases e with e | e; exact h1 e; exact h2 e)] at hi
          have HI2 := hide hi
          clear hi
          go_wp2_with fail
          go_roundg (j - (k + 1))
          case measure => have := hgk.out; omega
          case rel => exact ⟨k + 1, y, by omega, rfl, by go_num, rfl, HI2, q2, HM3⟩
      have hrs : (rn : Int) < (s.size : Int) := by have := HS.out; omega
      have hrt : (rn : Int) < (t.size : Int) := by have := HTZ.out; omega
      have hrs2 : rn < s.size := by omega
      have hrt2 : rn < t.size := by omega
      by_cases hch : chr s rn = chr t rn
      · have HW := hide (show farW (rn : Int) s t = farB s t by unfold farW; rw [if_neg (fun e => e.2 (by rw [Int.toNat_natCast]; exact hch))]; omega)
        have hB : (chr s rn != chr t rn) = false := by simp [hch]
        rw [HW.out] at hi
        have HCH := hide hch
        clear hch
        generalize farB s t = d at *
        go_upto_region 9 with (go_at_call 31; with_reducible refine (HF.out).mono ?_; rintro e w2 ⟨rfl, q1, rfl⟩)
        clear kt
        go_quiet (fail)
        obtain ⟨q2, HM3⟩ : ∃ q2, Hid (wr.drewN (q1 + nq) = w.drewN q2) := ⟨q + (q1 + nq), hide (by rw [HM2.out, World.drewN_drewN])⟩
        by_cases h1 : y < 0
        · rw [if_pos (.inl h1)] at hi
          have HI2 := hide hi
          clear hi
          go_wp2_with fail
          go_roundg (j - (k + 1))
          case measure => have := hgk.out; omega
          case rel => exact ⟨k + 1, d, by omega, rfl, by go_num, rfl, HI2, q2, HM3⟩
        by_cases h2 : d < y
        · rw [if_pos (.inr h2)] at hi
          have HI2 := hide hi
          clear hi
          go_wp2_with fail
          go_roundg (j - (k + 1))
          case measure => have := hgk.out; omega
          case rel => exact ⟨k + 1, d, by omega, rfl, by go_num, rfl, HI2, q2, HM3⟩
        · rw [if_neg (fun e => by rcases e with e | e; exact h1 e; exact h2 e)] at hi
          have HI2 := hide hi
          clear hi
          go_wp2_with fail
          go_roundg (j - (k + 1))
          case measure => have := hgk.out; omega
          case rel => exact ⟨k + 1, y, by omega, rfl, by go_num, rfl, HI2, q2, HM3⟩
      · have HW := hide (show farW (rn : Int) s t = farB s t - 1 by unfold farW; rw [if_pos ⟨by omega, by rw [Int.toNat_natCast]; exact hch⟩])
        have hB : (chr s rn != chr t rn) = true := by simp [hch]
        rw [HW.out] at hi
        have HCH := hide hch
        clear hch
        generalize farB s t = d at *
        go_upto_region 9 with (go_at_call 31; with_reducible refine (HF.out).mono ?_; rintro e w2 ⟨rfl, q1, rfl⟩)
        clear kt
        go_quiet (fail)
        obtain ⟨q2, HM3⟩ : ∃ q2, Hid (wr.drewN (q1 + nq) = w.drewN q2) := ⟨q + (q1 + nq), hide (by rw [HM2.out, World.drewN_drewN])⟩
        obtain ⟨d1, hd1⟩ : ∃ d1, d1 = d - 1 := ⟨_, rfl⟩
        rw [← hd1] at hi
        have hwr2 : IntKind.i64.wrap (d - 1) = d1 := by rw [hwr, hd1]
        have HD1 := hide hd1
        clear HW hwr hd1
        by_cases h1 : y < 0
        · rw [if_pos (.inl h1)] at hi
          have HI2 := hide hi
          clear hi
          go_wp2_with fail
          go_roundg (j - (k + 1))
          case measure => have := hgk.out; omega
          case rel => exact ⟨k + 1, d1, by omega, rfl, by go_num, rfl, HI2, q2, HM3⟩
        by_cases h2 : d1 < y
        · rw [if_pos (.inr h2)] at hi
          have HI2 := hide hi
          clear hi
          go_wp2_with fail
          go_roundg (j - (k + 1))
          case measure => have := hgk.out; omega
          case rel => exact ⟨k + 1, d1, by omega, rfl, by go_num, rfl, HI2, q2, HM3⟩
        · rw [if_neg (fun e => by rcases e with e | e; exact h1 e; exact h2 e)] at hi
          have HI2 := hide hi
          clear hi
          go_wp2_with fail
          go_roundg (j - (k + 1))
          case measure => have := hgk.out; omega
          case rel => exact ⟨k + 1, y, by omega, rfl, by go_num, rfl, HI2, q2, HM3⟩
end Go.Proofs.Ytofjnmeblmbnmaa
