/-
  Words for which another one can be misread, in the reference.
-/
import Derived.Test.YtofjnmeblmbnmaaNeaI
namespace Go.Proofs.Ytofjnmeblmbnmaa
open Go.RowKit
theorem misN_len (ws : List ByteArray) (tk : ByteArray) (k rings : Int) : ∀ m i, (misN ws tk k rings i m).length ≤ m := by
  intro m
  induction m with
  | zero => intro i; exact Nat.le_refl _
  | succ m ih =>
    intro i
    have := ih (i + 1)
    rw [misN, List.length_append]
    split
    · rw [List.length_singleton]; omega
    · rw [List.length_nil]; omega
theorem misL_len (n : Int) (ws : List ByteArray) (k rings : Int) : (misL n ws k rings).length ≤ ws.length := by
  unfold misL
  split
  · exact misN_len _ _ _ _ _ _
  · exact Nat.zero_le _
set_option maxRecDepth 100000 in
set_option maxHeartbeats 8000000 in
theorem specMisread_any (n : Int) (ws : List ByteArray) (k rings : Int) (A : Option Addr) (c : Nat) (w : World) (hwl : ws.length ≤ 1048576) (hsz : ∀ s ∈ ws, s.size ≤ 1048576) (hr : RdS w w.heap.size A ws) :
    Calls Try.prog 17 #[.int .i64 n, .slice A ws.length c, .int .i64 k, .int .i64 rings] w fun e w' => ∃ (A' : Option Addr) (c' : Nat), e = .returned (.tuple #[.slice A' (misL n ws k rings).length c', .int .i64 (misCode n ws k rings)]) ∧ RdI w' w'.heap.size A' (misL n ws k rings) ∧ Below w.heap.size w w' := by
  obtain ⟨i0, hi0, hz0, hs0, hb0⟩ := info_parts int64_info
  have HV := hide (l05Ok_any n ws A c w hwl hsz hr)
  have HRD := hide hr
  clear hr hsz
  cases h : addrs n ws
  · have HE := hide (show misCode n ws k rings = 1 by unfold misCode; rw [if_pos h])
    have HL := hide (show misL n ws k rings = [] by unfold misL; rw [if_neg (by rw [HE.out]; decide)])
    rw [h] at HV
    clear h
    go_enter Try.func17, Try.ntmps17
    go_wp2_with (go_at_call 32; with_reducible refine (HV.out).mono ?_; rintro e w1 ⟨rfl, m0, rfl⟩)
    refine bodyPost_ret (v := .tuple #[.slice none 0 0, .int .i64 1]) (by simp [results, Try.results17, go_sem]) rfl ?_
    rw [HE.out, HL.out]
    exact ⟨none, 0, rfl, Rd.nil _ _ _, bdn (Below.refl _ _) _⟩
  rw [h] at HV
  have hwr : IntKind.i64.wrap ((ws.length : Int) - 1) = (ws.length : Int) - 1 := by rw [IntKind.wrap_i64] <;> omega
  by_cases hk : (0 ≤ k ∧ k ≤ (ws.length : Int) - 1) ∧ 0 ≤ rings ∧ rings ≤ 8
  case neg =>
    have HE := hide (show misCode n ws k rings = 2 by unfold misCode; rw [if_neg (by rw [h]; decide), if_neg hk])
    have HL := hide (show misL n ws k rings = [] by unfold misL; rw [if_neg (by rw [HE.out]; decide)])
    clear h
    by_cases hk1 : 0 ≤ k ∧ k ≤ (ws.length : Int) - 1
    · have hk2 : rings < 0 ∨ 8 < rings := by omega
      have HK := hide hk
      obtain ⟨hk3, hk4⟩ := hk1
      clear hk
      go_enter Try.func17, Try.ntmps17
      go_wp2_with (first | (go_at_call 32; with_reducible refine (HV.out).mono ?_; rintro e w1 ⟨rfl, m0, rfl⟩) | (go_at_call 41; first | (refine (l00In_t _ _ _ _ (by omega)).mono ?_; rintro e w' ⟨rfl, rfl⟩) | (refine (l00In_f _ _ _ _ (by omega)).mono ?_; rintro e w' ⟨rfl, rfl⟩)))
      refine bodyPost_ret (v := .tuple #[.slice none 0 0, .int .i64 2]) (by simp [results, Try.results17, go_sem]) rfl ?_
      rw [HE.out, HL.out]
      exact ⟨none, 0, rfl, Rd.nil _ _ _, bdn (Below.refl _ _) _⟩
    · have HK := hide hk
      clear hk
      go_enter Try.func17, Try.ntmps17
      go_wp2_with (first | (go_at_call 32; with_reducible refine (HV.out).mono ?_; rintro e w1 ⟨rfl, m0, rfl⟩) | (go_at_call 41; first | (refine (l00In_t _ _ _ _ (by omega)).mono ?_; rintro e w' ⟨rfl, rfl⟩) | (refine (l00In_f _ _ _ _ (by omega)).mono ?_; rintro e w' ⟨rfl, rfl⟩)))
      refine bodyPost_ret (v := .tuple #[.slice none 0 0, .int .i64 2]) (by simp [results, Try.results17, go_sem]) rfl ?_
      rw [HE.out, HL.out]
      exact ⟨none, 0, rfl, Rd.nil _ _ _, bdn (Below.refl _ _) _⟩
  have HE := hide (show misCode n ws k rings = 0 by unfold misCode; rw [if_neg (by rw [h]; decide), if_pos hk])
  have HL := hide (show misL n ws k rings = misN ws (txt ws k.toNat) k rings 0 ws.length by unfold misL; rw [if_pos HE.out])
  obtain ⟨⟨hk0, hk1⟩, hr0, hr1⟩ := hk
  obtain ⟨kn, rfl⟩ := Int.eq_ofNat_of_zero_le hk0
  rw [Int.toNat_natCast] at HL
  have hkn : kn < ws.length := by omega
  have hki : (kn : Int) < (ws.length : Int) := by omega
  obtain ⟨b, o, tk, rfl, _, htk, hck⟩ := HRD.out.at_ hkn
  rw [txt_get htk] at HL
  have HSZ := hide (addrs_size h)
  have HTK := hide (HSZ.out tk (List.mem_of_getElem? htk))
  have HCK := hide hck
  have hbw : b < w.heap.size := by assumption
  clear h htk hck
  go_enter Try.func17, Try.ntmps17
  have HB1 := hide fun (q : Nat) => (show Below w.heap.size w ((w.drewN q).alloc (.cells #[] 2)) from (bdn (Below.refl _ _) q).alloc (Nat.le_refl _) _)
  go_wp2_with (first | (go_at_call 32; with_reducible refine (HV.out).mono ?_; rintro e w1 ⟨rfl, m0, rfl⟩) | (go_at_call 41; first | (refine (l00In_t _ _ _ _ (by omega)).mono ?_; rintro e w' ⟨rfl, rfl⟩) | (refine (l00In_f _ _ _ _ (by omega)).mono ?_; rintro e w' ⟨rfl, rfl⟩)))
  go_loopg [11, 10] ws.length (fun g i sv wr => ∃ (j : Nat) (acc : List Int), j ≤ ws.length ∧ Hid (g = ws.length - j) ∧ i = .int .i64 j ∧ acc.length ≤ j ∧ Hid (wr.ownsRow w.heap.size 2 1 sv acc.length (acc.map (Value.int .i64))) ∧ Hid (misN ws tk kn rings 0 ws.length = acc ++ misN ws tk kn rings j (ws.length - j)) ∧ Hid (Below w.heap.size w wr))
  case atStart => exact ⟨0, [], by omega, by simp [Hid], rfl, by simp, hide (own_new0 (w.drewN m0) w.heap.size 2 1 (Nat.le_refl _)), hide rfl, hide (HB1.out m0)⟩
  case round =>
    obtain ⟨j, acc, hj, hgj, rfl, hal, HO, HT, HB⟩ := hrel
    have zr := HB.out.size
    by_cases hjt : j < ws.length
    case neg =>
      have hd := HT.out
      rw [show ws.length - j = 0 by omega, misN, List.append_nil] at hd
      have HD := hide hd
      obtain ⟨A5, c5, rfl, _⟩ := own_shape HO.out
      clear hd
      go_wp2_with fail
      refine bodyPost_ret (v := .tuple #[.slice A5 acc.length c5, .int .i64 0]) (by simp [results, Try.results17, go_sem]) rfl ?_
      rw [HE.out, HL.out, HD.out]
      exact ⟨A5, c5, rfl, Rd.of_own HO.out, HB.out⟩
    obtain ⟨b', o', t, hA, _, ht, hct⟩ := HRD.out.at_ hjt
    obtain ⟨rfl, rfl⟩ : b = b' ∧ o = o' := by cases hA; exact ⟨rfl, rfl⟩
    have kt : wr.cell? ⟨b, o + j, none⟩ = some (.string t) := (HB.out.cell (p := ⟨b, o + j, none⟩) hbw).trans hct
    have kk : wr.cell? ⟨b, o + kn, none⟩ = some (.string tk) := (HB.out.cell (p := ⟨b, o + kn, none⟩) hbw).trans HCK.out
    have htz := HSZ.out t (List.mem_of_getElem? ht)
    have HF := hide fun W => l05Far_any t tk W (by rw [htz.1, HTK.out.1]) (by omega)
    have hji : (j : Int) < (ws.length : Int) := by omega
    have hd := HT.out
    rw [show ws.length - j = (ws.length - (j + 1)) + 1 by omega] at hd
    have htx := txt_get ht
    clear hA ht hct htz HT
    by_cases hjk : j = kn
    · rw [misN_no (fun e => e.1 (by rw [hjk]))] at hd
      have HD := hide hd
      have hB : ((j : Int) != (kn : Int)) = false := by simp; omega
      have HJK := hide hjk
      clear hd hjk htx
      go_wp2_with fail
      go_quiet (fail)
      go_wp2_with fail
      go_roundg (ws.length - (j + 1))
      case measure => have := hgj.out; omega
      case rel => exact ⟨j + 1, acc, by omega, rfl, by go_num, by omega, hide (by exact HO.out), HD, hide (bdn HB.out _)⟩
    have hB : ((j : Int) != (kn : Int)) = true := by simp; omega
    by_cases hle : farB t tk ≤ rings
    case neg =>
      rw [misN_no (fun e => hle (by have := e.2; rwa [htx] at this))] at hd
      have HD := hide hd
      have HJK := hide hjk
      clear hd hjk htx
      generalize farB t tk = d at *
      have hle2 : decide (d ≤ rings) = false := decide_eq_false hle
      go_wp2_with fail
      go_quiet ((go_at_call 34; with_reducible exact qdn (HF.out _)))
      go_wp2_with fail
      go_roundg (ws.length - (j + 1))
      case measure => have := hgj.out; omega
      case rel => exact ⟨j + 1, acc, by omega, rfl, by go_num, by omega, hide (by exact HO.out), HD, hide (bdn HB.out _)⟩
    · rw [misN_yes ⟨by omega, by rw [htx]; exact hle⟩] at hd
      have HD := hide (show misN ws tk kn rings 0 ws.length = (acc ++ [(j : Int)]) ++ misN ws tk kn rings (j + 1) (ws.length - (j + 1)) by rw [hd]; simp)
      have HJK := hide hjk
      clear hd hjk htx
      generalize farB t tk = d at *
      have hle2 : decide (d ≤ rings) = true := decide_eq_true hle
      go_wp2_with fail
      go_quiet ((go_at_call 34; with_reducible exact qdn (HF.out _)))
      have HOQ : Hid ((wr.drewN nq).ownsRow w.heap.size 2 1 u10 acc.length (acc.map (Value.int .i64))) := HO.out
      have HBQ := hide (bdn HB.out nq)
      clear kt kk HO HF
      generalize wr.drewN nq = wq at *
      have hoq := HOQ.out
      have zq := HBQ.out.size
      go_upto_region 8 with (at_builtin; refine Hid.out ?_)
      refine hide ?_
      refine wp_app _ rfl _ _ 36 rfl w.heap.size 2 i0 (.int .i64 0) 1 8 Try.underlying36 hi0 hz0 hs0 hb0 rfl (by decide) u10 acc.length _ rfl (hoq.alloc _) _ _ 1 1 [.int .i64 (j : Int)] rfl rfl (rd_new _ _ _ _ ?c1) (int_one _) ?c2 (by decide) ?c3 ?_
      case c1 => simp
      case c2 => omega
      case c3 => simp; omega
      intro v7 w6 hown7 hgrow7 hat7
      have HB6 := hide (app_below (HBQ.out.alloc zq _) (hoq.alloc _) hgrow7 (Nat.le_refl _) (by simp; omega))
      have HO6 := hide hown7
      clear hown7 hgrow7 hat7 hoq
      go_wp2_with fail
      go_roundg (ws.length - (j + 1))
      case measure => have := hgj.out; omega
      case rel => exact ⟨j + 1, acc ++ [(j : Int)], by omega, rfl, by go_num, by simp; omega, hide (by rw [List.length_append, List.map_append]; exact HO6.out), HD, HB6⟩
end Go.Proofs.Ytofjnmeblmbnmaa
