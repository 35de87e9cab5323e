/-
  Decimal forms: the program's, by the kit's contract of strconv.FormatInt, and the reference's.
-/
import Derived.Test.YtofjnmeblmbnmaaDoorDecL
import Derived.Test.YtofjnmeblmbnmaaDoorDecP
import Derived.Test.YtofjnmeblmbnmaaDoorByteW
import Derived.Test.YtofjnmeblmbnmaaDoorLawH
import Derived.Lib.ItoaLen
import Derived.Lib.AppendIntMem
namespace Go.Proofs.YtofjnmeblmbnmaaDoor
open Go.RowKit
/-- The table of powers of ten lies as its initialiser lays it. -/
def TabW (w : World) : Prop := Lib.TabIs Tryd.prog w "internal/strconv.uint64pow10" .u64 Lib.pow10Tab
theorem TabW.below {w w' : World} (h : TabW w) (b : Below w.heap.size w w') : TabW w' := Lib.tabBelow_of_tabIs h w' b
theorem itoa_size {n : Int} (h0 : -9223372036854775808 ≤ n) (h1 : n ≤ 9223372036854775807) : (⟨(Lib.itoa n).toArray⟩ : ByteArray).size ≤ 21 := by
  have h := Lib.itoa_length_le n h0 h1
  have e : (⟨(Lib.itoa n).toArray⟩ : ByteArray).size = (Lib.itoa n).length := by simp [ByteArray.size]
  omega
/-- The decimal form as a text. -/
def decB (n : Int) : ByteArray := ⟨(Lib.itoa n).toArray⟩
set_option maxRecDepth 100000 in
theorem decimal_any (n : Int) (w : World) (h0 : -9223372036854775808 ≤ n) (h1 : n ≤ 9223372036854775807) (ht : TabW w) :
    Calls Tryd.prog 69 #[.int .i64 n] w fun e w' => e = .returned (.string (decB n)) ∧ Below w.heap.size w w' := by
  have HC : Hid (Calls Tryd.prog 106 #[.int .i64 n, .int .i64 10] w fun e w' => e = .returned (.string (decB n)) ∧ Below w.heap.size w w') := hide ((Go.Proofs.Any.strconv_FormatInt_10 YtofjnmeblmbnmaaDoor.fmtLay n h0 h1 w ht).mono fun e w' h => by
    obtain ⟨he, k, os, hw⟩ := h
    exact ⟨he, by rw [hw]; exact Lib.below_grow _ _ (Nat.le_refl _) _ _⟩)
  clear ht
  go_enter Tryd.func69, Tryd.ntmps69
  go_wp2_with (go_at_call 106; (with_reducible refine (HC.out).mono ?_); rintro e w1 ⟨rfl, b1⟩)
  go_ret
  exact ⟨rfl, b1⟩
theorem DecInv.len {n k : Int} {out : List UInt8} (h : DecInv n k out) : out.length ≤ (Lib.decDigits n.natAbs).length := by
  rcases h with ⟨_, _, h⟩ | ⟨_, _, h⟩ | ⟨_, _, h⟩
  · rw [h, List.length_append]; omega
  · rw [h]; exact Nat.zero_le _
  · rw [h]; exact Nat.le_refl _
theorem digits20 {n : Int} (h0 : -9223372036854775808 ≤ n) (h1 : n ≤ 9223372036854775807) : (Lib.decDigits n.natAbs).length ≤ 20 := by
  rw [Lib.decDigits_length]; exact Lib.nDigits_le20 _ (by omega)
set_option maxRecDepth 100000 in
set_option maxHeartbeats 4000000 in
theorem l01Dec_any (n : Int) (w : World) (h0 : -9223372036854775808 ≤ n) (h1 : n ≤ 9223372036854775807) :
    Calls Tryd.prog 67 #[.int .i64 n] w fun e w' => e = .returned (.string (decB n)) ∧ Below w.heap.size w w' := by
  obtain ⟨i0, hi0, hz0, hs0, hb0⟩ := info_parts uint8_info
  have ho1 := hide (own_new0 w w.heap.size 5 1 (Nat.le_refl _))
  have hB1 := hide (show Below w.heap.size w (w.alloc (.cells #[] 5)) from (Below.refl _ _).alloc (Nat.le_refl _) _)
  have H20 := hide (digits20 h0 h1)
  go_enter Tryd.func67, Tryd.ntmps67
  go_wp2_with fail
  go_loopg [4, 3] n.natAbs (fun g kv sv wr => ∃ (k : Int) (l : List UInt8) (gb cb : Nat), Hid (g = k.natAbs) ∧ kv = .int .i64 k ∧ (-9223372036854775808 ≤ k ∧ k ≤ 9223372036854775807) ∧ sv = .slice (some ⟨gb, 0, none⟩) l.length cb ∧ Hid (wr.ownsRow w.heap.size 5 1 (.slice (some ⟨gb, 0, none⟩) l.length cb) l.length (bcs l)) ∧ Hid (DecInv n k l) ∧ Hid (Below w.heap.size w wr))
  case atStart => exact ⟨n, [], w.heap.size, 0, rfl, rfl, ⟨h0, h1⟩, rfl, hide (by simpa [bcs] using ho1.out), hide (DecInv.start n), hB1⟩
  case round =>
    obtain ⟨k, l, gb, cb, hg, rfl, ⟨hk0, hk1⟩, rfl, HO, HD, HW⟩ := hrel
    clear ho1 hB1
    have hzw := HW.out.size
    have hl20 : l.length ≤ 20 := Nat.le_trans HD.out.len H20.out
    by_cases hkz : k = 0
    · have HZ := hide (hkz ▸ HD.out).zero
      have hB0 : (k != 0) = false := by simp [hkz]
      have HKZ := hide hkz
      clear hkz
      by_cases hl0 : l.length = 0
      · have hB2 : ((l.length : Int) == 0) = true := by simp [hl0]
        have HE := hide (show decB n = ⟨#[48]⟩ by
          rcases HZ.out with ⟨_, _, e⟩ | ⟨e, _⟩ | ⟨e, _⟩
          · unfold decB; rw [e]
          · exact absurd (List.eq_nil_of_length_eq_zero hl0) e
          · exact absurd (List.eq_nil_of_length_eq_zero hl0) e)
        have HL0 := hide hl0
        clear hl0
        go_wp2_with fail
        go_ret
        exact ⟨by rw [HE.out]; rfl, HW.out⟩
      have hB2 : ((l.length : Int) == 0) = false := by rw [beq_eq_false_iff_ne]; omega
      have hcv := run_convert_bytes_back (P := Tryd.prog) wr 22 9 5 ⟨gb, 0, none⟩ cb l Tryd.underlying22 Tryd.underlying5 Tryd.underlying9 (fun j hj => HO.out.cells (g := gb) rfl j _ (by unfold bcs; rw [List.getElem?_map, List.getElem?_eq_getElem hj]; rfl))
      have HL0 := hide hl0
      clear hl0
      by_cases hn : n < 0
      · have HE := hide (show decB n = ⟨#[45]⟩ ++ ⟨l.toArray⟩ by
          rcases HZ.out with ⟨e, _⟩ | ⟨_, _, e⟩ | ⟨_, e, _⟩
          · exact absurd (by rw [e]; rfl) HL0.out
          · unfold decB; rw [e]; apply ByteArray.ext; simp [ByteArray.data_append]
          · omega)
        have hsz : (⟨l.toArray⟩ : ByteArray).size = l.length := by simp [ByteArray.size]
        have hcat : ¬ 9223372036854775807 < (⟨#[45]⟩ : ByteArray).size + (⟨l.toArray⟩ : ByteArray).size := by rw [hsz]; have : (⟨#[45]⟩ : ByteArray).size = 1 := rfl; omega
        have hcat2 : ¬ 9223372036854775807 < 1 + l.length := by omega
        clear hsz
        go_wp2_with fail
        go_ret
        exact ⟨by rw [HE.out]; rfl, HW.out⟩
      · have HE := hide (show decB n = ⟨l.toArray⟩ by
          rcases HZ.out with ⟨e, _⟩ | ⟨_, e, _⟩ | ⟨_, _, e⟩
          · exact absurd (by rw [e]; rfl) HL0.out
          · omega
          · unfold decB; rw [e])
        have hnn : decide (n < 0) = false := decide_eq_false hn
        go_wp2_with fail
        go_ret
        exact ⟨by rw [HE.out]; rfl, HW.out⟩
    have hB0 : (k != 0) = true := by simp [hkz]
    have HST := hide (HD.out.step hkz)
    have hdig := dec_digit k
    have hna := Int.natAbs_tmod k 10
    have hnb : (k.tdiv 10).natAbs = k.natAbs / 10 := by rw [Int.natAbs_tdiv]; rfl
    have hna2 : (k.tmod 10).natAbs ≤ 9 := by rw [hna]; show k.natAbs % 10 ≤ 9; omega
    have hw1 : IntKind.i64.wrap (k.tmod 10) = k.tmod 10 := by rw [IntKind.wrap_i64] <;> omega
    have hw2 : IntKind.i64.wrap (k.tdiv 10) = k.tdiv 10 := by rw [IntKind.wrap_i64] <;> omega
    have HLT := hide (show (k.tdiv 10).natAbs < k.natAbs by omega)
    have HQ := hide (show -9223372036854775808 ≤ k.tdiv 10 ∧ k.tdiv 10 ≤ 9223372036854775807 by omega)
    have hm9 : k.natAbs % 10 ≤ 9 := by omega
    obtain ⟨m, hm⟩ : ∃ m, k.natAbs % 10 = m := ⟨_, rfl⟩
    rw [hm] at hdig HST hm9
    have HKZ := hide hkz
    clear hna hnb hm hkz
    have h256 : (48 + (m : Int)) % 256 = 48 + (m : Int) := by omega
    obtain ⟨q, hkq⟩ : ∃ q, k.tdiv 10 = q := ⟨_, rfl⟩
    rw [hkq] at hw2 HLT HQ HST
    clear hw1 hna2
    have hlit := hide (show (wr.alloc (.cells #[.int .u8 (48 + (m : Int))] 5)).ownsRow w.heap.size 5 1 (.slice (some ⟨wr.heap.size, 0, none⟩) 1 1) 1 [.int .u8 (48 + (m : Int))] from World.ownsRow_lit wr #[.int .u8 (48 + (m : Int))] 1 hzw (by decide) rfl)
    have hsrc := hide (show Rd (wr.alloc (.cells #[.int .u8 (48 + (m : Int))] 5)) (wr.heap.size + 1) (some ⟨gb, 0, none⟩) (bcs l) from ((Rd.of_own HO.out).below ((Below.refl _ _).alloc (Nat.le_refl _) _)).more (by omega))
    have hba := hide (HW.out.alloc hzw (.cells #[.int .u8 (48 + (m : Int))] 5))
    by_cases hd : k.tmod 10 < 0
    · rw [if_pos hd] at hdig
      have hkd : k.tmod 10 = -(m : Int) := by omega
      have hm0 : (m : Int) ≠ 0 := by omega
      have hdd : decide (-(m : Int) < 0) = true := decide_eq_true (by omega)
      have hdd2 : 0 < m := by omega
      have hwn : IntKind.i64.wrap (- -(m : Int)) = (m : Int) := by rw [IntKind.wrap_i64] <;> omega
      have hw8 : IntKind.u8.wrap (48 + (m : Int)) = 48 + (m : Int) := by simp [IntKind.wrap, IntKind.bits, IntKind.signed]; omega
      clear hdig hd
      go_wp2_with (at_builtin; refine Hid.out ?_)
      refine hide ?_
      have hlo := hlit.out
      refine wp_app _ rfl _ _ 22 rfl w.heap.size 5 i0 (.int .u8 0) 1 1 Tryd.underlying22 hi0 hz0 hs0 hb0 rfl (by decide) (.slice (some ⟨wr.heap.size, 0, none⟩) 1 1) 1 _ rfl hlo _ _ l.length cb (bcs l) rfl (by rw [bcs_len]; omega) hsrc.out (bcs_one l) ?c2 (by decide) ?c3 ?_
      case c2 => omega
      case c3 => exact hba.out.size
      intro v4 w4 hown4 hgrow4 hat4
      have HB4 := hide (app_below hba.out hlo hgrow4 (Nat.le_refl _) hba.out.size)
      have h4 : w4.ownsRow w.heap.size 5 1 v4 (l.length + 1) (bcs (UInt8.ofNat (48 + m) :: l)) := by
        rw [← bcs_cons l (show 48 + m ≤ 255 by omega), Nat.add_comm l.length 1]
        exact hown4
      obtain ⟨A9, c9, rfl, _⟩ := own_shape h4
      obtain ⟨g9, rfl, _, _⟩ : ∃ g, A9 = some ⟨g, 0, none⟩ ∧ w.heap.size ≤ g ∧ g < w4.heap.size := by
        rcases own_block h4 with ⟨_, h0, _⟩ | h0
        · omega
        · exact h0
      have HO4 := hide h4
      clear hown4 hgrow4 hat4 h4 hlo hw8 hwn
      go_wp2_with fail
      go_roundg q.natAbs
      case measure => have := hg.out; have := HLT.out; omega
      case rel => exact ⟨q, UInt8.ofNat (48 + m) :: l, g9, c9, rfl, rfl, HQ.out, by rw [List.length_cons, Nat.add_comm], HO4, HST, HB4⟩
    · rw [if_neg hd] at hdig
      have hkd : k.tmod 10 = (m : Int) := hdig
      have hdd : decide ((m : Int) < 0) = false := decide_eq_false (by omega)
      clear hdig hd
      have hw8 : IntKind.u8.wrap (48 + (m : Int)) = 48 + (m : Int) := by simp [IntKind.wrap, IntKind.bits, IntKind.signed]; omega
      go_wp2_with (at_builtin; refine Hid.out ?_)
      refine hide ?_
      have hlo := hlit.out
      refine wp_app _ rfl _ _ 22 rfl w.heap.size 5 i0 (.int .u8 0) 1 1 Tryd.underlying22 hi0 hz0 hs0 hb0 rfl (by decide) (.slice (some ⟨wr.heap.size, 0, none⟩) 1 1) 1 _ rfl hlo _ _ l.length cb (bcs l) rfl (by rw [bcs_len]; omega) hsrc.out (bcs_one l) ?c2 (by decide) ?c3 ?_
      case c2 => omega
      case c3 => exact hba.out.size
      intro v4 w4 hown4 hgrow4 hat4
      have HB4 := hide (app_below hba.out hlo hgrow4 (Nat.le_refl _) hba.out.size)
      have h4 : w4.ownsRow w.heap.size 5 1 v4 (l.length + 1) (bcs (UInt8.ofNat (48 + m) :: l)) := by
        rw [← bcs_cons l (show 48 + m ≤ 255 by omega), Nat.add_comm l.length 1]
        exact hown4
      obtain ⟨A9, c9, rfl, _⟩ := own_shape h4
      obtain ⟨g9, rfl, _, _⟩ : ∃ g, A9 = some ⟨g, 0, none⟩ ∧ w.heap.size ≤ g ∧ g < w4.heap.size := by
        rcases own_block h4 with ⟨_, h0, _⟩ | h0
        · omega
        · exact h0
      have HO4 := hide h4
      clear hown4 hgrow4 hat4 h4 hlo hw8
      go_wp2_with fail
      go_roundg q.natAbs
      case measure => have := hg.out; have := HLT.out; omega
      case rel => exact ⟨q, UInt8.ofNat (48 + m) :: l, g9, c9, rfl, rfl, HQ.out, by rw [List.length_cons, Nat.add_comm], HO4, HST, HB4⟩
end Go.Proofs.YtofjnmeblmbnmaaDoor
