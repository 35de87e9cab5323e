/-
  Decimal forms: the program's, by the kit's contract of strconv.FormatInt, and the reference's.
  A change as a text, in both packages.
  The table of powers of ten out of a row's list of laid variables.
-/
import Derived.Test.YtofjnmeblmbnmaaDoorQLevels22
import Derived.Test.YtofjnmeblmbnmaaDoorQLevels1
import Derived.Lib.ItoaLen
import Derived.Lib.AppendIntMem
import Derived.Test.YtofjnmeblmbnmaaDoorQLevels2
import Derived.Test.YtofjnmeblmbnmaaDoorQLevels5
import Derived.Deep.DeepCutAuto
import Derived.Lib.LaidTab
import Derived.LaidLaws
namespace Go.Proofs.YtofjnmeblmbnmaaDoor
open Go.RowKit
/-- The table of powers of ten lies as its initialiser lays it. -/
def TabW (w : World) : Prop := Lib.TabIs Tryd.prog w "internal/strconv.uint64pow10" .u64 Lib.pow10Tab
theorem TabW.below {w w' : World} (h : TabW w) (b : Below w.heap.size w w') : TabW w' := Lib.tabBelow_of_tabIs h w' b
theorem itoa_size {n : Int} (h0 : -9223372036854775808 ≤ n) (h1 : n ≤ 9223372036854775807) : (⟨(Lib.itoa n).toArray⟩ : ByteArray).size ≤ 21 := by
  have h := Lib.itoa_length_le n h0 h1
  have e : (⟨(Lib.itoa n).toArray⟩ : ByteArray).size = (Lib.itoa n).length := by simp [ByteArray.size]
  omega
/-- The decimal form as a text. -/
def decB (n : Int) : ByteArray := ⟨(Lib.itoa n).toArray⟩
set_option maxRecDepth 100000 in
theorem decimal_any (n : Int) (w : World) (h0 : -9223372036854775808 ≤ n) (h1 : n ≤ 9223372036854775807) (ht : TabW w) :
    Calls Tryd.prog 69 #[.int .i64 n] w fun e w' => e = .returned (.string (decB n)) ∧ Below w.heap.size w w' := by
  have HC : Hid (Calls Tryd.prog 106 #[.int .i64 n, .int .i64 10] w fun e w' => e = .returned (.string (decB n)) ∧ Below w.heap.size w w') := hide ((Go.Proofs.Any.strconv_FormatInt_10 YtofjnmeblmbnmaaDoor.fmtLay n h0 h1 w ht).mono fun e w' h => by
    obtain ⟨he, k, os, hw⟩ := h
    exact ⟨he, by rw [hw]; exact Lib.below_grow _ _ (Nat.le_refl _) _ _⟩)
  clear ht
  go_enter Tryd.func69, Tryd.ntmps69
  go_wp2_with (go_at_call 106; (with_reducible refine (HC.out).mono ?_); rintro e w1 ⟨rfl, b1⟩)
  go_ret
  exact ⟨rfl, b1⟩
theorem DecInv.len {n k : Int} {out : List UInt8} (h : DecInv n k out) : out.length ≤ (Lib.decDigits n.natAbs).length := by
  rcases h with ⟨_, _, h⟩ | ⟨_, _, h⟩ | ⟨_, _, h⟩
  · rw [h, List.length_append]; omega
  · rw [h]; exact Nat.zero_le _
  · rw [h]; exact Nat.le_refl _
theorem digits20 {n : Int} (h0 : -9223372036854775808 ≤ n) (h1 : n ≤ 9223372036854775807) : (Lib.decDigits n.natAbs).length ≤ 20 := by
  rw [Lib.decDigits_length]; exact Lib.nDigits_le20 _ (by omega)
set_option maxRecDepth 100000 in
set_option maxHeartbeats 4000000 in
theorem l01Dec_any (n : Int) (w : World) (h0 : -9223372036854775808 ≤ n) (h1 : n ≤ 9223372036854775807) :
    Calls Tryd.prog 67 #[.int .i64 n] w fun e w' => e = .returned (.string (decB n)) ∧ Below w.heap.size w w' := by
  obtain ⟨i0, hi0, hz0, hs0, hb0⟩ := info_parts uint8_info
  have ho1 := hide (own_new0 w w.heap.size 5 1 (Nat.le_refl _))
  have hB1 := hide (show Below w.heap.size w (w.alloc (.cells #[] 5)) from (Below.refl _ _).alloc (Nat.le_refl _) _)
  have H20 := hide (digits20 h0 h1)
  go_enter Tryd.func67, Tryd.ntmps67
  go_wp2_with fail
  go_loopg [4, 3] n.natAbs (fun g kv sv wr => ∃ (k : Int) (l : List UInt8) (gb cb : Nat), Hid (g = k.natAbs) ∧ kv = .int .i64 k ∧ (-9223372036854775808 ≤ k ∧ k ≤ 9223372036854775807) ∧ sv = .slice (some ⟨gb, 0, none⟩) l.length cb ∧ Hid (wr.ownsRow w.heap.size 5 1 (.slice (some ⟨gb, 0, none⟩) l.length cb) l.length (bcs l)) ∧ Hid (DecInv n k l) ∧ Hid (Below w.heap.size w wr))
  case atStart => exact ⟨n, [], w.heap.size, 0, rfl, rfl, ⟨h0, h1⟩, rfl, hide (by simpa [bcs] using ho1.out), hide (DecInv.start n), hB1⟩
  case round =>
    obtain ⟨k, l, gb, cb, hg, rfl, ⟨hk0, hk1⟩, rfl, HO, HD, HW⟩ := hrel
    clear ho1 hB1
    have hzw := HW.out.size
    have hl20 : l.length ≤ 20 := Nat.le_trans HD.out.len H20.out
    by_cases hkz : k = 0
    · have HZ := hide (hkz ▸ HD.out).zero
      have hB0 : (k != 0) = false := by simp [hkz]
      have HKZ := hide hkz
      clear hkz
      by_cases hl0 : l.length = 0
      · have hB2 : ((l.length : Int) == 0) = true := by simp [hl0]
        have HE := hide (show decB n = ⟨#[48]⟩ by
          rcases HZ.out with ⟨_, _, e⟩ | ⟨e, _⟩ | ⟨e, _⟩
          · unfold decB; rw [e]
          · exact absurd (List.eq_nil_of_length_eq_zero hl0) e
          · exact absurd (List.eq_nil_of_length_eq_zero hl0) e)
        have HL0 := hide hl0
        clear hl0
        go_wp2_with fail
        go_ret
        exact ⟨by rw [HE.out]; rfl, HW.out⟩
      have hB2 : ((l.length : Int) == 0) = false := by rw [beq_eq_false_iff_ne]; omega
      have hcv := run_convert_bytes_back (P := Tryd.prog) wr 22 9 5 ⟨gb, 0, none⟩ cb l Tryd.underlying22 Tryd.underlying5 Tryd.underlying9 (fun j hj => HO.out.cells (g := gb) rfl j _ (by unfold bcs; rw [List.getElem?_map, List.getElem?_eq_getElem hj]; rfl))
      have HL0 := hide hl0
      clear hl0
      by_cases hn : n < 0
      · have HE := hide (show decB n = ⟨#[45]⟩ ++ ⟨l.toArray⟩ by
          rcases HZ.out with ⟨e, _⟩ | ⟨_, _, e⟩ | ⟨_, e, _⟩
          · exact absurd (by rw [e]; rfl) HL0.out
          · unfold decB; rw [e]; apply ByteArray.ext; simp [ByteArray.data_append]
          · omega)
        have hsz : (⟨l.toArray⟩ : ByteArray).size = l.length := by simp [ByteArray.size]
        have hcat : ¬ 9223372036854775807 < (⟨#[45]⟩ : ByteArray).size + (⟨l.toArray⟩ : ByteArray).size := by rw [hsz]; have : (⟨#[45]⟩ : ByteArray).size = 1 := rfl; omega
        have hcat2 : ¬ 9223372036854775807 < 1 + l.length := by omega
        clear hsz
        go_wp2_with fail
        go_ret
        exact ⟨by rw [HE.out]; rfl, HW.out⟩
      · have HE := hide (show decB n = ⟨l.toArray⟩ by
          rcases HZ.out with ⟨e, _⟩ | ⟨_, e, _⟩ | ⟨_, _, e⟩
          · exact absurd (by rw [e]; rfl) HL0.out
          · omega
          · unfold decB; rw [e])
        have hnn : decide (n < 0) = false := decide_eq_false hn
        go_wp2_with fail
        go_ret
        exact ⟨by rw [HE.out]; rfl, HW.out⟩
    have hB0 : (k != 0) = true := by simp [hkz]
    have HST := hide (HD.out.step hkz)
    have hdig := dec_digit k
    have hna := Int.natAbs_tmod k 10
    have hnb : (k.tdiv 10).natAbs = k.natAbs / 10 := by rw [Int.natAbs_tdiv]; rfl
    have hna2 : (k.tmod 10).natAbs ≤ 9 := by rw [hna]; show k.natAbs % 10 ≤ 9; omega
    have hw1 : IntKind.i64.wrap (k.tmod 10) = k.tmod 10 := by rw [IntKind.wrap_i64] <;> omega
    have hw2 : IntKind.i64.wrap (k.tdiv 10) = k.tdiv 10 := by rw [IntKind.wrap_i64] <;> omega
    have HLT := hide (show (k.tdiv 10).natAbs < k.natAbs by omega)
    have HQ := hide (show -9223372036854775808 ≤ k.tdiv 10 ∧ k.tdiv 10 ≤ 9223372036854775807 by omega)
    have hm9 : k.natAbs % 10 ≤ 9 := by omega
    obtain ⟨m, hm⟩ : ∃ m, k.natAbs % 10 = m := ⟨_, rfl⟩
    rw [hm] at hdig HST hm9
    have HKZ := hide hkz
    clear hna hnb hm hkz
    have h256 : (48 + (m : Int)) % 256 = 48 + (m : Int) := by omega
    obtain ⟨q, hkq⟩ : ∃ q, k.tdiv 10 = q := ⟨_, rfl⟩
    rw [hkq] at hw2 HLT HQ HST
    clear hw1 hna2
    have hlit := hide (show (wr.alloc (.cells #[.int .u8 (48 + (m : Int))] 5)).ownsRow w.heap.size 5 1 (.slice (some ⟨wr.heap.size, 0, none⟩) 1 1) 1 [.int .u8 (48 + (m : Int))] from World.ownsRow_lit wr #[.int .u8 (48 + (m : Int))] 1 hzw (by decide) rfl)
    have hsrc := hide (show Rd (wr.alloc (.cells #[.int .u8 (48 + (m : Int))] 5)) (wr.heap.size + 1) (some ⟨gb, 0, none⟩) (bcs l) from ((Rd.of_own HO.out).below ((Below.refl _ _).alloc (Nat.le_refl _) _)).more (by omega))
    have hba := hide (HW.out.alloc hzw (.cells #[.int .u8 (48 + (m : Int))] 5))
    by_cases hd : k.tmod 10 < 0
    · rw [if_pos hd] at hdig
      have hkd : k.tmod 10 = -(m : Int) := by omega
      have hm0 : (m : Int) ≠ 0 := by omega
      have hdd : decide (-(m : Int) < 0) = true := decide_eq_true (by omega)
      have hdd2 : 0 < m := by omega
      have hwn : IntKind.i64.wrap (- -(m : Int)) = (m : Int) := by rw [IntKind.wrap_i64] <;> omega
      have hw8 : IntKind.u8.wrap (48 + (m : Int)) = 48 + (m : Int) := by simp [IntKind.wrap, IntKind.bits, IntKind.signed]; omega
      clear hdig hd
      go_wp2_with (at_builtin; refine Hid.out ?_)
      refine hide ?_
      have hlo := hlit.out
      refine wp_app _ rfl _ _ 22 rfl w.heap.size 5 i0 (.int .u8 0) 1 1 Tryd.underlying22 hi0 hz0 hs0 hb0 rfl (by decide) (.slice (some ⟨wr.heap.size, 0, none⟩) 1 1) 1 _ rfl hlo _ _ l.length cb (bcs l) rfl (by rw [bcs_len]; omega) hsrc.out (bcs_one l) ?c2 (by decide) ?c3 ?_
      case c2 => omega
      case c3 => exact hba.out.size
      intro v4 w4 hown4 hgrow4 hat4
      have HB4 := hide (app_below hba.out hlo hgrow4 (Nat.le_refl _) hba.out.size)
      have h4 : w4.ownsRow w.heap.size 5 1 v4 (l.length + 1) (bcs (UInt8.ofNat (48 + m) :: l)) := by
        rw [← bcs_cons l (show 48 + m ≤ 255 by omega), Nat.add_comm l.length 1]
        exact hown4
      obtain ⟨A9, c9, rfl, _⟩ := own_shape h4
      obtain ⟨g9, rfl, _, _⟩ : ∃ g, A9 = some ⟨g, 0, none⟩ ∧ w.heap.size ≤ g ∧ g < w4.heap.size := by
        rcases own_block h4 with ⟨_, h0, _⟩ | h0
        · omega
        · exact h0
      have HO4 := hide h4
      clear hown4 hgrow4 hat4 h4 hlo hw8 hwn
      go_wp2_with fail
      go_roundg q.natAbs
      case measure => have := hg.out; have := HLT.out; omega
      case rel => exact ⟨q, UInt8.ofNat (48 + m) :: l, g9, c9, rfl, rfl, HQ.out, by rw [List.length_cons, Nat.add_comm], HO4, HST, HB4⟩
    · rw [if_neg hd] at hdig
      have hkd : k.tmod 10 = (m : Int) := hdig
      have hdd : decide ((m : Int) < 0) = false := decide_eq_false (by omega)
      clear hdig hd
      have hw8 : IntKind.u8.wrap (48 + (m : Int)) = 48 + (m : Int) := by simp [IntKind.wrap, IntKind.bits, IntKind.signed]; omega
      go_wp2_with (at_builtin; refine Hid.out ?_)
      refine hide ?_
      have hlo := hlit.out
      refine wp_app _ rfl _ _ 22 rfl w.heap.size 5 i0 (.int .u8 0) 1 1 Tryd.underlying22 hi0 hz0 hs0 hb0 rfl (by decide) (.slice (some ⟨wr.heap.size, 0, none⟩) 1 1) 1 _ rfl hlo _ _ l.length cb (bcs l) rfl (by rw [bcs_len]; omega) hsrc.out (bcs_one l) ?c2 (by decide) ?c3 ?_
      case c2 => omega
      case c3 => exact hba.out.size
      intro v4 w4 hown4 hgrow4 hat4
      have HB4 := hide (app_below hba.out hlo hgrow4 (Nat.le_refl _) hba.out.size)
      have h4 : w4.ownsRow w.heap.size 5 1 v4 (l.length + 1) (bcs (UInt8.ofNat (48 + m) :: l)) := by
        rw [← bcs_cons l (show 48 + m ≤ 255 by omega), Nat.add_comm l.length 1]
        exact hown4
      obtain ⟨A9, c9, rfl, _⟩ := own_shape h4
      obtain ⟨g9, rfl, _, _⟩ : ∃ g, A9 = some ⟨g, 0, none⟩ ∧ w.heap.size ≤ g ∧ g < w4.heap.size := by
        rcases own_block h4 with ⟨_, h0, _⟩ | h0
        · omega
        · exact h0
      have HO4 := hide h4
      clear hown4 hgrow4 hat4 h4 hlo hw8
      go_wp2_with fail
      go_roundg q.natAbs
      case measure => have := hg.out; have := HLT.out; omega
      case rel => exact ⟨q, UInt8.ofNat (48 + m) :: l, g9, c9, rfl, rfl, HQ.out, by rw [List.length_cons, Nat.add_comm], HO4, HST, HB4⟩
end Go.Proofs.YtofjnmeblmbnmaaDoor
namespace Go.Proofs.YtofjnmeblmbnmaaDoor
open Go.RowKit
def chgT (A B C : ByteArray) : ByteArray := A ++ ⟨#[58, 32, 122, 111, 110, 101, 32]⟩ ++ B ++ ⟨#[32, 97, 116, 32]⟩ ++ C
def chgB (y : T3) : ByteArray := if okC 8 y = true then chgT (decB y.a) (decB y.b) (decB y.c) else ⟨#[]⟩
theorem decB_size {n : Int} (h0 : -9223372036854775808 ≤ n) (h1 : n ≤ 9223372036854775807) : (decB n).size ≤ 21 := itoa_size h0 h1
theorem l09Change_any' (n : Int) (y : T3) (b : Nat) (W : World) (hX : BoxN W b #[.int .i64 y.a, .int .i64 y.b, .int .i64 y.c] 41) (h0 : -1000000 ≤ n := by decide) (h1 : n ≤ 1000000 := by decide) :
    Calls Tryd.prog 66 #[.int .i64 n, .pointer (some ⟨b, 0, none⟩)] W fun e w' => e = .returned (.bool (okC n y)) ∧ Below W.heap.size W w' :=
  (l09Change_any n y b 0 W h0 h1 (hX.cell 0) (hX.cell 1) (hX.cell 2)).mono fun _ _ ⟨he, hw⟩ => ⟨he, by rw [hw]; exact Below.refl _ _⟩
set_option maxRecDepth 100000 in
set_option maxHeartbeats 4000000 in
theorem implChangeText_any (y : T3) (w : World) (hf : y.Fits) (ht : TabW w) :
    Calls Tryd.prog 23 #[.agg #[.int .i64 y.a, .int .i64 y.b, .int .i64 y.c]] w fun e w' => e = .returned (.string (chgB y)) ∧ Below w.heap.size w w' := by
  obtain ⟨ya, yb, yc⟩ := y
  obtain ⟨⟨ha0, ha1⟩, ⟨hb0, hb1⟩, hc0, hc1⟩ := hf
  dsimp only at ha0 ha1 hb0 hb1 hc0 hc1 ⊢
  have X0 := hide (BoxN.new w #[.int .i64 ya, .int .i64 yb, .int .i64 yc] 41)
  have B0 := hide (show Below w.heap.size w (w.alloc (.cells #[.int .i64 ya, .int .i64 yb, .int .i64 yc] 41)) from (Below.refl _ _).alloc (Nat.le_refl _) _)
  have HOK := hide fun W (hX : BoxN W w.heap.size #[.int .i64 ya, .int .i64 yb, .int .i64 yc] 41) => isChange_any 8 ⟨ya, yb, yc⟩ W (by decide) (by decide)
  cases hok : okC 8 ⟨ya, yb, yc⟩
  · have HE := hide (show chgB ⟨ya, yb, yc⟩ = ⟨#[]⟩ by unfold chgB; rw [hok]; rfl)
    rw [hok] at HOK
    clear hok
    go_enter Tryd.func23, Tryd.ntmps23
    go_upto_region 1 with fail
    generalize w.alloc (.cells #[.int .i64 ya, .int .i64 yb, .int .i64 yc] 41) = wA at *
    generalize w.heap.size = gw at X0 HOK
    have k0 := X0.out.cell 0
    have k1 := X0.out.cell 1
    have k2 := X0.out.cell 2
    go_wp2_with (go_at_call 68; (with_reducible refine (HOK.out _ X0.out).mono ?_); rintro e w1 ⟨rfl, b1⟩)
    go_ret
    exact ⟨by rw [HE.out]; rfl, B0.out.trans (b1.mono B0.out.size)⟩
  have HE := hide (show chgB ⟨ya, yb, yc⟩ = chgT (decB ya) (decB yb) (decB yc) by unfold chgB; rw [hok]; rfl)
  rw [hok] at HOK
  have hA := decB_size ha0 ha1
  have hB := decB_size hb0 hb1
  have hC := decB_size hc0 hc1
  have HA := hide fun W (hW : Below w.heap.size w W) => decimal_any ya W ha0 ha1 (ht.below hW)
  have HB := hide fun W (hW : Below w.heap.size w W) => decimal_any yb W hb0 hb1 (ht.below hW)
  have HC := hide fun W (hW : Below w.heap.size w W) => decimal_any yc W hc0 hc1 (ht.below hW)
  clear hok
  generalize decB ya = SA at *
  generalize decB yb = SB at *
  generalize decB yc = SC at *
  have c1 : ¬ 9223372036854775807 < SA.size + 7 := by omega
  have c2 : ¬ 9223372036854775807 < SA.size + 7 + SB.size := by omega
  have c3 : ¬ 9223372036854775807 < SA.size + 7 + SB.size + 4 := by omega
  have c4 : ¬ 9223372036854775807 < SA.size + 7 + SB.size + 4 + SC.size := by omega
  go_enter Tryd.func23, Tryd.ntmps23
  go_upto_region 1 with fail
  generalize hwA : w.alloc (.cells #[.int .i64 ya, .int .i64 yb, .int .i64 yc] 41) = wA at *
  clear hwA
  have k0 := X0.out.cell 0
  have k1 := X0.out.cell 1
  have k2 := X0.out.cell 2
  have hgw := X0.out.lt
  go_wp2_with (go_at_call 68; (with_reducible refine (HOK.out _ X0.out).mono ?_); rintro e w1 ⟨rfl, b1⟩)
  have X1 := hide (X0.out.below b1 hgw)
  have B1 := hide (B0.out.trans (b1.mono B0.out.size))
  clear k0 k1 k2 b1 X0 B0 HOK
  have X2 : Hid (BoxN w1.drew w.heap.size #[.int .i64 ya, .int .i64 yb, .int .i64 yc] 41) := X1.out
  have B2 := hide (show Below w.heap.size w w1.drew from B1.out.drew)
  have e0 := X2.out.cell 0
  have e1 := X2.out.cell 1
  have e2 := X2.out.cell 2
  clear X1 B1
  refine wp_region_held_drew (S := fun W => W.cell? ⟨w.heap.size, 0, none⟩ = some (.int .i64 ya) ∧ W.cell? ⟨w.heap.size, 1, none⟩ = some (.int .i64 yb) ∧ W.cell? ⟨w.heap.size, 2, none⟩ = some (.int .i64 yc)) (by kernel_rfl) (⟨e0, e1, e2⟩) (fun hHeld => ?_)
  generalize w1.drew = wd at *
  refine wpAnyH_take (i := 0) (v := ?_) rfl (by kernel_rfl) (by kernel_rfl) (by kernel_rfl) (fun _ _ _ h => h) (Or.inl ⟨by rfl, ?_⟩) (by assumption) ?_
  rotate_left 1
  · (intro w hSw; (try dsimp only at hSw); go_simp; try with_reducible rfl)
  try simp only [Act.put, List.getElem_toArray, List.getElem_cons_succ, List.getElem_cons_zero, List.setIfInBounds_toArray, List.set_cons_zero, List.set_cons_succ]
  refine wpAnyH_take (i := 1) (v := ?_) rfl (by kernel_rfl) (by kernel_rfl) (by kernel_rfl) (fun _ _ _ h => h) (Or.inl ⟨by rfl, ?_⟩) (by assumption) ?_
  rotate_left 1
  · (intro w hSw; (try dsimp only at hSw); go_simp; try with_reducible rfl)
  try simp only [Act.put, List.getElem_toArray, List.getElem_cons_succ, List.getElem_cons_zero, List.setIfInBounds_toArray, List.set_cons_zero, List.set_cons_succ]
  refine wpAnyH_take (i := 4) (v := ?_) rfl (by kernel_rfl) (by kernel_rfl) (by kernel_rfl) (fun _ _ _ h => h) (Or.inl ⟨by rfl, ?_⟩) (by assumption) ?_
  rotate_left 1
  · (intro w hSw; (try dsimp only at hSw); go_simp; try with_reducible rfl)
  try simp only [Act.put, List.getElem_toArray, List.getElem_cons_succ, List.getElem_cons_zero, List.setIfInBounds_toArray, List.set_cons_zero, List.set_cons_succ]
  refine wpAnyH_take (i := 5) (v := ?_) rfl (by kernel_rfl) (by kernel_rfl) (by kernel_rfl) (fun _ _ _ h => h) (Or.inl ⟨by rfl, ?_⟩) (by assumption) ?_
  rotate_left 1
  · (intro w hSw; (try dsimp only at hSw); go_simp; try with_reducible rfl)
  try simp only [Act.put, List.getElem_toArray, List.getElem_cons_succ, List.getElem_cons_zero, List.setIfInBounds_toArray, List.set_cons_zero, List.set_cons_succ]
  refine wpAnyH_take (i := 9) (v := ?_) rfl (by kernel_rfl) (by kernel_rfl) (by kernel_rfl) (fun _ _ _ h => h) (Or.inl ⟨by rfl, ?_⟩) (by assumption) ?_
  rotate_left 1
  · (intro w hSw; (try dsimp only at hSw); go_simp; try with_reducible rfl)
  try simp only [Act.put, List.getElem_toArray, List.getElem_cons_succ, List.getElem_cons_zero, List.setIfInBounds_toArray, List.set_cons_zero, List.set_cons_succ]
  refine wpAnyH_take (i := 10) (v := ?_) rfl (by kernel_rfl) (by kernel_rfl) (by kernel_rfl) (fun _ _ _ h => h) (Or.inl ⟨by rfl, ?_⟩) (by assumption) ?_
  rotate_left 1
  · (intro w hSw; (try dsimp only at hSw); go_simp; try with_reducible rfl)
  try simp only [Act.put, List.getElem_toArray, List.getElem_cons_succ, List.getElem_cons_zero, List.setIfInBounds_toArray, List.set_cons_zero, List.set_cons_succ]
  refine wpAnyH_ready (rs := [2]) (by kernel_rfl) (by simp) ?_
  refine AllReadyH.cons rfl (fun K hK => ?_) AllReadyH.nil
  try simp only [Act.put, List.getElem_toArray, List.getElem_cons_succ, List.getElem_cons_zero, List.setIfInBounds_toArray, List.set_cons_zero, List.set_cons_succ]
  go_simp
  go_at_call 69
  refine (HA.out _ B2.out).mono ?_
  rintro e w3 ⟨rfl, b3⟩
  have X3 := hide (X2.out.below b3 X2.out.lt)
  have B3 := hide (B2.out.trans (b3.mono B2.out.size))
  have f0 := X3.out.cell 0
  have f1 := X3.out.cell 1
  have f2 := X3.out.cell 2
  clear e0 e1 e2 b3 X2 B2 HA
  dsimp only
  refine hK.out _ _ (⟨f0, f1, f2⟩) (fun hHeld => ?_)
  clear hK K
  try simp only [Act.put, List.getElem_toArray, List.getElem_cons_succ, List.getElem_cons_zero, List.setIfInBounds_toArray, List.set_cons_zero, List.set_cons_succ]
  refine wpAnyH_take (i := 3) (v := ?_) rfl (by kernel_rfl) (by kernel_rfl) (by kernel_rfl) (fun _ _ _ h => h) (Or.inl ⟨by rfl, ?_⟩) (by assumption) ?_
  rotate_left 1
  · (intro w hSw; (try dsimp only at hSw); go_simp; try with_reducible rfl)
  try simp only [Act.put, List.getElem_toArray, List.getElem_cons_succ, List.getElem_cons_zero, List.setIfInBounds_toArray, List.set_cons_zero, List.set_cons_succ]
  refine wpAnyH_ready (rs := [6]) (by kernel_rfl) (by simp) ?_
  refine AllReadyH.cons rfl (fun K hK => ?_) AllReadyH.nil
  try simp only [Act.put, List.getElem_toArray, List.getElem_cons_succ, List.getElem_cons_zero, List.setIfInBounds_toArray, List.set_cons_zero, List.set_cons_succ]
  go_simp
  go_at_call 69
  refine (HB.out _ B3.out).mono ?_
  rintro e w4 ⟨rfl, b4⟩
  have X4 := hide (X3.out.below b4 X3.out.lt)
  have B4 := hide (B3.out.trans (b4.mono B3.out.size))
  have g0 := X4.out.cell 0
  have g1 := X4.out.cell 1
  have g2 := X4.out.cell 2
  clear f0 f1 f2 b4 X3 B3 HB
  dsimp only
  refine hK.out _ _ (⟨g0, g1, g2⟩) (fun hHeld => ?_)
  clear hK K
  try simp only [Act.put, List.getElem_toArray, List.getElem_cons_succ, List.getElem_cons_zero, List.setIfInBounds_toArray, List.set_cons_zero, List.set_cons_succ]
  refine wpAnyH_take (i := 7) (v := ?_) rfl (by kernel_rfl) (by kernel_rfl) (by kernel_rfl) (fun _ _ _ h => h) (Or.inl ⟨by rfl, ?_⟩) (by assumption) ?_
  rotate_left 1
  · (intro w hSw; (try dsimp only at hSw); go_simp; try with_reducible rfl)
  try simp only [Act.put, List.getElem_toArray, List.getElem_cons_succ, List.getElem_cons_zero, List.setIfInBounds_toArray, List.set_cons_zero, List.set_cons_succ]
  refine wpAnyH_take (i := 8) (v := ?_) rfl (by kernel_rfl) (by kernel_rfl) (by kernel_rfl) (fun _ _ _ h => h) (Or.inl ⟨by rfl, ?_⟩) (by assumption) ?_
  rotate_left 1
  · (intro w hSw; (try dsimp only at hSw); go_simp; try with_reducible rfl)
  try simp only [Act.put, List.getElem_toArray, List.getElem_cons_succ, List.getElem_cons_zero, List.setIfInBounds_toArray, List.set_cons_zero, List.set_cons_succ]
  refine wpAnyH_ready (rs := [11]) (by kernel_rfl) (by simp) ?_
  refine AllReadyH.cons rfl (fun K hK => ?_) AllReadyH.nil
  try simp only [Act.put, List.getElem_toArray, List.getElem_cons_succ, List.getElem_cons_zero, List.setIfInBounds_toArray, List.set_cons_zero, List.set_cons_succ]
  go_simp
  go_at_call 69
  refine (HC.out _ B4.out).mono ?_
  rintro e w5 ⟨rfl, b5⟩
  have X5 := hide (X4.out.below b5 X4.out.lt)
  have B5 := hide (B4.out.trans (b5.mono B4.out.size))
  have l0 := X5.out.cell 0
  have l1 := X5.out.cell 1
  have l2 := X5.out.cell 2
  clear g0 g1 g2 b5 X4 B4 HC
  dsimp only
  refine hK.out _ _ (⟨l0, l1, l2⟩) (fun hHeld => ?_)
  clear hK K
  try simp only [Act.put, List.getElem_toArray, List.getElem_cons_succ, List.getElem_cons_zero, List.setIfInBounds_toArray, List.set_cons_zero, List.set_cons_succ]
  refine wpAnyH_take (i := 12) (v := ?_) rfl (by kernel_rfl) (by kernel_rfl) (by kernel_rfl) (fun _ _ _ h => h) (Or.inl ⟨by rfl, ?_⟩) (by assumption) ?_
  rotate_left 1
  · (intro w hSw; (try dsimp only at hSw); go_simp; try with_reducible rfl)
  try simp only [Act.put, List.getElem_toArray, List.getElem_cons_succ, List.getElem_cons_zero, List.setIfInBounds_toArray, List.set_cons_zero, List.set_cons_succ]
  refine wpAnyH_take (i := 13) (v := ?_) rfl (by kernel_rfl) (by kernel_rfl) (by kernel_rfl) (fun _ _ _ h => h) (Or.inl ⟨by rfl, ?_⟩) (by assumption) ?_
  rotate_left 1
  · (intro w hSw; (try dsimp only at hSw); go_simp; try with_reducible rfl)
  try simp only [Act.put, List.getElem_toArray, List.getElem_cons_succ, List.getElem_cons_zero, List.setIfInBounds_toArray, List.set_cons_zero, List.set_cons_succ]
  refine wpAnyH_done (by kernel_rfl) ?_ _
  go_wp2_with fail
  go_ret
  exact ⟨by rw [HE.out]; rfl, B5.out⟩
set_option maxRecDepth 100000 in
set_option maxHeartbeats 4000000 in
theorem specChangeText_any (y : T3) (w : World) (hf : y.Fits) :
    Calls Tryd.prog 21 #[.agg #[.int .i64 y.a, .int .i64 y.b, .int .i64 y.c]] w fun e w' => e = .returned (.string (chgB y)) ∧ Below w.heap.size w w' := by
  obtain ⟨ya, yb, yc⟩ := y
  obtain ⟨⟨ha0, ha1⟩, ⟨hb0, hb1⟩, hc0, hc1⟩ := hf
  dsimp only at ha0 ha1 hb0 hb1 hc0 hc1 ⊢
  have X0 := hide (BoxN.new w #[.int .i64 ya, .int .i64 yb, .int .i64 yc] 41)
  have B0 := hide (show Below w.heap.size w (w.alloc (.cells #[.int .i64 ya, .int .i64 yb, .int .i64 yc] 41)) from (Below.refl _ _).alloc (Nat.le_refl _) _)
  have HOK := hide fun W (hX : BoxN W w.heap.size #[.int .i64 ya, .int .i64 yb, .int .i64 yc] 41) => l09Change_any' 8 ⟨ya, yb, yc⟩ w.heap.size W hX
  cases hok : okC 8 ⟨ya, yb, yc⟩
  · have HE := hide (show chgB ⟨ya, yb, yc⟩ = ⟨#[]⟩ by unfold chgB; rw [hok]; rfl)
    rw [hok] at HOK
    clear hok
    go_enter Tryd.func21, Tryd.ntmps21
    go_upto_region 1 with fail
    generalize w.alloc (.cells #[.int .i64 ya, .int .i64 yb, .int .i64 yc] 41) = wA at *
    generalize w.heap.size = gw at X0 HOK
    have k0 := X0.out.cell 0
    have k1 := X0.out.cell 1
    have k2 := X0.out.cell 2
    go_wp2_with (go_at_call 66; (with_reducible refine (HOK.out _ X0.out).mono ?_); rintro e w1 ⟨rfl, b1⟩)
    go_ret
    exact ⟨by rw [HE.out]; rfl, B0.out.trans (b1.mono B0.out.size)⟩
  have HE := hide (show chgB ⟨ya, yb, yc⟩ = chgT (decB ya) (decB yb) (decB yc) by unfold chgB; rw [hok]; rfl)
  rw [hok] at HOK
  have hA := decB_size ha0 ha1
  have hB := decB_size hb0 hb1
  have hC := decB_size hc0 hc1
  have HA := hide fun W (hW : Below w.heap.size w W) => l01Dec_any ya W ha0 ha1
  have HB := hide fun W (hW : Below w.heap.size w W) => l01Dec_any yb W hb0 hb1
  have HC := hide fun W (hW : Below w.heap.size w W) => l01Dec_any yc W hc0 hc1
  clear hok
  generalize decB ya = SA at *
  generalize decB yb = SB at *
  generalize decB yc = SC at *
  have c1 : ¬ 9223372036854775807 < SA.size + 7 := by omega
  have c2 : ¬ 9223372036854775807 < SA.size + 7 + SB.size := by omega
  have c3 : ¬ 9223372036854775807 < SA.size + 7 + SB.size + 4 := by omega
  have c4 : ¬ 9223372036854775807 < SA.size + 7 + SB.size + 4 + SC.size := by omega
  go_enter Tryd.func21, Tryd.ntmps21
  go_upto_region 1 with fail
  generalize hwA : w.alloc (.cells #[.int .i64 ya, .int .i64 yb, .int .i64 yc] 41) = wA at *
  clear hwA
  have k0 := X0.out.cell 0
  have k1 := X0.out.cell 1
  have k2 := X0.out.cell 2
  have hgw := X0.out.lt
  go_wp2_with (go_at_call 66; (with_reducible refine (HOK.out _ X0.out).mono ?_); rintro e w1 ⟨rfl, b1⟩)
  have X1 := hide (X0.out.below b1 hgw)
  have B1 := hide (B0.out.trans (b1.mono B0.out.size))
  clear k0 k1 k2 b1 X0 B0 HOK
  have X2 : Hid (BoxN w1.drew w.heap.size #[.int .i64 ya, .int .i64 yb, .int .i64 yc] 41) := X1.out
  have B2 := hide (show Below w.heap.size w w1.drew from B1.out.drew)
  have e0 := X2.out.cell 0
  have e1 := X2.out.cell 1
  have e2 := X2.out.cell 2
  clear X1 B1
  refine wp_region_held_drew (S := fun W => W.cell? ⟨w.heap.size, 0, none⟩ = some (.int .i64 ya) ∧ W.cell? ⟨w.heap.size, 1, none⟩ = some (.int .i64 yb) ∧ W.cell? ⟨w.heap.size, 2, none⟩ = some (.int .i64 yc)) (by kernel_rfl) (⟨e0, e1, e2⟩) (fun hHeld => ?_)
  generalize w1.drew = wd at *
  refine wpAnyH_take (i := 0) (v := ?_) rfl (by kernel_rfl) (by kernel_rfl) (by kernel_rfl) (fun _ _ _ h => h) (Or.inl ⟨by rfl, ?_⟩) (by assumption) ?_
  rotate_left 1
  · (intro w hSw; (try dsimp only at hSw); go_simp; try with_reducible rfl)
  try simp only [Act.put, List.getElem_toArray, List.getElem_cons_succ, List.getElem_cons_zero, List.setIfInBounds_toArray, List.set_cons_zero, List.set_cons_succ]
  refine wpAnyH_take (i := 1) (v := ?_) rfl (by kernel_rfl) (by kernel_rfl) (by kernel_rfl) (fun _ _ _ h => h) (Or.inl ⟨by rfl, ?_⟩) (by assumption) ?_
  rotate_left 1
  · (intro w hSw; (try dsimp only at hSw); go_simp; try with_reducible rfl)
  try simp only [Act.put, List.getElem_toArray, List.getElem_cons_succ, List.getElem_cons_zero, List.setIfInBounds_toArray, List.set_cons_zero, List.set_cons_succ]
  refine wpAnyH_take (i := 4) (v := ?_) rfl (by kernel_rfl) (by kernel_rfl) (by kernel_rfl) (fun _ _ _ h => h) (Or.inl ⟨by rfl, ?_⟩) (by assumption) ?_
  rotate_left 1
  · (intro w hSw; (try dsimp only at hSw); go_simp; try with_reducible rfl)
  try simp only [Act.put, List.getElem_toArray, List.getElem_cons_succ, List.getElem_cons_zero, List.setIfInBounds_toArray, List.set_cons_zero, List.set_cons_succ]
  refine wpAnyH_take (i := 5) (v := ?_) rfl (by kernel_rfl) (by kernel_rfl) (by kernel_rfl) (fun _ _ _ h => h) (Or.inl ⟨by rfl, ?_⟩) (by assumption) ?_
  rotate_left 1
  · (intro w hSw; (try dsimp only at hSw); go_simp; try with_reducible rfl)
  try simp only [Act.put, List.getElem_toArray, List.getElem_cons_succ, List.getElem_cons_zero, List.setIfInBounds_toArray, List.set_cons_zero, List.set_cons_succ]
  refine wpAnyH_take (i := 9) (v := ?_) rfl (by kernel_rfl) (by kernel_rfl) (by kernel_rfl) (fun _ _ _ h => h) (Or.inl ⟨by rfl, ?_⟩) (by assumption) ?_
  rotate_left 1
  · (intro w hSw; (try dsimp only at hSw); go_simp; try with_reducible rfl)
  try simp only [Act.put, List.getElem_toArray, List.getElem_cons_succ, List.getElem_cons_zero, List.setIfInBounds_toArray, List.set_cons_zero, List.set_cons_succ]
  refine wpAnyH_take (i := 10) (v := ?_) rfl (by kernel_rfl) (by kernel_rfl) (by kernel_rfl) (fun _ _ _ h => h) (Or.inl ⟨by rfl, ?_⟩) (by assumption) ?_
  rotate_left 1
  · (intro w hSw; (try dsimp only at hSw); go_simp; try with_reducible rfl)
  try simp only [Act.put, List.getElem_toArray, List.getElem_cons_succ, List.getElem_cons_zero, List.setIfInBounds_toArray, List.set_cons_zero, List.set_cons_succ]
  refine wpAnyH_ready (rs := [2]) (by kernel_rfl) (by simp) ?_
  refine AllReadyH.cons rfl (fun K hK => ?_) AllReadyH.nil
  try simp only [Act.put, List.getElem_toArray, List.getElem_cons_succ, List.getElem_cons_zero, List.setIfInBounds_toArray, List.set_cons_zero, List.set_cons_succ]
  go_simp
  go_at_call 67
  refine (HA.out _ B2.out).mono ?_
  rintro e w3 ⟨rfl, b3⟩
  have X3 := hide (X2.out.below b3 X2.out.lt)
  have B3 := hide (B2.out.trans (b3.mono B2.out.size))
  have f0 := X3.out.cell 0
  have f1 := X3.out.cell 1
  have f2 := X3.out.cell 2
  clear e0 e1 e2 b3 X2 B2 HA
  dsimp only
  refine hK.out _ _ (⟨f0, f1, f2⟩) (fun hHeld => ?_)
  clear hK K
  try simp only [Act.put, List.getElem_toArray, List.getElem_cons_succ, List.getElem_cons_zero, List.setIfInBounds_toArray, List.set_cons_zero, List.set_cons_succ]
  refine wpAnyH_take (i := 3) (v := ?_) rfl (by kernel_rfl) (by kernel_rfl) (by kernel_rfl) (fun _ _ _ h => h) (Or.inl ⟨by rfl, ?_⟩) (by assumption) ?_
  rotate_left 1
  · (intro w hSw; (try dsimp only at hSw); go_simp; try with_reducible rfl)
  try simp only [Act.put, List.getElem_toArray, List.getElem_cons_succ, List.getElem_cons_zero, List.setIfInBounds_toArray, List.set_cons_zero, List.set_cons_succ]
  refine wpAnyH_ready (rs := [6]) (by kernel_rfl) (by simp) ?_
  refine AllReadyH.cons rfl (fun K hK => ?_) AllReadyH.nil
  try simp only [Act.put, List.getElem_toArray, List.getElem_cons_succ, List.getElem_cons_zero, List.setIfInBounds_toArray, List.set_cons_zero, List.set_cons_succ]
  go_simp
  go_at_call 67
  refine (HB.out _ B3.out).mono ?_
  rintro e w4 ⟨rfl, b4⟩
  have X4 := hide (X3.out.below b4 X3.out.lt)
  have B4 := hide (B3.out.trans (b4.mono B3.out.size))
  have g0 := X4.out.cell 0
  have g1 := X4.out.cell 1
  have g2 := X4.out.cell 2
  clear f0 f1 f2 b4 X3 B3 HB
  dsimp only
  refine hK.out _ _ (⟨g0, g1, g2⟩) (fun hHeld => ?_)
  clear hK K
  try simp only [Act.put, List.getElem_toArray, List.getElem_cons_succ, List.getElem_cons_zero, List.setIfInBounds_toArray, List.set_cons_zero, List.set_cons_succ]
  refine wpAnyH_take (i := 7) (v := ?_) rfl (by kernel_rfl) (by kernel_rfl) (by kernel_rfl) (fun _ _ _ h => h) (Or.inl ⟨by rfl, ?_⟩) (by assumption) ?_
  rotate_left 1
  · (intro w hSw; (try dsimp only at hSw); go_simp; try with_reducible rfl)
  try simp only [Act.put, List.getElem_toArray, List.getElem_cons_succ, List.getElem_cons_zero, List.setIfInBounds_toArray, List.set_cons_zero, List.set_cons_succ]
  refine wpAnyH_take (i := 8) (v := ?_) rfl (by kernel_rfl) (by kernel_rfl) (by kernel_rfl) (fun _ _ _ h => h) (Or.inl ⟨by rfl, ?_⟩) (by assumption) ?_
  rotate_left 1
  · (intro w hSw; (try dsimp only at hSw); go_simp; try with_reducible rfl)
  try simp only [Act.put, List.getElem_toArray, List.getElem_cons_succ, List.getElem_cons_zero, List.setIfInBounds_toArray, List.set_cons_zero, List.set_cons_succ]
  refine wpAnyH_ready (rs := [11]) (by kernel_rfl) (by simp) ?_
  refine AllReadyH.cons rfl (fun K hK => ?_) AllReadyH.nil
  try simp only [Act.put, List.getElem_toArray, List.getElem_cons_succ, List.getElem_cons_zero, List.setIfInBounds_toArray, List.set_cons_zero, List.set_cons_succ]
  go_simp
  go_at_call 67
  refine (HC.out _ B4.out).mono ?_
  rintro e w5 ⟨rfl, b5⟩
  have X5 := hide (X4.out.below b5 X4.out.lt)
  have B5 := hide (B4.out.trans (b5.mono B4.out.size))
  have l0 := X5.out.cell 0
  have l1 := X5.out.cell 1
  have l2 := X5.out.cell 2
  clear g0 g1 g2 b5 X4 B4 HC
  dsimp only
  refine hK.out _ _ (⟨l0, l1, l2⟩) (fun hHeld => ?_)
  clear hK K
  try simp only [Act.put, List.getElem_toArray, List.getElem_cons_succ, List.getElem_cons_zero, List.setIfInBounds_toArray, List.set_cons_zero, List.set_cons_succ]
  refine wpAnyH_take (i := 12) (v := ?_) rfl (by kernel_rfl) (by kernel_rfl) (by kernel_rfl) (fun _ _ _ h => h) (Or.inl ⟨by rfl, ?_⟩) (by assumption) ?_
  rotate_left 1
  · (intro w hSw; (try dsimp only at hSw); go_simp; try with_reducible rfl)
  try simp only [Act.put, List.getElem_toArray, List.getElem_cons_succ, List.getElem_cons_zero, List.setIfInBounds_toArray, List.set_cons_zero, List.set_cons_succ]
  refine wpAnyH_take (i := 13) (v := ?_) rfl (by kernel_rfl) (by kernel_rfl) (by kernel_rfl) (fun _ _ _ h => h) (Or.inl ⟨by rfl, ?_⟩) (by assumption) ?_
  rotate_left 1
  · (intro w hSw; (try dsimp only at hSw); go_simp; try with_reducible rfl)
  try simp only [Act.put, List.getElem_toArray, List.getElem_cons_succ, List.getElem_cons_zero, List.setIfInBounds_toArray, List.set_cons_zero, List.set_cons_succ]
  refine wpAnyH_done (by kernel_rfl) ?_ _
  go_wp2_with fail
  go_ret
  exact ⟨by rw [HE.out]; rfl, B5.out⟩
end Go.Proofs.YtofjnmeblmbnmaaDoor
namespace Go.Proofs.YtofjnmeblmbnmaaDoor
open Go.RowKit
/-- One listed variable's reading. -/
def ReadsV (w : World) (n : String) (d : DataW Unit) : Prop :=
  ∃ g t cs fuel p, (Tryd.prog).globalNamed n = some g ∧ ((Tryd.prog).globals[g]?).map (·.type) = some t ∧ w.var? Tryd.prog n = some cs ∧ DataW.trod (fun _ => ()) Tryd.prog w 0 (fun _ => true) false fuel t cs.toList = some (d, p)
theorem laidVars_reads {w : World} : ∀ {l : List (String × DataW Unit)} {ps : List MemPlace}, DataW.LaidVars Tryd.prog w l ps → ∀ n d, (n, d) ∈ l → ReadsV w n d
  | [], _, _, _, _, hm => by cases hm
  | (n', d') :: r, ps, h, n, d, hm => by
    obtain ⟨g, t, cs, fuel, p, q, h1, h2, h3, h4, h5, _⟩ := h
    rcases List.mem_cons.1 hm with e | e
    · cases e
      exact ⟨g, t, cs, fuel, p, h1, h2, h3, h4⟩
    · exact laidVars_reads h5 n d e
theorem laid_reads {w : World} {l : List (String × DataW Unit)} (h : laidMet Tryd.prog l w) {n : String} {d : DataW Unit} (hm : (n, d) ∈ l) : ReadsV w n d :=
  let ⟨_, hv, _⟩ := h
  laidVars_reads hv n d hm
theorem tab_of_reads {w : World} {n : String} {k : IntKind} {zs : List Int} {g : Nat} {t e : TypeId} {m : Nat} (hg : (Tryd.prog).globalNamed n = some g) (hty : ((Tryd.prog).globals[g]?).map (·.type) = some t) (ht : (Tryd.prog).underlying t = some (.array m e)) (he : (Tryd.prog).underlying e = some (.int k)) (hce : (Tryd.prog).cellsOf e = 1) (hct : (Tryd.prog).cellsOf t = m)
    (h : ReadsV w n (Lib.tabData k zs)) : Lib.TabIs Tryd.prog w n k zs := by
  obtain ⟨g', t', cs, fuel, p, hg', ht', hvar, hd⟩ := h
  obtain rfl := Option.some.inj (hg.symm.trans hg')
  obtain rfl := Option.some.inj (hty.symm.trans ht')
  unfold Lib.TabIs
  rw [hvar, ← Lib.cells_of_tab ht he hce hct hd]
theorem tabW_of {w : World} (h : ReadsV w "internal/strconv.uint64pow10" (Lib.tabData .u64 Lib.pow10Tab)) : TabW w :=
  tab_of_reads (g := 1) (t := 142) (e := 116) (m := 20) (by kernel_rfl) (by kernel_rfl) Tryd.underlying142 Tryd.underlying116 (by kernel_rfl) (by kernel_rfl) h
end Go.Proofs.YtofjnmeblmbnmaaDoor
