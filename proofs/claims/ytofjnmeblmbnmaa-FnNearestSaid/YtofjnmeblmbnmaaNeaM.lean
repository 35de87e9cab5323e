/-
  Drawn words.
-/
import Derived.Test.YtofjnmeblmbnmaaNeaL
import Derived.Test.YtofjnmeblmbnmaaSrc12
import Derived.Test.YtofjnmeblmbnmaaByteW
namespace Go.Proofs.Ytofjnmeblmbnmaa
open Go.RowKit
set_option maxRecDepth 100000 in
set_option maxHeartbeats 1000000 in
theorem textS_any (b : Nat) (bs : List Int) (N : Int) (g o c : Nat) (xs : List ByteArray) (w : World) (hbs : BsOk bs) (hN : N ≤ 1099511000000) (h : SrcAt b bs N w) (hg : g ≠ b) (hgl : g < w.heap.size) (hx0 : 1 ≤ xs.length) (hx1 : xs.length ≤ 1000) (hr : ∀ j z, xs[j]? = some z → w.cell? ⟨g, o + j, none⟩ = some (.string z)) :
    Calls Try.prog 26 #[.pointer (some ⟨b, 0, none⟩), .slice (some ⟨g, o, none⟩) xs.length c] w fun e w' => ∃ z, e = .returned (.string z) ∧ z ∈ xs ∧ SrcAt b bs (N + 2) w' ∧ Only b (b + 1) w w' := by
  have HC := hide (pick_any b bs N (xs.length : Int) w hbs hN h)
  have HR := hide hr
  clear h hr
  go_enter Try.func26, Try.ntmps26
  go_wp2_with (go_at_call 38; refine (HC.out).mono ?_; rintro e w1 ⟨z, rfl, ⟨hz0, hz1, _⟩, hs1, ho1⟩; have hz9 := hz1 (by omega); obtain ⟨j, rfl⟩ := Int.eq_ofNat_of_zero_le hz0; have hj : j < xs.length := (by omega); have hej := List.getElem?_eq_getElem hj; have hcj := (ho1.cell' (p := ⟨g, o + j, none⟩) hgl (by dsimp only; omega)).trans (HR.out j _ hej); have HEJ := hide hej; clear hej)
  go_ret
  exact ⟨_, rfl, List.mem_of_getElem? HEJ.out, hs1, ho1⟩
set_option maxRecDepth 100000 in
set_option maxHeartbeats 4000000 in
theorem drawWord_any (b : Nat) (bs : List Int) (N signs : Int) (rn : Nat) (w : World) (hbs : BsOk bs) (hN : N ≤ 1099510000000) (hsg : 1 ≤ signs ∧ signs ≤ 100) (hrn : rn ≤ 10) (h : SrcAt b bs N w) :
    Calls Try.prog 27 #[.pointer (some ⟨b, 0, none⟩), .int .i64 signs, .int .i64 (rn : Int)] w fun e w' => ∃ s, e = .returned (.string s) ∧ s.size = rn ∧ SrcAt b bs (N + 20) w' ∧ Only b (b + 1) w w' := by
  obtain ⟨i0, hi0, hz0, hs0, hb0⟩ := info_parts uint8_info
  have hbl := h.lt
  have HP := hide fun M n W (hM : M ≤ 1099511000000) (hW : SrcAt b bs M W) => pick_any b bs M n W hbs hM hW
  have h1 := hide (h.alloc (.cells #[] 5))
  have ho1 := hide (own_new0 w w.heap.size 5 1 (Nat.le_refl _))
  have hB1 : Hid (Only b (b + 1) w (w.alloc (.cells #[] 5))) := hide (only_of_below ((Below.refl _ _).alloc (Nat.le_refl _) _))
  obtain ⟨hsg1, hsg2⟩ := hsg
  clear h
  go_enter Try.func27, Try.ntmps27
  go_wp2_with fail
  go_loopg [7, 8] rn (fun g s i wr => ∃ (k : Nat) (l : List UInt8) (gb cb : Nat), g = rn - k ∧ k ≤ rn ∧ i = .int .i64 k ∧ Hid (l.length = k) ∧ s = .slice (some ⟨gb, 0, none⟩) k cb ∧ Hid (wr.ownsRow w.heap.size 5 1 (.slice (some ⟨gb, 0, none⟩) k cb) k (bcs l)) ∧ Hid (SrcAt b bs (N + 2 * (k : Int)) wr) ∧ Hid (Only b (b + 1) w wr))
  case atStart => exact ⟨0, [], w.heap.size, 0, by omega, by omega, rfl, hide rfl, rfl, hide (by simpa [bcs] using ho1.out), hide (h1.out.more (by omega)), hB1⟩
  case round =>
    obtain ⟨k, l, gb, cb, hg, hk, rfl, HL, rfl, HO, HS, HW⟩ := hrel
    have HG := hide hg
    clear h1 ho1 hB1 hg
    by_cases hlt : k < rn
    · have hkn : (k : Int) < (rn : Int) := by omega
      have hzw := HW.out.size
      have HC := hide (HP.out (N + 2 * (k : Int)) signs wr (by omega) HS.out)
      go_wp2_with (first | (go_at_call 38; (with_reducible refine (HC.out).mono ?_); rintro e w2 ⟨y, rfl, ⟨hy0, hy1', _⟩, hs2, ho2⟩; have hy1 := hy1' (by omega); have hw8 : IntKind.u8.wrap (97 + y) = 97 + y := (by simp [IntKind.wrap, IntKind.bits, IntKind.signed]; omega); have HS2 := hide hs2; have HO2 := hide ho2; clear hs2 ho2 hy1') | (at_builtin; refine Hid.out ?_))
      refine hide ?_
      obtain ⟨yn, rfl⟩ := Int.eq_ofNat_of_zero_le hy0
      have hr2 := row_only HO.out HO2.out (by omega)
      have hz2 := HO2.out.size
      refine wp_app _ rfl _ _ 22 rfl w.heap.size 5 i0 (.int .u8 0) 1 1 Try.underlying22 hi0 hz0 hs0 hb0 rfl (by decide) (.slice (some ⟨gb, 0, none⟩) k cb) k _ rfl (hr2.alloc _) _ _ 1 1 [.int .u8 (97 + (yn : Int))] rfl rfl (rd_new _ _ _ _ ?c1) (byte_one _) ?c2 (by decide) ?c3 ?_
      case c1 => simp
      case c2 => omega
      case c3 => simp; omega
      intro v4 w4 hown4 hgrow4 hat4
      have oA := hr2.alloc (.cells #[.int .u8 (97 + (yn : Int))] 5)
      have o4 := hide (only_app (only_alloc (only_trans HW.out HO2.out) (.cells #[.int .u8 (97 + (yn : Int))] 5)) oA hgrow4 (Nat.le_refl _))
      have s4 := hide ((HS2.out.alloc (.cells #[.int .u8 (97 + (yn : Int))] 5)).grown hgrow4 (fun g e => by have := (oA.lt g e).1; omega))
      have h4 : w4.ownsRow w.heap.size 5 1 v4 (k + 1) (bcs (l ++ [UInt8.ofNat (97 + yn)])) := by
        rw [← bcs_snoc l (show 97 + yn ≤ 255 by omega)]
        exact hown4
      obtain ⟨A9, c9, rfl, _⟩ := own_shape h4
      obtain ⟨g9, rfl, _, _⟩ : ∃ g, A9 = some ⟨g, 0, none⟩ ∧ w.heap.size ≤ g ∧ g < w4.heap.size := by
        rcases own_block h4 with ⟨_, h0, _⟩ | h0
        · omega
        · exact h0
      have HO4 := hide h4
      clear hown4 hgrow4 hat4 h4 oA hr2 hw8
      go_wp2_with fail
      go_roundg (rn - (k + 1))
      case measure => have := HG.out; omega
      case rel => exact ⟨k + 1, l ++ [UInt8.ofNat (97 + yn)], g9, c9, rfl, by omega, by go_num, hide (by rw [List.length_append, HL.out]; rfl), rfl, HO4, hide (s4.out.more (by omega)), o4⟩
    · obtain rfl : k = rn := by omega
      have hcv := run_convert_bytes_back (P := Try.prog) wr 22 9 5 ⟨gb, 0, none⟩ cb l Try.underlying22 Try.underlying5 Try.underlying9 (fun j hj => HO.out.cells (g := gb) rfl j _ (by unfold bcs; rw [List.getElem?_map, List.getElem?_eq_getElem hj]; rfl))
      rw [HL.out] at hcv
      go_wp2_with fail
      go_ret
      exact ⟨_, rfl, HL.out, HS.out.more (by omega), HW.out⟩
end Go.Proofs.Ytofjnmeblmbnmaa
