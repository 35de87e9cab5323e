/-
  Zones: ways are drawn, changes are drawn and spoilt.
-/
import Derived.Test.YtklfjekpeoigoaaQPressed21
import Derived.Deep.DeepCutAuto
namespace Go.Proofs.Ytklfjekpeoigoaa
open Go.RowKit
set_option maxRecDepth 100000 in
set_option maxHeartbeats 4000000 in
theorem drawWayZ_any (b : Nat) (bs : List Int) (N : Int) (zv : Value) (Ao : Option Addr) (ol co : Nat) (s2 : Value) (bz : Nat) (w : World) (hbs : BsOk bs) (hN : N ≤ 1099509000000) (h : SrcAt b bs N w) (hx : BoxN w bz #[zv, .slice Ao ol co, s2] 114) (hbz : bz ≠ b) (hol : ol ≤ 26) :
    Calls Try.prog 226 #[.pointer (some ⟨b, 0, none⟩), .pointer (some ⟨bz, 0, none⟩)] w fun e w' => ∃ (A' : Option Addr) (c' : Nat) (l : List Int), e = .returned (.slice A' l.length c') ∧ w'.ownsRow w.heap.size 2 1 (.slice A' l.length c') l.length (l.map (Value.int .i64)) ∧ (l.length ≤ 26 ∧ ∀ z ∈ l, -1 ≤ z ∧ z ≤ 26) ∧ SrcAt b bs (N + 100) w' ∧ Only b (b + 1) w w' := by
  obtain ⟨i0, hi0, hz0, hs0, hb0⟩ := info_parts int64_info
  have hbl := h.lt
  have HP := hide fun M n W (hM : M ≤ 1099511000000) (hW : SrcAt b bs M W) => pick_any b bs M n W hbs hM hW
  have HO1 := hide fun M n W (hM : M ≤ 1099511000000) (hW : SrcAt b bs M W) => one_any b bs M n W hbs hM hW
  have HAM := hide fun M g o c xs W (hM : M ≤ 1099511000000) (hW : SrcAt b bs M W) => among_any b bs M g o c xs W hbs hM hW
  have hxl0 := hx.lt
  have X0 := hide (hx.alloc (.cells #[] 2))
  have H0 := hide (h.alloc (.cells #[] 2))
  have R0 := hide (own_new0 w w.heap.size 2 1 (Nat.le_refl _))
  have O0 := hide (only_alloc (only_refl b (b + 1) w) (.cells #[] 2))
  clear h hx
  go_enter Try.func226, Try.ntmps226
  go_upto_region 2 with fail
  generalize w.alloc (.cells #[] 2) = w0 at *
  have HC1 := hide (HP.out N 5 w0 (by omega) H0.out)
  go_upto_region 3 with (go_at_call 134; (with_reducible refine (HC1.out).mono ?_); rintro e w1 ⟨y, rfl, ⟨hy0, hy1', _⟩, hs1, ho1⟩)
  have hy1 := hy1' (by omega)
  obtain ⟨y0, rfl⟩ := Int.eq_ofNat_of_zero_le hy0
  have X1 := hide (X0.out.only ho1 (by omega))
  have S1 := hide hs1
  have R1 := hide (row_only R0.out ho1 (by omega))
  have O1 := hide (only_trans O0.out ho1)
  clear hs1 ho1 hy1' HC1 X0 H0 R0 O0
  go_upto_if 12 with (go_at_call 133; (with_reducible refine (HO1.out (N + 2) 20 _ (by omega) S1.out).mono ?_); rintro e w2 ⟨v, rfl, hs2, ho2⟩)
  have X2 := hide (X1.out.only ho2 (by omega))
  have S2 := hide hs2
  have R2 := hide (row_only R1.out ho2 (by omega))
  have O2 := hide (only_trans O1.out ho2)
  clear hs2 ho2 X1 S1 R1 O1
  go_cut [6] (fun nv wx => ∃ n : Nat, nv = .int .i64 n ∧ n ≤ 25 ∧ Hid (BoxN wx bz #[zv, .slice Ao ol co, s2] 114) ∧ Hid (SrcAt b bs (N + 6) wx) ∧ Hid (wx.ownsRow w.heap.size 2 1 (.slice (some ⟨w.heap.size, 0, none⟩) 0 0) 0 (([] : List Int).map (Value.int .i64))) ∧ Hid (Only b (b + 1) w wx))
  case first =>
    cases v
    · go_wp2_with fail
      go_meet
      exact ⟨y0, rfl, by omega, X2, S2.out.more (by omega), R2, O2⟩
    · have HC := hide (HP.out (N + 2 + 2) 2 w2 (by omega) S2.out)
      go_wp2_with (go_at_call 134; (with_reducible refine (HC.out).mono ?_); rintro e w3 ⟨q, rfl, ⟨hq0, hq1', _⟩, hs3, ho3⟩; have hq1 := hq1' (by omega); have hwq : IntKind.i64.wrap (24 + q) = 24 + q := (by rw [IntKind.wrap_i64] <;> omega))
      go_meet
      exact ⟨(24 + q).toNat, by rw [Int.toNat_of_nonneg (by omega)], by omega, X2.out.only ho3 (by omega), hs3.more (by omega), row_only R2.out ho3 (by omega), only_trans O2.out ho3⟩
  case rest =>
    obtain ⟨n, rfl, hn25, XC, SC, RC, OC⟩ := hcut
    clear X2 S2 R2 O2
    go_wp2_with fail
    go_loopg [5, 7] n (fun g s i wr => ∃ (k : Nat) (acc : List Int) (A' : Option Addr) (c' : Nat), Hid (g = k) ∧ i = .int .i64 k ∧ k + acc.length ≤ 25 ∧ s = .slice A' acc.length c' ∧ Hid (wr.ownsRow w.heap.size 2 1 (.slice A' acc.length c') acc.length (acc.map (Value.int .i64))) ∧ Hid (∀ z ∈ acc, 0 ≤ z ∧ z ≤ 26) ∧ Hid (BoxN wr bz #[zv, .slice Ao ol co, s2] 114) ∧ Hid (SrcAt b bs (N + 6 + 2 * (acc.length : Int)) wr) ∧ Hid (Only b (b + 1) w wr))
    case atStart => exact ⟨n, [], some ⟨w.heap.size, 0, none⟩, 0, rfl, rfl, by simp; omega, rfl, RC, by simp [Hid], XC, SC.out.more (by simp), OC⟩
    case round =>
      obtain ⟨k, acc, A', c', hg, rfl, hka, rfl, HOW, HA, HX, HS, HO⟩ := hrel
      clear XC SC RC OC
      have x1 := HX.out.cell 1
      have hzw := HO.out.size
      have hxl := HX.out.lt
      by_cases hgo : 0 < k ∧ 0 < ol
      · obtain ⟨hk0, hol0⟩ := hgo
        have hk0i : (0 : Int) < (k : Int) := by omega
        have hol0i : (0 : Int) < (ol : Int) := by omega
        have HC := hide (HP.out (N + 6 + 2 * (acc.length : Int)) (ol : Int) _ (by omega) HS.out)
        go_wp2_with (first | (go_at_call 134; (with_reducible refine (HC.out).mono ?_); rintro e w3 ⟨q, rfl, ⟨hq0, hq1', _⟩, hs3, ho3⟩; have hq1 := hq1' (by omega); have hr3 := row_only HOW.out ho3 (by omega); have oo3 := only_trans HO.out ho3; have hz3 := ho3.size) | (at_builtin; go_must (refine wp_app _ rfl _ _ 22 rfl (w.heap.size) 2 i0 (.int .i64 0) 1 8 Try.underlying22 hi0 hz0 hs0 hb0 rfl (by decide) _ _ _ rfl (hr3.alloc _) _ _ 1 1 [.int .i64 q] rfl rfl (rd_new _ _ _ _ (by first | rfl | simp)) (int_one _) (by omega) (by decide) (by first | omega | (simp <;> omega) | (simp; omega)) ?_); intro v4 w4 hown4 hgrow4 hat4))
        have oA := hr3.alloc (.cells #[.int .i64 q] 2)
        have O4 := only_app (only_alloc oo3 (.cells #[.int .i64 q] 2)) oA hgrow4 (by omega)
        have S4 := (hs3.alloc (.cells #[.int .i64 q] 2)).grown hgrow4 (fun g e => by have := (oA.lt g e).1; omega)
        have hx4 : BoxN w4 bz #[zv, .slice Ao ol co, s2] 114 := (hgrow4.block _ ((HX.out.only ho3 (by omega)).alloc (.cells #[.int .i64 q] 2)).lt (fun e => by have := (oA.lt _ e.symm).1; omega)).trans ((HX.out.only ho3 (by omega)).alloc (.cells #[.int .i64 q] 2))
        obtain ⟨A9, c9, rfl, _⟩ := own_shape hown4
        go_roundg (k - 1)
        case measure => have := hg.out; omega
        case rel =>
          refine ⟨k - 1, acc ++ [q], A9, c9, rfl, by congr 1; omega, by simp; omega, by simp, by simpa [Hid] using hown4, hide fun z hz => ?_, hx4, S4.more (by simp; omega), O4⟩
          rcases List.mem_append.1 hz with hz | hz
          · exact HA.out z hz
          · rw [List.mem_singleton] at hz; subst hz; omega
      · have HNG := hide hgo
        have hacc : acc.length ≤ 25 := by omega
        have HC := hide (HO1.out (N + 6 + 2 * (acc.length : Int)) 12 _ (by omega) HS.out)
        have hside : k = 0 ∨ (0 < k ∧ ol = 0) := by omega
        clear hgo
        rcases hside with hk | ⟨hk0, ho0⟩
        · subst hk
          go_upto_if 40 with (go_at_call 133; (with_reducible refine (HC.out).mono ?_); rintro e w5 ⟨v, rfl, hs5, ho5⟩)
          have X5 := hide (HX.out.only ho5 (by omega))
          have S5 := hide hs5
          have hr5 := hide (row_only HOW.out ho5 (by omega))
          have O5 := hide (only_trans HO.out ho5)
          have hz5 := ho5.size
          clear hs5 ho5 x1 HC
          cases v
          · go_wp2_with fail
            go_ret
            exact ⟨A', c', acc, rfl, hr5.out, ⟨by omega, fun z hz => by have := HA.out z hz; omega⟩, S5.out.more (by omega), O5.out⟩
          · have x5 := X5.out.cell 1
            have hbz5 := X5.out.lt
            have S6 := hide (S5.out.alloc (.cells #[.int .i64 (-1), .int .i64 (ol : Int)] 2))
            have ham : Calls Try.prog 150 #[.pointer (some ⟨b, 0, none⟩), .slice (some ⟨w5.heap.size, 0, none⟩) 2 2] (w5.alloc (.cells #[.int .i64 (-1), .int .i64 (ol : Int)] 2)) fun e w' => ∃ z, e = .returned (.int .i64 z) ∧ z ∈ ([(-1), (ol : Int)] : List Int) ∧ SrcAt b bs (N + 6 + 2 * (acc.length : Int) + 2 + 2) w' ∧ Only b (b + 1) (w5.alloc (.cells #[.int .i64 (-1), .int .i64 (ol : Int)] 2)) w' := HAM.out (N + 6 + 2 * (acc.length : Int) + 2) w5.heap.size 0 2 ([(-1), (ol : Int)] : List Int) _ (by omega) S6.out (by omega) (by simp) (by simp) (by simp) (fun j z hj => by
                match j, hj with
                | 0, hj => simp at hj; subst hj; simp [go_sem]
                | 1, hj => simp at hj; subst hj; simp [go_sem]
                | j + 2, hj => simp at hj)
            have H6 := hide ham
            clear ham
            have O6 := hide (only_alloc O5.out (.cells #[.int .i64 (-1), .int .i64 (ol : Int)] 2))
            have R6 := hide (hr5.out.alloc (.cells #[.int .i64 (-1), .int .i64 (ol : Int)] 2))
            have hz6 : w5.heap.size + 1 ≤ (w5.alloc (.cells #[.int .i64 (-1), .int .i64 (ol : Int)] 2)).heap.size := by simp
            go_wp2_with (first | (go_at_call 150; (with_reducible refine (H6.out).mono ?_); rintro e w7 ⟨z, rfl, hz, hs7, ho7⟩; have hr7 := row_only R6.out ho7 (by omega); have oo7 := only_trans O6.out ho7; have hz7 := ho7.size) | (at_builtin; go_must (refine wp_app _ rfl _ _ 22 rfl (w.heap.size) 2 i0 (.int .i64 0) 1 8 Try.underlying22 hi0 hz0 hs0 hb0 rfl (by decide) _ _ _ rfl (hr7.alloc _) _ _ 1 1 [.int .i64 z] rfl rfl (rd_new _ _ _ _ (by first | rfl | simp)) (int_one _) (by omega) (by decide) (by first | omega | (simp <;> omega) | (simp; omega)) ?_); intro v8 w8 hown8 hgrow8 hat8))
            have hzb : -1 ≤ z ∧ z ≤ 26 := by simp at hz; omega
            have oA := hr7.alloc (.cells #[.int .i64 z] 2)
            have O8 := only_app (only_alloc oo7 (.cells #[.int .i64 z] 2)) oA hgrow8 (by omega)
            have S8 := (hs7.alloc (.cells #[.int .i64 z] 2)).grown hgrow8 (fun g e => by have := (oA.lt g e).1; omega)
            obtain ⟨A9, c9, rfl, _⟩ := own_shape hown8
            go_ret
            have hl : (acc ++ [z]).length = acc.length + 1 := by simp
            refine ⟨A9, c9, acc ++ [z], by rw [hl]; rfl, by rw [hl, List.map_append]; exact hown8, ⟨by omega, fun u hu => ?_⟩, S8.more (by omega), O8⟩
            rcases List.mem_append.1 hu with hu | hu
            · have := HA.out u hu; omega
            · rw [List.mem_singleton] at hu; subst hu; exact hzb
        · subst ho0
          have hk0i : (0 : Int) < (k : Int) := by omega
          go_upto_if 40 with (go_at_call 133; (with_reducible refine (HC.out).mono ?_); rintro e w5 ⟨v, rfl, hs5, ho5⟩)
          have X5 := hide (HX.out.only ho5 (by omega))
          have S5 := hide hs5
          have hr5 := hide (row_only HOW.out ho5 (by omega))
          have O5 := hide (only_trans HO.out ho5)
          have hz5 := ho5.size
          clear hs5 ho5 x1 HC
          cases v
          · go_wp2_with fail
            go_ret
            exact ⟨A', c', acc, rfl, hr5.out, ⟨by omega, fun z hz => by have := HA.out z hz; omega⟩, S5.out.more (by omega), O5.out⟩
          · have x5 := X5.out.cell 1
            have hbz5 := X5.out.lt
            have S6 := hide (S5.out.alloc (.cells #[.int .i64 (-1), .int .i64 0] 2))
            have ham : Calls Try.prog 150 #[.pointer (some ⟨b, 0, none⟩), .slice (some ⟨w5.heap.size, 0, none⟩) 2 2] (w5.alloc (.cells #[.int .i64 (-1), .int .i64 0] 2)) fun e w' => ∃ z, e = .returned (.int .i64 z) ∧ z ∈ ([(-1), 0] : List Int) ∧ SrcAt b bs (N + 6 + 2 * (acc.length : Int) + 2 + 2) w' ∧ Only b (b + 1) (w5.alloc (.cells #[.int .i64 (-1), .int .i64 0] 2)) w' := HAM.out (N + 6 + 2 * (acc.length : Int) + 2) w5.heap.size 0 2 ([(-1), 0] : List Int) _ (by omega) S6.out (by omega) (by simp) (by simp) (by simp) (fun j z hj => by
                match j, hj with
                | 0, hj => simp at hj; subst hj; simp [go_sem]
                | 1, hj => simp at hj; subst hj; simp [go_sem]
                | j + 2, hj => simp at hj)
            have H6 := hide ham
            clear ham
            have O6 := hide (only_alloc O5.out (.cells #[.int .i64 (-1), .int .i64 0] 2))
            have R6 := hide (hr5.out.alloc (.cells #[.int .i64 (-1), .int .i64 0] 2))
            have hz6 : w5.heap.size + 1 ≤ (w5.alloc (.cells #[.int .i64 (-1), .int .i64 0] 2)).heap.size := by simp
            go_wp2_with (first | (go_at_call 150; (with_reducible refine (H6.out).mono ?_); rintro e w7 ⟨z, rfl, hz, hs7, ho7⟩; have hr7 := row_only R6.out ho7 (by omega); have oo7 := only_trans O6.out ho7; have hz7 := ho7.size) | (at_builtin; go_must (refine wp_app _ rfl _ _ 22 rfl (w.heap.size) 2 i0 (.int .i64 0) 1 8 Try.underlying22 hi0 hz0 hs0 hb0 rfl (by decide) _ _ _ rfl (hr7.alloc _) _ _ 1 1 [.int .i64 z] rfl rfl (rd_new _ _ _ _ (by first | rfl | simp)) (int_one _) (by omega) (by decide) (by first | omega | (simp <;> omega) | (simp; omega)) ?_); intro v8 w8 hown8 hgrow8 hat8))
            have hzb : -1 ≤ z ∧ z ≤ 26 := by simp at hz; omega
            have oA := hr7.alloc (.cells #[.int .i64 z] 2)
            have O8 := only_app (only_alloc oo7 (.cells #[.int .i64 z] 2)) oA hgrow8 (by omega)
            have S8 := (hs7.alloc (.cells #[.int .i64 z] 2)).grown hgrow8 (fun g e => by have := (oA.lt g e).1; omega)
            obtain ⟨A9, c9, rfl, _⟩ := own_shape hown8
            go_ret
            have hl : (acc ++ [z]).length = acc.length + 1 := by simp
            refine ⟨A9, c9, acc ++ [z], by rw [hl]; rfl, by rw [hl, List.map_append]; exact hown8, ⟨by omega, fun u hu => ?_⟩, S8.more (by omega), O8⟩
            rcases List.mem_append.1 hu with hu | hu
            · have := HA.out u hu; omega
            · rw [List.mem_singleton] at hu; subst hu; exact hzb
end Go.Proofs.Ytklfjekpeoigoaa
