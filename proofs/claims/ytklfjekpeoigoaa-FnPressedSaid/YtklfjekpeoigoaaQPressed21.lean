/-
  A stock and what is wanted, and what goes with them, are drawn.
  Zones: ticks, zones, levels and ways are drawn.
  Zones: changes are drawn and spoilt.
-/
import Derived.Test.YtklfjekpeoigoaaQPressed20
import Derived.Test.YtklfjekpeoigoaaQPressed18
import Derived.Deep.DeepCutAuto
import Derived.Deep.RegionHeld3
import Derived.Test.YtklfjekpeoigoaaQPressed17
namespace Go.Proofs.Ytklfjekpeoigoaa
open Go.RowKit
theorem rdI_new {w W : World} {b : Nat} {xs : List Int} (hb : b < w.heap.size) (hW : Only b (b + 1) (w.alloc (.cells (xs.map (Value.int .i64)).toArray 2)) W) : RdI W W.heap.size (some ⟨w.heap.size, 0, none⟩) xs := fun _ => by
  have X := (BoxN.new w (xs.map (Value.int .i64)).toArray 2).only hW (.inr hb)
  refine ⟨w.heap.size, 0, rfl, X.lt, fun j u hj => ?_⟩
  rw [Nat.zero_add, X.cell]
  simpa using hj
theorem only_refl (lo hi : Nat) (w : World) : Only lo hi w w := only_of_below (Below.refl _ _)
set_option maxRecDepth 100000 in
set_option maxHeartbeats 4000000 in
theorem both07_any (bs : List Int) (A : Option Addr) (c : Nat) (w : World) (hbs : BsOk bs) (h1 : RdB w w.heap.size A bs) :
    Calls Try.prog 136 #[.slice A bs.length c] w fun e w' => ∃ (A1 : Option Addr) (c1 : Nat) (st : List Int) (A2 : Option Addr) (c2 : Nat) (wa : List Int), e = .returned (.tuple #[.slice A1 st.length c1, .slice A2 wa.length c2]) ∧ RdI w' w'.heap.size A1 st ∧ RdI w' w'.heap.size A2 wa ∧ ((1 ≤ st.length ∧ st.length ≤ 11) ∧ ∀ z ∈ st, -9223372036854775808 ≤ z ∧ z ≤ 9223372036854775807) ∧ (wa.length ≤ 11 ∧ ∀ z ∈ wa, -1 ≤ z ∧ z ≤ 201) ∧ Below w.heap.size w w' := by
  have HF := hide (l00From_any bs A c w hbs.1 h1)
  have HD := hide fun W (hW : SrcAt w.heap.size bs 0 W) => draw07_any w.heap.size bs 0 W hbs (by omega) hW
  have HWA := hide fun n A0 c0 W (h1 : 1 ≤ n) (h2 : n ≤ 11) (hW : SrcAt w.heap.size bs (0 + 20) W) => drawWants_any w.heap.size bs (0 + 20) n A0 c0 W hbs (by omega) h1 h2 hW
  clear h1
  go_enter Try.func136, Try.ntmps136
  go_wp2_with (first | (go_at_call 130; (with_reducible refine (HF.out).mono ?_); rintro e w1 ⟨rfl, hs1, hz1, hb1⟩; have HS := hide hs1; have hz1a := Nat.le_of_eq hz1.symm; have HB1 := hide hb1; clear hs1 hz1 hb1) | (go_at_call 131; (with_reducible refine (HD.out _ HS.out).mono ?_); rintro e w2 ⟨A1, c1, st, rfl, hown, hst, hs2, ho2⟩; have HS2 := hide hs2; have HR := hide hown; have HST := hide hst; have h11 := hst.1.1; have h12 := hst.1.2; have HB2 := hide (below_src' HB1.out ho2); have hz2 := ho2.size; clear hs2 hown hst ho2) | (go_at_call 132; (with_reducible refine (HWA.out st.length _ _ _ h11 h12 HS2.out).mono ?_); rintro e w3 ⟨A2, c2, wa, rfl, hra, hwa, hs3, ho3⟩))
  go_ret2
  exact ⟨A1, c1, st, A2, c2, wa, rfl, RdI.of_own (row_only HR.out ho3 (by omega)), hra w3 (only_refl _ _ _), HST.out, hwa, below_src' HB2.out ho3⟩
set_option maxRecDepth 100000 in
set_option maxHeartbeats 4000000 in
theorem drawMovesBack_any (bs : List Int) (A : Option Addr) (c : Nat) (w : World) (hbs : BsOk bs) (h1 : RdB w w.heap.size A bs) :
    Calls Try.prog 25 #[.slice A bs.length c] w fun e w' => ∃ (A1 : Option Addr) (c1 : Nat) (st : List Int) (A2 : Option Addr) (c2 : Nat) (wa : List Int), e = .returned (.tuple #[.slice A1 st.length c1, .slice A2 wa.length c2]) ∧ RdI w' w'.heap.size A1 st ∧ RdI w' w'.heap.size A2 wa ∧ ((1 ≤ st.length ∧ st.length ≤ 11) ∧ ∀ z ∈ st, -9223372036854775808 ≤ z ∧ z ≤ 9223372036854775807) ∧ (wa.length ≤ 11 ∧ ∀ z ∈ wa, -1 ≤ z ∧ z ≤ 201) ∧ Below w.heap.size w w' := by
  have HB := hide (both07_any bs A c w hbs h1)
  clear h1
  go_enter Try.func25, Try.ntmps25
  go_wp2_with (go_at_call 136; (with_reducible refine (HB.out).mono ?_); rintro e w3 ⟨A1, c1, st, A2, c2, wa, rfl, hr1, hr2, hst, hwa, hb⟩)
  go_ret2
  exact ⟨A1, c1, st, A2, c2, wa, rfl, hr1, hr2, hst, hwa, hb⟩
set_option maxRecDepth 100000 in
set_option maxHeartbeats 4000000 in
theorem drawSendAll_any (bs : List Int) (A : Option Addr) (c : Nat) (w : World) (hbs : BsOk bs) (h1 : RdB w w.heap.size A bs) :
    Calls Try.prog 30 #[.slice A bs.length c] w fun e w' => ∃ (A1 : Option Addr) (c1 : Nat) (st : List Int) (A2 : Option Addr) (c2 : Nat) (ms : List T3), e = .returned (.tuple #[.slice A1 st.length c1, .slice A2 ms.length c2]) ∧ RdI w' w'.heap.size A1 st ∧ Rd3 w' w'.heap.size A2 ms ∧ ((1 ≤ st.length ∧ st.length ≤ 11) ∧ ∀ z ∈ st, -9223372036854775808 ≤ z ∧ z ≤ 9223372036854775807) ∧ (ms.length ≤ 41 ∧ ∀ z ∈ ms, MvOk st.length z) ∧ Below w.heap.size w w' := by
  have HF := hide (l00From_any bs A c w hbs.1 h1)
  have HD := hide fun W (hW : SrcAt w.heap.size bs 0 W) => draw07_any w.heap.size bs 0 W hbs (by omega) hW
  have HMV := hide fun sn W (h1 : 1 ≤ sn) (h2 : sn ≤ 1000) (hW : SrcAt w.heap.size bs (0 + 20) W) => drawMoves_any w.heap.size bs (0 + 20) sn W hbs (by omega) h1 h2 hW
  clear h1
  go_enter Try.func30, Try.ntmps30
  go_wp2_with (first | (go_at_call 130; (with_reducible refine (HF.out).mono ?_); rintro e w1 ⟨rfl, hs1, hz1, hb1⟩; have HS := hide hs1; have hz1a := Nat.le_of_eq hz1.symm; have HB1 := hide hb1; clear hs1 hz1 hb1) | (go_at_call 131; (with_reducible refine (HD.out _ HS.out).mono ?_); rintro e w2 ⟨A1, c1, st, rfl, hown, hst, hs2, ho2⟩; have HS2 := hide hs2; have HR := hide hown; have HST := hide hst; have h11 := hst.1.1; have h12 := hst.1.2; have HB2 := hide (below_src' HB1.out ho2); have hz2 := ho2.size; clear hs2 hown hst ho2) | (go_at_call 140; (with_reducible refine (HMV.out st.length _ (by omega) (by omega) HS2.out).mono ?_); rintro e w3 ⟨A2, c2, ms, rfl, hown3, hms, hs3, ho3⟩))
  go_ret2
  exact ⟨A1, c1, st, A2, c2, ms, rfl, RdI.of_own (row_only HR.out ho3 (by omega)), Rd.of_own hown3, HST.out, hms, below_src' HB2.out ho3⟩
set_option maxRecDepth 100000 in
set_option maxHeartbeats 4000000 in
theorem drawBestMoves_any (bs : List Int) (A : Option Addr) (c : Nat) (w : World) (hbs : BsOk bs) (h1 : RdB w w.heap.size A bs) :
    Calls Try.prog 24 #[.slice A bs.length c] w fun e w' => ∃ (A1 : Option Addr) (c1 : Nat) (st : List Int) (A2 : Option Addr) (c2 : Nat) (wa : List Int) (A3 : Option Addr) (c3 : Nat) (l : List TN), e = .returned (.tuple #[.slice A1 st.length c1, .slice A2 wa.length c2, .slice A3 l.length c3]) ∧ RdI w' w'.heap.size A1 st ∧ RdI w' w'.heap.size A2 wa ∧ R_Int64SS w' w'.heap.size (.slice A3 l.length c3) l ∧ ((1 ≤ st.length ∧ st.length ≤ 11) ∧ ∀ z ∈ st, -9223372036854775808 ≤ z ∧ z ≤ 9223372036854775807) ∧ (wa.length ≤ 11 ∧ ∀ z ∈ wa, -9223372036854775808 ≤ z ∧ z ≤ 9223372036854775807) ∧ (SmallN l ∧ ∀ e ∈ l, e.Fits) ∧ Below w.heap.size w w' := by
  have HF := hide (l00From_any bs A c w hbs.1 h1)
  have HD := hide fun W (hW : SrcAt w.heap.size bs 0 W) => draw07_any w.heap.size bs 0 W hbs (by omega) hW
  have HWA := hide fun n A0 c0 W (h1 : 1 ≤ n) (h2 : n ≤ 11) (hW : SrcAt w.heap.size bs (0 + 20) W) => drawWants_any w.heap.size bs (0 + 20) n A0 c0 W hbs (by omega) h1 h2 hW
  have HP := hide fun M n W (hM : M ≤ 1099511000000) (hW : SrcAt w.heap.size bs M W) => pick_any w.heap.size bs M n W hbs hM hW
  have HO1 := hide fun M n W (hM : M ≤ 1099511000000) (hW : SrcAt w.heap.size bs M W) => one_any w.heap.size bs M n W hbs hM hW
  have HCO := hide fun n W (h1 : 1 ≤ n) (h2 : n ≤ 11) (hW : SrcAt w.heap.size bs 100 W) => drawCosts_any w.heap.size bs 100 n W hbs (by omega) h1 h2 hW
  clear h1
  go_enter Try.func24, Try.ntmps24
  go_upto_if 16 with (first | (go_at_call 130; (with_reducible refine (HF.out).mono ?_); rintro e w1 ⟨rfl, hs1, hz1, hb1⟩; have HS := hide hs1; have hz1a := Nat.le_of_eq hz1.symm; have HB1 := hide hb1; clear hs1 hz1 hb1) | (go_at_call 131; (with_reducible refine (HD.out _ HS.out).mono ?_); rintro e w2 ⟨A1, c1, st, rfl, hown, hst, hs2, ho2⟩; have HS2 := hide hs2; have HR := hide hown; have HST := hide hst; have h11 := hst.1.1; have h12 := hst.1.2; have HB2 := hide (below_src' HB1.out ho2); have hz2 := ho2.size; clear hs2 hown hst ho2) | (go_at_call 132; (with_reducible refine (HWA.out st.length _ _ _ h11 h12 HS2.out).mono ?_); rintro e w3 ⟨A2, c2, wa, rfl, hra, hwa, hs3, ho3⟩; have HRA := hide hra; have HWW := hide hwa; have HS3 := hide hs3; have HB3 := hide (below_src' HB2.out ho3); have hz3 := ho3.size; have HR3 := hide (row_only HR.out ho3 (by omega)); clear hra hwa hs3 ho3) | (go_at_call 133; (with_reducible refine (HO1.out (0 + 20 + 60) 8 _ (by omega) HS3.out).mono ?_); rintro e w4 ⟨v, rfl, hs4, ho4⟩))
  have HS4 := hide hs4
  have HB4 := hide (below_src' HB3.out ho4)
  have HR4 := hide (row_only HR3.out ho4 (by omega))
  have HRA4 := hide fun W (hW : Only w.heap.size (w.heap.size + 1) w4 W) => HRA.out W (only_trans ho4 hW)
  have hz4 := ho4.size
  clear hs4 ho4 HS HS2 HS3 HB1 HB2 HB3 HR HR3 HRA
  go_cut [6, 7] (fun sv wv wx => ∃ (A1 : Option Addr) (c1 : Nat) (st : List Int) (A2 : Option Addr) (c2 : Nat) (wa : List Int), sv = .slice A1 st.length c1 ∧ wv = .slice A2 wa.length c2 ∧ Hid (∀ W, Only w.heap.size (w.heap.size + 1) wx W → RdI W W.heap.size A1 st) ∧ Hid (∀ W, Only w.heap.size (w.heap.size + 1) wx W → RdI W W.heap.size A2 wa) ∧ (1 ≤ st.length ∧ st.length ≤ 11) ∧ Hid (∀ z ∈ st, -9223372036854775808 ≤ z ∧ z ≤ 9223372036854775807) ∧ Hid (wa.length ≤ 11 ∧ ∀ z ∈ wa, -9223372036854775808 ≤ z ∧ z ≤ 9223372036854775807) ∧ Hid (SrcAt w.heap.size bs 100 wx) ∧ Hid (Below w.heap.size w wx) ∧ w.heap.size < wx.heap.size)
  case first =>
    cases v
    · go_wp2_with fail
      go_meet
      exact ⟨A1, c1, st, A2, c2, wa, rfl, rfl, hide fun W hW => RdI.of_own (row_only HR4.out hW (by omega)), HRA4, ⟨h11, h12⟩, HST.out.2, ⟨HWW.out.1, fun z hz => by have := HWW.out.2 z hz; omega⟩, HS4.out.more (by omega), HB4, by omega⟩
    · have S5 := hide (HS4.out.alloc (.cells #[.int .i64 9, .int .i64 9, .int .i64 0] 2))
      have B5 := hide (HB4.out.alloc (by omega) (.cells #[.int .i64 9, .int .i64 9, .int .i64 0] 2))
      have hz5 : w.heap.size < (w4.alloc (.cells #[.int .i64 9, .int .i64 9, .int .i64 0] 2)).heap.size := by simp; omega
      have HC := hide (HP.out (0 + 20 + 60 + 2) 2 _ (by omega) S5.out)
      go_wp2_with (go_at_call 134; (with_reducible refine (HC.out).mono ?_); rintro e w6 ⟨y, rfl, ⟨hy0, hy1', _⟩, hs6, ho6⟩; have hy1 := hy1' (by omega); have hwy : IntKind.i64.wrap (6 + y) = 6 + y := (by rw [IntKind.wrap_i64] <;> omega); clear hy1')
      go_meet
      have hz6 := ho6.size
      exact ⟨some ⟨w4.heap.size, 0, none⟩, 3, [9, 9, 0], some ⟨w6.heap.size, 0, none⟩, 3, [0, 0, 6 + y], rfl, (by simp), hide fun W hW => rdI_new (xs := [9, 9, 0]) (by omega) (only_trans ho6 (only_trans (only_alloc (only_refl _ _ _) _) hW)), hide fun W hW => rdI_new (xs := [0, 0, 6 + y]) (by omega) hW, ⟨by simp, by simp⟩, hide fun z hz => by simp at hz; omega, ⟨by simp, fun z hz => by simp at hz; omega⟩, (hs6.alloc (.cells #[.int .i64 0, .int .i64 0, .int .i64 (6 + y)] 2)).more (by omega), (below_src' B5.out ho6).alloc (by omega) (.cells #[.int .i64 0, .int .i64 0, .int .i64 (6 + y)] 2), by simp; omega⟩
  case rest =>
    obtain ⟨A1, c1, st, A2, c2, wa, rfl, rfl, HRS, HRW, ⟨h1, h2⟩, HFS, HFW, HS, HB, hzx⟩ := hcut
    clear HS4 HB4 HR4 HRA4 HST HWW
    go_wp2_with (go_at_call 135; (with_reducible refine (HCO.out st.length _ h1 h2 HS.out).mono ?_); rintro e w6 ⟨A3, c3, l, rfl, hr6, hl6, ho6⟩)
    go_ret3
    exact ⟨A1, c1, st, A2, c2, wa, A3, c3, l, rfl, HRS.out w6 ho6, HRW.out w6 ho6, hr6, ⟨⟨h1, h2⟩, HFS.out⟩, HFW.out, ⟨by have := co_small (by omega) hl6.2; unfold SmallN; omega, fun e he => (hl6.2 e he).fits⟩, below_src' HB.out ho6⟩
end Go.Proofs.Ytklfjekpeoigoaa
namespace Go.Proofs.Ytklfjekpeoigoaa
open Go.RowKit
set_option maxRecDepth 100000 in
set_option maxHeartbeats 4000000 in
theorem drawTick_any (b : Nat) (bs : List Int) (N : Int) (w : World) (hbs : BsOk bs) (hN : N ≤ 1099509000000) (h : SrcAt b bs N w) :
    Calls Try.prog 219 #[.pointer (some ⟨b, 0, none⟩)] w fun e w' => ∃ z, e = .returned (.int .i64 z) ∧ (-9223372036854775808 ≤ z ∧ z ≤ 10001) ∧ SrcAt b bs (N + 4) w' ∧ Only b (b + 1) w w' := by
  have hbl := h.lt
  have HP := hide fun M n W (hM : M ≤ 1099511000000) (hW : SrcAt b bs M W) => pick_any b bs M n W hbs hM hW
  have HO1 := hide fun M n W (hM : M ≤ 1099511000000) (hW : SrcAt b bs M W) => one_any b bs M n W hbs hM hW
  have HAM := hide fun M g o c xs W (hM : M ≤ 1099511000000) (hW : SrcAt b bs M W) => among_any b bs M g o c xs W hbs hM hW
  have H0 := hide h
  clear h
  go_enter Try.func219, Try.ntmps219
  go_upto_if 4 with (go_at_call 133; (with_reducible refine (HO1.out N 10 _ (by omega) H0.out).mono ?_); rintro e w1 ⟨v, rfl, hs1, ho1⟩)
  have S1 := hide hs1
  have O1 := hide ho1
  have hz1 := ho1.size
  clear hs1 ho1 H0
  cases v
  · have HC := hide (HP.out (N + 2) 70 _ (by omega) S1.out)
    go_wp2_with (go_at_call 134; (with_reducible refine (HC.out).mono ?_); rintro e w2 ⟨z, rfl, ⟨hz0, hz1', _⟩, hs2, ho2⟩)
    go_ret
    have := hz1' (by omega)
    exact ⟨z, rfl, ⟨by omega, by omega⟩, hs2.more (by omega), only_trans O1.out ho2⟩
  · have S2 := hide (S1.out.alloc (.cells #[.int .i64 (-1), .int .i64 0, .int .i64 10000, .int .i64 10001, .int .i64 (-9223372036854775808)] 2))
    have ham : Calls Try.prog 150 #[.pointer (some ⟨b, 0, none⟩), .slice (some ⟨w1.heap.size, 0, none⟩) 5 5] (w1.alloc (.cells #[.int .i64 (-1), .int .i64 0, .int .i64 10000, .int .i64 10001, .int .i64 (-9223372036854775808)] 2)) fun e w' => ∃ z, e = .returned (.int .i64 z) ∧ z ∈ ([(-1), 0, 10000, 10001, (-9223372036854775808)] : List Int) ∧ SrcAt b bs (N + 2 + 2) w' ∧ Only b (b + 1) (w1.alloc (.cells #[.int .i64 (-1), .int .i64 0, .int .i64 10000, .int .i64 10001, .int .i64 (-9223372036854775808)] 2)) w' := HAM.out (N + 2) w1.heap.size 0 5 ([(-1), 0, 10000, 10001, (-9223372036854775808)] : List Int) _ (by omega) S2.out (by omega) (by simp) (by simp) (by simp) (fun j z hj => by
        match j, hj with
        | 0, hj => simp at hj; subst hj; simp [go_sem]
        | 1, hj => simp at hj; subst hj; simp [go_sem]
        | 2, hj => simp at hj; subst hj; simp [go_sem]
        | 3, hj => simp at hj; subst hj; simp [go_sem]
        | 4, hj => simp at hj; subst hj; simp [go_sem]
        | j + 5, hj => simp at hj)
    have H2 := hide ham
    clear ham
    have O2 := hide (only_alloc O1.out (.cells #[.int .i64 (-1), .int .i64 0, .int .i64 10000, .int .i64 10001, .int .i64 (-9223372036854775808)] 2))
    go_wp2_with (go_at_call 150; (with_reducible refine (H2.out).mono ?_); rintro e w2 ⟨z, rfl, hz, hs2, ho2⟩)
    go_ret
    have hzb : -9223372036854775808 ≤ z ∧ z ≤ 10001 := by simp at hz; omega
    exact ⟨z, rfl, hzb, hs2.more (by omega), only_trans O2.out ho2⟩
set_option maxRecDepth 100000 in
set_option maxHeartbeats 4000000 in
theorem drawLeast_any (b : Nat) (bs : List Int) (N : Int) (w : World) (hbs : BsOk bs) (hN : N ≤ 1099509000000) (h : SrcAt b bs N w) :
    Calls Try.prog 218 #[.pointer (some ⟨b, 0, none⟩)] w fun e w' => ∃ z, e = .returned (.int .i64 z) ∧ (-101 ≤ z ∧ z ≤ 101) ∧ SrcAt b bs (N + 4) w' ∧ Only b (b + 1) w w' := by
  have hbl := h.lt
  have HP := hide fun M n W (hM : M ≤ 1099511000000) (hW : SrcAt b bs M W) => pick_any b bs M n W hbs hM hW
  have HO1 := hide fun M n W (hM : M ≤ 1099511000000) (hW : SrcAt b bs M W) => one_any b bs M n W hbs hM hW
  have HAM := hide fun M g o c xs W (hM : M ≤ 1099511000000) (hW : SrcAt b bs M W) => among_any b bs M g o c xs W hbs hM hW
  have H0 := hide h
  clear h
  go_enter Try.func218, Try.ntmps218
  go_upto_if 4 with (go_at_call 133; (with_reducible refine (HO1.out N 10 _ (by omega) H0.out).mono ?_); rintro e w1 ⟨v, rfl, hs1, ho1⟩)
  have S1 := hide hs1
  have O1 := hide ho1
  have hz1 := ho1.size
  clear hs1 ho1 H0
  cases v
  · have HC := hide (HP.out (N + 2) 6 _ (by omega) S1.out)
    go_wp2_with (go_at_call 134; (with_reducible refine (HC.out).mono ?_); rintro e w2 ⟨z, rfl, ⟨hz0, hz1', _⟩, hs2, ho2⟩; have hz5 := hz1' (by omega); have hw1 : IntKind.i64.wrap (z - 2) = z - 2 := (by rw [IntKind.wrap_i64] <;> omega); have hw2 : IntKind.i64.wrap (10 * (z - 2)) = 10 * (z - 2) := (by rw [IntKind.wrap_i64] <;> omega); clear hz1')
    go_ret
    exact ⟨10 * (z - 2), rfl, ⟨by omega, by omega⟩, hs2.more (by omega), only_trans O1.out ho2⟩
  · have S2 := hide (S1.out.alloc (.cells #[.int .i64 (-101), .int .i64 (-100), .int .i64 100, .int .i64 101] 2))
    have ham : Calls Try.prog 150 #[.pointer (some ⟨b, 0, none⟩), .slice (some ⟨w1.heap.size, 0, none⟩) 4 4] (w1.alloc (.cells #[.int .i64 (-101), .int .i64 (-100), .int .i64 100, .int .i64 101] 2)) fun e w' => ∃ z, e = .returned (.int .i64 z) ∧ z ∈ ([(-101), (-100), 100, 101] : List Int) ∧ SrcAt b bs (N + 2 + 2) w' ∧ Only b (b + 1) (w1.alloc (.cells #[.int .i64 (-101), .int .i64 (-100), .int .i64 100, .int .i64 101] 2)) w' := HAM.out (N + 2) w1.heap.size 0 4 ([(-101), (-100), 100, 101] : List Int) _ (by omega) S2.out (by omega) (by simp) (by simp) (by simp) (fun j z hj => by
        match j, hj with
        | 0, hj => simp at hj; subst hj; simp [go_sem]
        | 1, hj => simp at hj; subst hj; simp [go_sem]
        | 2, hj => simp at hj; subst hj; simp [go_sem]
        | 3, hj => simp at hj; subst hj; simp [go_sem]
        | j + 4, hj => simp at hj)
    have H2 := hide ham
    clear ham
    have O2 := hide (only_alloc O1.out (.cells #[.int .i64 (-101), .int .i64 (-100), .int .i64 100, .int .i64 101] 2))
    go_wp2_with (go_at_call 150; (with_reducible refine (H2.out).mono ?_); rintro e w2 ⟨z, rfl, hz, hs2, ho2⟩)
    go_ret
    have hzb : -101 ≤ z ∧ z ≤ 101 := by simp at hz; omega
    exact ⟨z, rfl, hzb, hs2.more (by omega), only_trans O2.out ho2⟩
set_option maxRecDepth 100000 in
set_option maxHeartbeats 4000000 in
theorem drawZone_any (b : Nat) (bs : List Int) (N : Int) (zz : Int) (s1 s2 : Value) (bz : Nat) (w : World) (hbs : BsOk bs) (hN : N ≤ 1099509000000) (h : SrcAt b bs N w) (hx : BoxN w bz #[.int .i64 zz, s1, s2] 114) (hbz : bz ≠ b) (hzz : -1 ≤ zz ∧ zz ≤ 9) :
    Calls Try.prog 217 #[.pointer (some ⟨b, 0, none⟩), .pointer (some ⟨bz, 0, none⟩)] w fun e w' => ∃ z, e = .returned (.int .i64 z) ∧ (-1 ≤ z ∧ z ≤ 9) ∧ SrcAt b bs (N + 4) w' ∧ Only b (b + 1) w w' := by
  have hbl := h.lt
  have HP := hide fun M n W (hM : M ≤ 1099511000000) (hW : SrcAt b bs M W) => pick_any b bs M n W hbs hM hW
  have HO1 := hide fun M n W (hM : M ≤ 1099511000000) (hW : SrcAt b bs M W) => one_any b bs M n W hbs hM hW
  have HAM := hide fun M g o c xs W (hM : M ≤ 1099511000000) (hW : SrcAt b bs M W) => among_any b bs M g o c xs W hbs hM hW
  have H0 := hide h
  have X0 := hide hx
  obtain ⟨hzz0, hzz1⟩ := hzz
  have hxl := hx.lt
  clear h hx
  go_enter Try.func217, Try.ntmps217
  go_upto_if 6 with (go_at_call 133; (with_reducible refine (HO1.out N 12 _ (by omega) H0.out).mono ?_); rintro e w1 ⟨v, rfl, hs1, ho1⟩)
  have S1 := hide hs1
  have O1 := hide ho1
  have hz1 := ho1.size
  have X1 := hide (X0.out.only ho1 (by omega))
  have x1 : w1.cell? ⟨bz, 0, none⟩ = some (.int .i64 zz) := X1.out.cell 0
  clear hs1 ho1 H0 X0
  cases v
  · have HMX := hide fun W => l00MaxM_any 1 zz W
    have HC := hide (HP.out (N + 2) (max 1 zz) _ (by omega) S1.out)
    have hmx0 : 1 ≤ max 1 zz := by omega
    have hmx1 : max 1 zz ≤ 9 := by omega
    generalize max 1 zz = mx at *
    go_wp2_with (first | (go_at_call 122; (with_reducible refine (HMX.out _).mono ?_); rintro e w' ⟨rfl, rfl⟩) | (go_at_call 134; (with_reducible refine (HC.out).mono ?_); rintro e w2 ⟨z, rfl, ⟨hz0, hz1', _⟩, hs2, ho2⟩))
    go_ret
    have := hz1' hmx0
    exact ⟨z, rfl, ⟨by omega, by omega⟩, hs2.more (by omega), only_trans O1.out ho2⟩
  · have S2 := hide (S1.out.alloc (.cells #[.int .i64 (-1), .int .i64 zz] 2))
    have ham : Calls Try.prog 150 #[.pointer (some ⟨b, 0, none⟩), .slice (some ⟨w1.heap.size, 0, none⟩) 2 2] (w1.alloc (.cells #[.int .i64 (-1), .int .i64 zz] 2)) fun e w' => ∃ z, e = .returned (.int .i64 z) ∧ z ∈ ([(-1), zz] : List Int) ∧ SrcAt b bs (N + 2 + 2) w' ∧ Only b (b + 1) (w1.alloc (.cells #[.int .i64 (-1), .int .i64 zz] 2)) w' := HAM.out (N + 2) w1.heap.size 0 2 ([(-1), zz] : List Int) _ (by omega) S2.out (by omega) (by simp) (by simp) (by simp) (fun j z hj => by
        match j, hj with
        | 0, hj => simp at hj; subst hj; simp [go_sem]
        | 1, hj => simp at hj; subst hj; simp [go_sem]
        | j + 2, hj => simp at hj)
    have H2 := hide ham
    clear ham
    have O2 := hide (only_alloc O1.out (.cells #[.int .i64 (-1), .int .i64 zz] 2))
    go_wp2_with (go_at_call 150; (with_reducible refine (H2.out).mono ?_); rintro e w2 ⟨z, rfl, hz, hs2, ho2⟩)
    go_ret
    have hzb : -1 ≤ z ∧ z ≤ 9 := by simp at hz; omega
    exact ⟨z, rfl, hzb, hs2.more (by omega), only_trans O2.out ho2⟩
end Go.Proofs.Ytklfjekpeoigoaa
namespace Go.Proofs.Ytklfjekpeoigoaa
open Go.RowKit
theorem flatMap_atZ {xs : List T3} {j q : Nat} {m : T3} (h : xs[j]? = some m) (hq : q < 3) : (xs.flatMap T3.cells)[j * 3 + q]? = (T3.cells m)[q]? := by
  induction xs generalizing j with
  | nil => simp at h
  | cons x xs ih =>
    rw [List.flatMap_cons]
    cases j with
    | zero =>
      simp at h; subst h
      rw [List.getElem?_append_left (by show 0 * 3 + q < 3; omega), Nat.zero_mul, Nat.zero_add]
    | succ j =>
      rw [List.getElem?_append_right (by show 3 ≤ (j + 1) * 3 + q; omega)]
      rw [show (j + 1) * 3 + q - (T3.cells x).length = j * 3 + q by show (j + 1) * 3 + q - 3 = _; omega]
      exact ih (by simpa using h)
/-- A change as it is drawn. -/
def CDr (t : T3) : Prop := -9223372036854775808 ≤ t.a ∧ t.a ≤ 10001 ∧ -1 ≤ t.b ∧ t.b ≤ 10 ∧ -101 ≤ t.c ∧ t.c ≤ 101
theorem CDr.fits {t : T3} (h : CDr t) : t.Fits := by unfold CDr at h; exact ⟨⟨by omega, by omega⟩, ⟨by omega, by omega⟩, by omega, by omega⟩
set_option maxRecDepth 100000 in
set_option maxHeartbeats 4000000 in
theorem drawChange_any (b : Nat) (bs : List Int) (N : Int) (n : Int) (w : World) (hbs : BsOk bs) (hN : N ≤ 1099509000000) (h : SrcAt b bs N w) (hn : 1 ≤ n) (hn2 : n ≤ 10) :
    Calls Try.prog 278 #[.pointer (some ⟨b, 0, none⟩), .int .i64 n] w fun e w' => ∃ t : T3, e = .returned (.agg #[.int .i64 t.a, .int .i64 t.b, .int .i64 t.c]) ∧ CDr t ∧ SrcAt b bs (N + 6) w' ∧ Only b (b + 1) w w' := by
  have hbl := h.lt
  have HP := hide fun M n W (hM : M ≤ 1099511000000) (hW : SrcAt b bs M W) => pick_any b bs M n W hbs hM hW
  have HO1 := hide fun M n W (hM : M ≤ 1099511000000) (hW : SrcAt b bs M W) => one_any b bs M n W hbs hM hW
  have HAM := hide fun M g o c xs W (hM : M ≤ 1099511000000) (hW : SrcAt b bs M W) => among_any b bs M g o c xs W hbs hM hW
  have X0 := hide (BoxN.new w #[.int .i64 0, .int .i64 0, .int .i64 0] 118)
  have S0 := hide (h.alloc (.cells #[.int .i64 0, .int .i64 0, .int .i64 0] 118))
  have O0 := hide (only_alloc (only_refl b (b + 1) w) (.cells #[.int .i64 0, .int .i64 0, .int .i64 0] 118))
  have z0 : w.heap.size < (w.alloc (.cells #[.int .i64 0, .int .i64 0, .int .i64 0] 118)).heap.size := by simp
  have K0 := hide (HP.out N 60 _ (by omega) S0.out)
  clear h
  go_enter Try.func278, Try.ntmps278
  go_upto_region 2 with (first | (go_at_call 134; (with_reducible refine (K0.out).mono ?_); rintro e w1 ⟨a, rfl, ⟨ha0, ha1', _⟩, hs1, ho1⟩; have ha1 := ha1' (by omega); have X1 := hide (X0.out.only ho1 (.inr (by omega))); have z1 := ho1.size; have O1 := hide (only_trans O0.out ho1); have K1 := hide (HP.out (N + 2) n _ (by omega) hs1); clear hs1 ho1 K0 X0 S0 O0 ha1') | (go_at_call 134; (with_reducible refine (K1.out).mono ?_); rintro e w2 ⟨c, rfl, ⟨hc0, hc1', _⟩, hs2, ho2⟩; have hc1 := hc1' hn; have X2 := hide (X1.out.only ho2 (.inr (by omega))); have z2 := ho2.size; have O2 := hide (only_trans O1.out ho2); have S2 := hide hs2; clear hs2 ho2 K1 X1 O1 hc1'))
  have X3 := hide (X2.out.alloc (.cells #[.int .i64 a, .int .i64 c, .int .i64 0] 118))
  have Y3 := hide (BoxN.new w2 #[.int .i64 a, .int .i64 c, .int .i64 0] 118)
  have S3 := hide (S2.out.alloc (.cells #[.int .i64 a, .int .i64 c, .int .i64 0] 118))
  have O3 := hide (only_alloc O2.out (.cells #[.int .i64 a, .int .i64 c, .int .i64 0] 118))
  have z3 : w2.heap.size + 1 ≤ (w2.alloc (.cells #[.int .i64 a, .int .i64 c, .int .i64 0] 118)).heap.size := by simp
  have zz : w.heap.size < w2.heap.size := by omega
  have K3 := hide (HP.out (N + 2 + 2) 7 _ (by omega) S3.out)
  clear X2 S2 O2 S3
  go_upto_region 3 with (go_at_call 134; (with_reducible refine (K3.out).mono ?_); rintro e w4 ⟨d, rfl, ⟨hd0, hd1', _⟩, hs4, ho4⟩; have hd1 := hd1' (by omega); have X4 := hide (X3.out.only ho4 (.inr (by omega))); have Y4 := hide (Y3.out.only ho4 (.inr (by omega))); have S4 := hide hs4; have O4 := hide (only_trans O3.out ho4); have z4 := ho4.size; have y4 := Y4.out.cell 2; have f4 := Y4.out.fro 2; have hw1 : IntKind.i64.wrap (d - 2) = d - 2 := (by rw [IntKind.wrap_i64] <;> omega); have hw2 : IntKind.i64.wrap (10 * (d - 2)) = 10 * (d - 2) := (by rw [IntKind.wrap_i64] <;> omega); clear hs4 ho4 hd1')
  have X5 := hide (X4.out.other (b' := w2.heap.size) (by omega) 2 (.int .i64 (10 * (d - 2))))
  have Y5 : Hid (BoxN (w4.setCell ⟨w2.heap.size, 2, none⟩ (.int .i64 (10 * (d - 2)))) w2.heap.size #[.int .i64 a, .int .i64 c, .int .i64 (10 * (d - 2))] 118) := Y4.out.set 2 (.int .i64 (10 * (d - 2)))
  have S5 := hide (S4.out.set ⟨w2.heap.size, 2, none⟩ (.int .i64 (10 * (d - 2))) (by dsimp only; omega))
  have O5 := hide (only_setNew O4.out ⟨w2.heap.size, 2, none⟩ (.int .i64 (10 * (d - 2))) (by dsimp only; omega))
  clear X3 Y3 O3 K3 X4 Y4 y4 f4 S4 O4
  generalize w4.setCell ⟨w2.heap.size, 2, none⟩ (.int .i64 (10 * (d - 2))) = w9 at *
  have l0 : w9.cell? ⟨w2.heap.size, 0, none⟩ = some (.int .i64 a) := Y5.out.cell 0
  have l1 : w9.cell? ⟨w2.heap.size, 1, none⟩ = some (.int .i64 c) := Y5.out.cell 1
  have l2 : w9.cell? ⟨w2.heap.size, 2, none⟩ = some (.int .i64 (10 * (d - 2))) := Y5.out.cell 2
  obtain ⟨z, hz⟩ : ∃ z, z = 10 * (d - 2) := ⟨_, rfl⟩
  rw [← hz] at l2
  have hzb : -20 ≤ z ∧ z ≤ 40 := by omega
  clear hz hw1 hw2
  have T0 := hide (X5.out.set 0 (.int .i64 a))
  have T1 := hide (T0.out.set 1 (.int .i64 c))
  have T2 := hide (T1.out.set 2 (.int .i64 z))
  have m0 : w9.cell? ⟨w.heap.size, 0, none⟩ = some (.int .i64 0) := X5.out.cell 0
  have n0 := X5.out.fro 0
  have m1 : (w9.setCell ⟨w.heap.size, 0, none⟩ (.int .i64 a)).cell? ⟨w.heap.size, 1, none⟩ = some (.int .i64 0) := T0.out.cell 1
  have n1 := T0.out.fro 1
  have m2 : ((w9.setCell ⟨w.heap.size, 0, none⟩ (.int .i64 a)).setCell ⟨w.heap.size, 1, none⟩ (.int .i64 c)).cell? ⟨w.heap.size, 2, none⟩ = some (.int .i64 0) := T1.out.cell 2
  have n2 := T1.out.fro 2
  go_wp2_with fail
  have q0 : (((w9.setCell ⟨w.heap.size, 0, none⟩ (.int .i64 a)).setCell ⟨w.heap.size, 1, none⟩ (.int .i64 c)).setCell ⟨w.heap.size, 2, none⟩ (.int .i64 z)).cell? ⟨w.heap.size, 0, none⟩ = some (.int .i64 a) := T2.out.cell 0
  have q1 : (((w9.setCell ⟨w.heap.size, 0, none⟩ (.int .i64 a)).setCell ⟨w.heap.size, 1, none⟩ (.int .i64 c)).setCell ⟨w.heap.size, 2, none⟩ (.int .i64 z)).cell? ⟨w.heap.size, 1, none⟩ = some (.int .i64 c) := T2.out.cell 1
  have q2 : (((w9.setCell ⟨w.heap.size, 0, none⟩ (.int .i64 a)).setCell ⟨w.heap.size, 1, none⟩ (.int .i64 c)).setCell ⟨w.heap.size, 2, none⟩ (.int .i64 z)).cell? ⟨w.heap.size, 2, none⟩ = some (.int .i64 z) := T2.out.cell 2
  refine bodyPost_ret (v := .agg #[.int .i64 a, .int .i64 c, .int .i64 z]) (by simp [results, Try.results278, go_sem, q0, q1, q2]) rfl ⟨⟨a, c, z⟩, rfl, ⟨by dsimp only; omega, by dsimp only; omega, by dsimp only; omega, by dsimp only; omega, by dsimp only; omega, by dsimp only; omega⟩, ?_, ?_⟩
  · exact (((S5.out.set ⟨w.heap.size, 0, none⟩ (.int .i64 a) hbl).set ⟨w.heap.size, 1, none⟩ (.int .i64 c) hbl).set ⟨w.heap.size, 2, none⟩ (.int .i64 z) hbl).more (by omega)
  · exact only_setNew (only_setNew (only_setNew O5.out ⟨w.heap.size, 0, none⟩ (.int .i64 a) (Nat.le_refl _)) ⟨w.heap.size, 1, none⟩ (.int .i64 c) (Nat.le_refl _)) ⟨w.heap.size, 2, none⟩ (.int .i64 z) (Nat.le_refl _)
set_option maxRecDepth 100000 in
set_option maxHeartbeats 4000000 in
theorem spoil_any (b : Nat) (bs : List Int) (N : Int) (g k n c base : Nat) (cs : List T3) (w : World) (hbs : BsOk bs) (hN : N ≤ 1099509000000) (h : SrcAt b bs N w) (hb : b + 1 ≤ base) (hk : k < n) (hl : cs.length = n) (hrow : w.ownsRow base 118 3 (.slice (some ⟨g, 0, none⟩) n c) n (cs.flatMap T3.cells)) :
    Calls Try.prog 267 #[.pointer (some ⟨b, 0, none⟩), .pointer (some ⟨g, k * 3, none⟩)] w fun e w' => e = .returned (.tuple #[]) ∧ ∃ (w1 : World) (j : Nat) (z : Int), ((j = 0 ∧ -9223372036854775808 ≤ z ∧ z ≤ 10001) ∨ (j = 1 ∧ -1 ≤ z ∧ z ≤ 8) ∨ (j = 2 ∧ -101 ≤ z ∧ z ≤ 101)) ∧ SrcAt b bs (N + 4) w1 ∧ Only b (b + 1) w w1 ∧ w' = w1.setCell ⟨g, k * 3 + j, none⟩ (.int .i64 z) := by
  have hbl := h.lt
  have HP := hide fun M n W (hM : M ≤ 1099511000000) (hW : SrcAt b bs M W) => pick_any b bs M n W hbs hM hW
  have HO1 := hide fun M n W (hM : M ≤ 1099511000000) (hW : SrcAt b bs M W) => one_any b bs M n W hbs hM hW
  have HAM := hide fun M g o c xs W (hM : M ≤ 1099511000000) (hW : SrcAt b bs M W) => among_any b bs M g o c xs W hbs hM hW
  have H0 := hide h
  have R0 := hide hrow
  clear h hrow
  obtain ⟨t, ht⟩ : ∃ t, cs[k]? = some t := ⟨_, List.getElem?_eq_getElem (by omega)⟩
  have HT := hide ht
  clear ht
  go_enter Try.func267, Try.ntmps267
  have HC := hide (HP.out N 3 w (by omega) H0.out)
  go_upto_region 1 with (go_at_call 134; (with_reducible refine (HC.out).mono ?_); rintro e w1 ⟨v, rfl, ⟨hv0, hv1', _⟩, hs1, ho1⟩)
  have hv1 := hv1' (by omega)
  have S1 := hide hs1
  have O1 := hide ho1
  have R1 := hide (row_only R0.out ho1 hb)
  have hz1 := ho1.size
  clear hs1 ho1 hv1' HC H0 R0
  have hcase : v = 0 ∨ v = 1 ∨ v = 2 := by omega
  rcases hcase with hv | hv | hv
  · subst hv
    have S2 := hide (S1.out.alloc (.cells #[.int .i64 (-1), .int .i64 0, .int .i64 10000, .int .i64 10001, .int .i64 (-9223372036854775808)] 2))
    have ham : Calls Try.prog 150 #[.pointer (some ⟨b, 0, none⟩), .slice (some ⟨w1.heap.size, 0, none⟩) 5 5] (w1.alloc (.cells #[.int .i64 (-1), .int .i64 0, .int .i64 10000, .int .i64 10001, .int .i64 (-9223372036854775808)] 2)) fun e w' => ∃ z, e = .returned (.int .i64 z) ∧ z ∈ ([(-1), 0, 10000, 10001, (-9223372036854775808)] : List Int) ∧ SrcAt b bs (N + 2 + 2) w' ∧ Only b (b + 1) (w1.alloc (.cells #[.int .i64 (-1), .int .i64 0, .int .i64 10000, .int .i64 10001, .int .i64 (-9223372036854775808)] 2)) w' := HAM.out (N + 2) w1.heap.size 0 5 ([(-1), 0, 10000, 10001, (-9223372036854775808)] : List Int) _ (by omega) S2.out (by omega) (by simp) (by simp) (by simp) (fun j z hj => by
        match j, hj with
        | 0, hj => simp at hj; subst hj; simp [go_sem]
        | 1, hj => simp at hj; subst hj; simp [go_sem]
        | 2, hj => simp at hj; subst hj; simp [go_sem]
        | 3, hj => simp at hj; subst hj; simp [go_sem]
        | 4, hj => simp at hj; subst hj; simp [go_sem]
        | j + 5, hj => simp at hj)
    have H2 := hide ham
    clear ham
    have O2 := hide (only_alloc O1.out (.cells #[.int .i64 (-1), .int .i64 0, .int .i64 10000, .int .i64 10001, .int .i64 (-9223372036854775808)] 2))
    have R2 := hide (R1.out.alloc (.cells #[.int .i64 (-1), .int .i64 0, .int .i64 10000, .int .i64 10001, .int .i64 (-9223372036854775808)] 2))
    go_wp2_with (go_at_call 150; (with_reducible refine (H2.out).mono ?_); rintro e w3 ⟨z, rfl, hz, hs3, ho3⟩; have R3 := hide (row_only R2.out ho3 hb); have e3 : w3.cell? ⟨g, k * 3, none⟩ = some (.int .i64 t.a) := (R3.out.cellAt (k * 3 + 0) (by omega)).trans (flatMap_atZ HT.out (show 0 < 3 by omega)); have f3 : w3.frozen? ⟨g, k * 3, none⟩ = false := R3.out.frozenAt (k * 3 + 0))
    have hzb : -9223372036854775808 ≤ z ∧ z ≤ 10001 := by simp at hz; omega
    (try simp only [Exit.inBlock, Exit.then]); refine bodyPost_end (results_none rfl _ _ _) rfl ?_
    exact ⟨rfl, w3, 0, z, .inl ⟨rfl, hzb⟩, hs3.more (by omega), only_trans O2.out ho3, rfl⟩
  · subst hv
    have S2 := hide (S1.out.alloc (.cells #[.int .i64 (-1), .int .i64 0, .int .i64 7, .int .i64 8] 2))
    have ham : Calls Try.prog 150 #[.pointer (some ⟨b, 0, none⟩), .slice (some ⟨w1.heap.size, 0, none⟩) 4 4] (w1.alloc (.cells #[.int .i64 (-1), .int .i64 0, .int .i64 7, .int .i64 8] 2)) fun e w' => ∃ z, e = .returned (.int .i64 z) ∧ z ∈ ([(-1), 0, 7, 8] : List Int) ∧ SrcAt b bs (N + 2 + 2) w' ∧ Only b (b + 1) (w1.alloc (.cells #[.int .i64 (-1), .int .i64 0, .int .i64 7, .int .i64 8] 2)) w' := HAM.out (N + 2) w1.heap.size 0 4 ([(-1), 0, 7, 8] : List Int) _ (by omega) S2.out (by omega) (by simp) (by simp) (by simp) (fun j z hj => by
        match j, hj with
        | 0, hj => simp at hj; subst hj; simp [go_sem]
        | 1, hj => simp at hj; subst hj; simp [go_sem]
        | 2, hj => simp at hj; subst hj; simp [go_sem]
        | 3, hj => simp at hj; subst hj; simp [go_sem]
        | j + 4, hj => simp at hj)
    have H2 := hide ham
    clear ham
    have O2 := hide (only_alloc O1.out (.cells #[.int .i64 (-1), .int .i64 0, .int .i64 7, .int .i64 8] 2))
    have R2 := hide (R1.out.alloc (.cells #[.int .i64 (-1), .int .i64 0, .int .i64 7, .int .i64 8] 2))
    go_wp2_with (go_at_call 150; (with_reducible refine (H2.out).mono ?_); rintro e w3 ⟨z, rfl, hz, hs3, ho3⟩; have R3 := hide (row_only R2.out ho3 hb); have e3 : w3.cell? ⟨g, k * 3 + 1, none⟩ = some (.int .i64 t.b) := (R3.out.cellAt (k * 3 + 1) (by omega)).trans (flatMap_atZ HT.out (show 1 < 3 by omega)); have f3 : w3.frozen? ⟨g, k * 3 + 1, none⟩ = false := R3.out.frozenAt (k * 3 + 1))
    have hzb : -1 ≤ z ∧ z ≤ 8 := by simp at hz; omega
    (try simp only [Exit.inBlock, Exit.then]); refine bodyPost_end (results_none rfl _ _ _) rfl ?_
    exact ⟨rfl, w3, 1, z, .inr (.inl ⟨rfl, hzb⟩), hs3.more (by omega), only_trans O2.out ho3, rfl⟩
  · subst hv
    have S2 := hide (S1.out.alloc (.cells #[.int .i64 (-101), .int .i64 (-100), .int .i64 100, .int .i64 101] 2))
    have ham : Calls Try.prog 150 #[.pointer (some ⟨b, 0, none⟩), .slice (some ⟨w1.heap.size, 0, none⟩) 4 4] (w1.alloc (.cells #[.int .i64 (-101), .int .i64 (-100), .int .i64 100, .int .i64 101] 2)) fun e w' => ∃ z, e = .returned (.int .i64 z) ∧ z ∈ ([(-101), (-100), 100, 101] : List Int) ∧ SrcAt b bs (N + 2 + 2) w' ∧ Only b (b + 1) (w1.alloc (.cells #[.int .i64 (-101), .int .i64 (-100), .int .i64 100, .int .i64 101] 2)) w' := HAM.out (N + 2) w1.heap.size 0 4 ([(-101), (-100), 100, 101] : List Int) _ (by omega) S2.out (by omega) (by simp) (by simp) (by simp) (fun j z hj => by
        match j, hj with
        | 0, hj => simp at hj; subst hj; simp [go_sem]
        | 1, hj => simp at hj; subst hj; simp [go_sem]
        | 2, hj => simp at hj; subst hj; simp [go_sem]
        | 3, hj => simp at hj; subst hj; simp [go_sem]
        | j + 4, hj => simp at hj)
    have H2 := hide ham
    clear ham
    have O2 := hide (only_alloc O1.out (.cells #[.int .i64 (-101), .int .i64 (-100), .int .i64 100, .int .i64 101] 2))
    have R2 := hide (R1.out.alloc (.cells #[.int .i64 (-101), .int .i64 (-100), .int .i64 100, .int .i64 101] 2))
    go_wp2_with (go_at_call 150; (with_reducible refine (H2.out).mono ?_); rintro e w3 ⟨z, rfl, hz, hs3, ho3⟩; have R3 := hide (row_only R2.out ho3 hb); have e3 : w3.cell? ⟨g, k * 3 + 2, none⟩ = some (.int .i64 t.c) := (R3.out.cellAt (k * 3 + 2) (by omega)).trans (flatMap_atZ HT.out (show 2 < 3 by omega)); have f3 : w3.frozen? ⟨g, k * 3 + 2, none⟩ = false := R3.out.frozenAt (k * 3 + 2))
    have hzb : -101 ≤ z ∧ z ≤ 101 := by simp at hz; omega
    (try simp only [Exit.inBlock, Exit.then]); refine bodyPost_end (results_none rfl _ _ _) rfl ?_
    exact ⟨rfl, w3, 2, z, .inr (.inr ⟨rfl, hzb⟩), hs3.more (by omega), only_trans O2.out ho3, rfl⟩
end Go.Proofs.Ytklfjekpeoigoaa
