/-
  A stock and what is wanted, and what goes with them, are drawn.
  Two lists of moves are drawn.
  Moves: what the law's walk needs besides: bounds of what is sent, sums, facts that last.
-/
import Derived.Test.YtklfjekpeoigoaaQMovesBack18
import Derived.Test.YtklfjekpeoigoaaQMovesBack9
import Derived.Deep.DeepCutAuto
import Derived.Deep.RegionHeld3
namespace Go.Proofs.Ytklfjekpeoigoaa
open Go.RowKit
theorem rdI_new {w W : World} {b : Nat} {xs : List Int} (hb : b < w.heap.size) (hW : Only b (b + 1) (w.alloc (.cells (xs.map (Value.int .i64)).toArray 2)) W) : RdI W W.heap.size (some ⟨w.heap.size, 0, none⟩) xs := fun _ => by
  have X := (BoxN.new w (xs.map (Value.int .i64)).toArray 2).only hW (.inr hb)
  refine ⟨w.heap.size, 0, rfl, X.lt, fun j u hj => ?_⟩
  rw [Nat.zero_add, X.cell]
  simpa using hj
theorem only_refl (lo hi : Nat) (w : World) : Only lo hi w w := only_of_below (Below.refl _ _)
set_option maxRecDepth 100000 in
set_option maxHeartbeats 4000000 in
theorem both07_any (bs : List Int) (A : Option Addr) (c : Nat) (w : World) (hbs : BsOk bs) (h1 : RdB w w.heap.size A bs) :
    Calls Try.prog 136 #[.slice A bs.length c] w fun e w' => ∃ (A1 : Option Addr) (c1 : Nat) (st : List Int) (A2 : Option Addr) (c2 : Nat) (wa : List Int), e = .returned (.tuple #[.slice A1 st.length c1, .slice A2 wa.length c2]) ∧ RdI w' w'.heap.size A1 st ∧ RdI w' w'.heap.size A2 wa ∧ ((1 ≤ st.length ∧ st.length ≤ 11) ∧ ∀ z ∈ st, -9223372036854775808 ≤ z ∧ z ≤ 9223372036854775807) ∧ (wa.length ≤ 11 ∧ ∀ z ∈ wa, -1 ≤ z ∧ z ≤ 201) ∧ Below w.heap.size w w' := by
  have HF := hide (l00From_any bs A c w hbs.1 h1)
  have HD := hide fun W (hW : SrcAt w.heap.size bs 0 W) => draw07_any w.heap.size bs 0 W hbs (by omega) hW
  have HWA := hide fun n A0 c0 W (h1 : 1 ≤ n) (h2 : n ≤ 11) (hW : SrcAt w.heap.size bs (0 + 20) W) => drawWants_any w.heap.size bs (0 + 20) n A0 c0 W hbs (by omega) h1 h2 hW
  clear h1
  go_enter Try.func136, Try.ntmps136
  go_wp2_with (first | (go_at_call 130; (with_reducible refine (HF.out).mono ?_); rintro e w1 ⟨rfl, hs1, hz1, hb1⟩; have HS := hide hs1; have hz1a := Nat.le_of_eq hz1.symm; have HB1 := hide hb1; clear hs1 hz1 hb1) | (go_at_call 131; (with_reducible refine (HD.out _ HS.out).mono ?_); rintro e w2 ⟨A1, c1, st, rfl, hown, hst, hs2, ho2⟩; have HS2 := hide hs2; have HR := hide hown; have HST := hide hst; have h11 := hst.1.1; have h12 := hst.1.2; have HB2 := hide (below_src' HB1.out ho2); have hz2 := ho2.size; clear hs2 hown hst ho2) | (go_at_call 132; (with_reducible refine (HWA.out st.length _ _ _ h11 h12 HS2.out).mono ?_); rintro e w3 ⟨A2, c2, wa, rfl, hra, hwa, hs3, ho3⟩))
  go_ret2
  exact ⟨A1, c1, st, A2, c2, wa, rfl, RdI.of_own (row_only HR.out ho3 (by omega)), hra w3 (only_refl _ _ _), HST.out, hwa, below_src' HB2.out ho3⟩
set_option maxRecDepth 100000 in
set_option maxHeartbeats 4000000 in
theorem drawMovesBack_any (bs : List Int) (A : Option Addr) (c : Nat) (w : World) (hbs : BsOk bs) (h1 : RdB w w.heap.size A bs) :
    Calls Try.prog 25 #[.slice A bs.length c] w fun e w' => ∃ (A1 : Option Addr) (c1 : Nat) (st : List Int) (A2 : Option Addr) (c2 : Nat) (wa : List Int), e = .returned (.tuple #[.slice A1 st.length c1, .slice A2 wa.length c2]) ∧ RdI w' w'.heap.size A1 st ∧ RdI w' w'.heap.size A2 wa ∧ ((1 ≤ st.length ∧ st.length ≤ 11) ∧ ∀ z ∈ st, -9223372036854775808 ≤ z ∧ z ≤ 9223372036854775807) ∧ (wa.length ≤ 11 ∧ ∀ z ∈ wa, -1 ≤ z ∧ z ≤ 201) ∧ Below w.heap.size w w' := by
  have HB := hide (both07_any bs A c w hbs h1)
  clear h1
  go_enter Try.func25, Try.ntmps25
  go_wp2_with (go_at_call 136; (with_reducible refine (HB.out).mono ?_); rintro e w3 ⟨A1, c1, st, A2, c2, wa, rfl, hr1, hr2, hst, hwa, hb⟩)
  go_ret2
  exact ⟨A1, c1, st, A2, c2, wa, rfl, hr1, hr2, hst, hwa, hb⟩
set_option maxRecDepth 100000 in
set_option maxHeartbeats 4000000 in
theorem drawSendAll_any (bs : List Int) (A : Option Addr) (c : Nat) (w : World) (hbs : BsOk bs) (h1 : RdB w w.heap.size A bs) :
    Calls Try.prog 30 #[.slice A bs.length c] w fun e w' => ∃ (A1 : Option Addr) (c1 : Nat) (st : List Int) (A2 : Option Addr) (c2 : Nat) (ms : List T3), e = .returned (.tuple #[.slice A1 st.length c1, .slice A2 ms.length c2]) ∧ RdI w' w'.heap.size A1 st ∧ Rd3 w' w'.heap.size A2 ms ∧ ((1 ≤ st.length ∧ st.length ≤ 11) ∧ ∀ z ∈ st, -9223372036854775808 ≤ z ∧ z ≤ 9223372036854775807) ∧ (ms.length ≤ 41 ∧ ∀ z ∈ ms, MvOk st.length z) ∧ Below w.heap.size w w' := by
  have HF := hide (l00From_any bs A c w hbs.1 h1)
  have HD := hide fun W (hW : SrcAt w.heap.size bs 0 W) => draw07_any w.heap.size bs 0 W hbs (by omega) hW
  have HMV := hide fun sn W (h1 : 1 ≤ sn) (h2 : sn ≤ 1000) (hW : SrcAt w.heap.size bs (0 + 20) W) => drawMoves_any w.heap.size bs (0 + 20) sn W hbs (by omega) h1 h2 hW
  clear h1
  go_enter Try.func30, Try.ntmps30
  go_wp2_with (first | (go_at_call 130; (with_reducible refine (HF.out).mono ?_); rintro e w1 ⟨rfl, hs1, hz1, hb1⟩; have HS := hide hs1; have hz1a := Nat.le_of_eq hz1.symm; have HB1 := hide hb1; clear hs1 hz1 hb1) | (go_at_call 131; (with_reducible refine (HD.out _ HS.out).mono ?_); rintro e w2 ⟨A1, c1, st, rfl, hown, hst, hs2, ho2⟩; have HS2 := hide hs2; have HR := hide hown; have HST := hide hst; have h11 := hst.1.1; have h12 := hst.1.2; have HB2 := hide (below_src' HB1.out ho2); have hz2 := ho2.size; clear hs2 hown hst ho2) | (go_at_call 140; (with_reducible refine (HMV.out st.length _ (by omega) (by omega) HS2.out).mono ?_); rintro e w3 ⟨A2, c2, ms, rfl, hown3, hms, hs3, ho3⟩))
  go_ret2
  exact ⟨A1, c1, st, A2, c2, ms, rfl, RdI.of_own (row_only HR.out ho3 (by omega)), Rd.of_own hown3, HST.out, hms, below_src' HB2.out ho3⟩
set_option maxRecDepth 100000 in
set_option maxHeartbeats 4000000 in
theorem drawBestMoves_any (bs : List Int) (A : Option Addr) (c : Nat) (w : World) (hbs : BsOk bs) (h1 : RdB w w.heap.size A bs) :
    Calls Try.prog 24 #[.slice A bs.length c] w fun e w' => ∃ (A1 : Option Addr) (c1 : Nat) (st : List Int) (A2 : Option Addr) (c2 : Nat) (wa : List Int) (A3 : Option Addr) (c3 : Nat) (l : List TN), e = .returned (.tuple #[.slice A1 st.length c1, .slice A2 wa.length c2, .slice A3 l.length c3]) ∧ RdI w' w'.heap.size A1 st ∧ RdI w' w'.heap.size A2 wa ∧ R_Int64SS w' w'.heap.size (.slice A3 l.length c3) l ∧ ((1 ≤ st.length ∧ st.length ≤ 11) ∧ ∀ z ∈ st, -9223372036854775808 ≤ z ∧ z ≤ 9223372036854775807) ∧ (wa.length ≤ 11 ∧ ∀ z ∈ wa, -9223372036854775808 ≤ z ∧ z ≤ 9223372036854775807) ∧ (SmallN l ∧ ∀ e ∈ l, e.Fits) ∧ Below w.heap.size w w' := by
  have HF := hide (l00From_any bs A c w hbs.1 h1)
  have HD := hide fun W (hW : SrcAt w.heap.size bs 0 W) => draw07_any w.heap.size bs 0 W hbs (by omega) hW
  have HWA := hide fun n A0 c0 W (h1 : 1 ≤ n) (h2 : n ≤ 11) (hW : SrcAt w.heap.size bs (0 + 20) W) => drawWants_any w.heap.size bs (0 + 20) n A0 c0 W hbs (by omega) h1 h2 hW
  have HP := hide fun M n W (hM : M ≤ 1099511000000) (hW : SrcAt w.heap.size bs M W) => pick_any w.heap.size bs M n W hbs hM hW
  have HO1 := hide fun M n W (hM : M ≤ 1099511000000) (hW : SrcAt w.heap.size bs M W) => one_any w.heap.size bs M n W hbs hM hW
  have HCO := hide fun n W (h1 : 1 ≤ n) (h2 : n ≤ 11) (hW : SrcAt w.heap.size bs 100 W) => drawCosts_any w.heap.size bs 100 n W hbs (by omega) h1 h2 hW
  clear h1
  go_enter Try.func24, Try.ntmps24
  go_upto_if 16 with (first | (go_at_call 130; (with_reducible refine (HF.out).mono ?_); rintro e w1 ⟨rfl, hs1, hz1, hb1⟩; have HS := hide hs1; have hz1a := Nat.le_of_eq hz1.symm; have HB1 := hide hb1; clear hs1 hz1 hb1) | (go_at_call 131; (with_reducible refine (HD.out _ HS.out).mono ?_); rintro e w2 ⟨A1, c1, st, rfl, hown, hst, hs2, ho2⟩; have HS2 := hide hs2; have HR := hide hown; have HST := hide hst; have h11 := hst.1.1; have h12 := hst.1.2; have HB2 := hide (below_src' HB1.out ho2); have hz2 := ho2.size; clear hs2 hown hst ho2) | (go_at_call 132; (with_reducible refine (HWA.out st.length _ _ _ h11 h12 HS2.out).mono ?_); rintro e w3 ⟨A2, c2, wa, rfl, hra, hwa, hs3, ho3⟩; have HRA := hide hra; have HWW := hide hwa; have HS3 := hide hs3; have HB3 := hide (below_src' HB2.out ho3); have hz3 := ho3.size; have HR3 := hide (row_only HR.out ho3 (by omega)); clear hra hwa hs3 ho3) | (go_at_call 133; (with_reducible refine (HO1.out (0 + 20 + 60) 8 _ (by omega) HS3.out).mono ?_); rintro e w4 ⟨v, rfl, hs4, ho4⟩))
  have HS4 := hide hs4
  have HB4 := hide (below_src' HB3.out ho4)
  have HR4 := hide (row_only HR3.out ho4 (by omega))
  have HRA4 := hide fun W (hW : Only w.heap.size (w.heap.size + 1) w4 W) => HRA.out W (only_trans ho4 hW)
  have hz4 := ho4.size
  clear hs4 ho4 HS HS2 HS3 HB1 HB2 HB3 HR HR3 HRA
  go_cut [6, 7] (fun sv wv wx => ∃ (A1 : Option Addr) (c1 : Nat) (st : List Int) (A2 : Option Addr) (c2 : Nat) (wa : List Int), sv = .slice A1 st.length c1 ∧ wv = .slice A2 wa.length c2 ∧ Hid (∀ W, Only w.heap.size (w.heap.size + 1) wx W → RdI W W.heap.size A1 st) ∧ Hid (∀ W, Only w.heap.size (w.heap.size + 1) wx W → RdI W W.heap.size A2 wa) ∧ (1 ≤ st.length ∧ st.length ≤ 11) ∧ Hid (∀ z ∈ st, -9223372036854775808 ≤ z ∧ z ≤ 9223372036854775807) ∧ Hid (wa.length ≤ 11 ∧ ∀ z ∈ wa, -9223372036854775808 ≤ z ∧ z ≤ 9223372036854775807) ∧ Hid (SrcAt w.heap.size bs 100 wx) ∧ Hid (Below w.heap.size w wx) ∧ w.heap.size < wx.heap.size)
  case first =>
    cases v
    · go_wp2_with fail
      go_meet
      exact ⟨A1, c1, st, A2, c2, wa, rfl, rfl, hide fun W hW => RdI.of_own (row_only HR4.out hW (by omega)), HRA4, ⟨h11, h12⟩, HST.out.2, ⟨HWW.out.1, fun z hz => by have := HWW.out.2 z hz; omega⟩, HS4.out.more (by omega), HB4, by omega⟩
    · have S5 := hide (HS4.out.alloc (.cells #[.int .i64 9, .int .i64 9, .int .i64 0] 2))
      have B5 := hide (HB4.out.alloc (by omega) (.cells #[.int .i64 9, .int .i64 9, .int .i64 0] 2))
      have hz5 : w.heap.size < (w4.alloc (.cells #[.int .i64 9, .int .i64 9, .int .i64 0] 2)).heap.size := by simp; omega
      have HC := hide (HP.out (0 + 20 + 60 + 2) 2 _ (by omega) S5.out)
      go_wp2_with (go_at_call 134; (with_reducible refine (HC.out).mono ?_); rintro e w6 ⟨y, rfl, ⟨hy0, hy1', _⟩, hs6, ho6⟩; have hy1 := hy1' (by omega); have hwy : IntKind.i64.wrap (6 + y) = 6 + y := (by rw [IntKind.wrap_i64] <;> omega); clear hy1')
      go_meet
      have hz6 := ho6.size
      exact ⟨some ⟨w4.heap.size, 0, none⟩, 3, [9, 9, 0], some ⟨w6.heap.size, 0, none⟩, 3, [0, 0, 6 + y], rfl, (by simp), hide fun W hW => rdI_new (xs := [9, 9, 0]) (by omega) (only_trans ho6 (only_trans (only_alloc (only_refl _ _ _) _) hW)), hide fun W hW => rdI_new (xs := [0, 0, 6 + y]) (by omega) hW, ⟨by simp, by simp⟩, hide fun z hz => by simp at hz; omega, ⟨by simp, fun z hz => by simp at hz; omega⟩, (hs6.alloc (.cells #[.int .i64 0, .int .i64 0, .int .i64 (6 + y)] 2)).more (by omega), (below_src' B5.out ho6).alloc (by omega) (.cells #[.int .i64 0, .int .i64 0, .int .i64 (6 + y)] 2), by simp; omega⟩
  case rest =>
    obtain ⟨A1, c1, st, A2, c2, wa, rfl, rfl, HRS, HRW, ⟨h1, h2⟩, HFS, HFW, HS, HB, hzx⟩ := hcut
    clear HS4 HB4 HR4 HRA4 HST HWW
    go_wp2_with (go_at_call 135; (with_reducible refine (HCO.out st.length _ h1 h2 HS.out).mono ?_); rintro e w6 ⟨A3, c3, l, rfl, hr6, hl6, ho6⟩)
    go_ret3
    exact ⟨A1, c1, st, A2, c2, wa, A3, c3, l, rfl, HRS.out w6 ho6, HRW.out w6 ho6, hr6, ⟨⟨h1, h2⟩, HFS.out⟩, HFW.out, ⟨by have := co_small (by omega) hl6.2; unfold SmallN; omega, fun e he => (hl6.2 e he).fits⟩, below_src' HB.out ho6⟩
end Go.Proofs.Ytklfjekpeoigoaa
namespace Go.Proofs.Ytklfjekpeoigoaa
open Go.RowKit
theorem MvOk.fits {n : Int} {m : T3} (h : MvOk n m) (hn : n ≤ 1000) : m.Fits := by unfold MvOk at h; exact ⟨⟨by omega, by omega⟩, ⟨by omega, by omega⟩, by omega, by omega⟩
set_option maxRecDepth 100000 in
set_option maxHeartbeats 4000000 in
theorem drawSame_any (bs : List Int) (A : Option Addr) (c : Nat) (w : World) (hbs : BsOk bs) (h1 : RdB w w.heap.size A bs) :
    Calls Try.prog 33 #[.slice A bs.length c] w fun e w' => ∃ (A1 : Option Addr) (c1 : Nat) (l : List T3) (A2 : Option Addr) (c2 : Nat) (l2 : List T3), e = .returned (.tuple #[.slice A1 l.length c1, .slice A2 l2.length c2]) ∧ Rd3 w' w'.heap.size A1 l ∧ Rd3 w' w'.heap.size A2 l2 ∧ (l.length ≤ 41 ∧ ∀ z ∈ l, z.Fits) ∧ (l2.length ≤ 42 ∧ ∀ z ∈ l2, z.Fits) ∧ Below w.heap.size w w' := by
  obtain ⟨i0, hi0, hz0, hs0, hb0⟩ := info_parts Move_inf
  have HF := hide (l00From_any bs A c w hbs.1 h1)
  have HP := hide fun M n W (hM : M ≤ 1099511000000) (hW : SrcAt w.heap.size bs M W) => pick_any w.heap.size bs M n W hbs hM hW
  have HO1 := hide fun M n W (hM : M ≤ 1099511000000) (hW : SrcAt w.heap.size bs M W) => one_any w.heap.size bs M n W hbs hM hW
  have HMV := hide fun W (hW : SrcAt w.heap.size bs 0 W) => drawMoves_any w.heap.size bs 0 4 W hbs (by omega) (by omega) (by omega) hW
  clear h1
  go_enter Try.func33, Try.ntmps33
  go_upto_region 3 with (first | (go_at_call 130; (with_reducible refine (HF.out).mono ?_); rintro e w1 ⟨rfl, hs1, hz1, hb1⟩; have HS := hide hs1; have hz1a := Nat.le_of_eq hz1.symm; have HB1 := hide hb1; clear hs1 hz1 hb1) | (go_at_call 140; (with_reducible refine (HMV.out _ HS.out).mono ?_); rintro e w2 ⟨A1, c1, l, rfl, hown, hl, hs2, ho2⟩))
  have HR := hide hown
  have HL := hide hl
  have hll := hl.1
  have HFT := hide fun z hz => (hl.2 z hz).fits (by omega)
  have HB2 := hide (below_src' HB1.out ho2)
  have hz2 := ho2.size
  have HS2 := hide (hs2.alloc (.cells #[] 143))
  have HN := hide (own_new0 w2 w2.heap.size 143 3 (Nat.le_refl _))
  have HRD := hide ((Rd.of_own hown).below ((Below.refl w2.heap.size w2).alloc (Nat.le_refl _) (.cells #[] 143)))
  have O2 := hide (only_alloc (only_refl w.heap.size (w.heap.size + 1) w2) (.cells #[] 143))
  clear hown hl hs2 ho2 HS HB1 HMV
  go_upto_region 4 with (at_builtin; go_must (refine wp_app _ rfl _ _ 25 rfl w2.heap.size 143 i0 (.agg #[.int .i64 0, .int .i64 0, .int .i64 0]) 3 24 Try.underlying25 hi0 hz0 hs0 hb0 rfl (by decide) _ _ _ rfl HN.out _ _ l.length c1 _ rfl (flatMap_len T3.cells 3 (fun _ => rfl) l) HRD.out (T3.ones _) (by omega) (by decide) (by simp) ?_); intro v3 w3 hown3 hgrow3 hat3)
  rw [Nat.zero_add, List.nil_append] at hown3
  have O3 := hide (only_app O2.out HN.out hgrow3 (Nat.le_refl _))
  have S3 := hide (HS2.out.grown hgrow3 (fun g e => by have := (HN.out.lt g e).1; omega))
  obtain ⟨A3, c3, rfl, hc3, _⟩ := own_shape hown3
  have R3 := hide hown3
  clear hown3 hgrow3 hat3 HS2 HN HRD O2
  go_cut [20] (fun cv wx => ∃ v, cv = .bool v ∧ (v = true → l ≠ []) ∧ Hid (SrcAt w.heap.size bs 2002 wx) ∧ Hid (wx.ownsRow w2.heap.size 143 3 (.slice A3 l.length c3) l.length (l.flatMap T3.cells)) ∧ Hid (Only w.heap.size (w.heap.size + 1) w2 wx))
  case first =>
    cases l with
    | nil =>
      go_wp2_with fail
      go_meet
      exact ⟨false, rfl, fun h => (by cases h), S3.out.more (by omega), R3.out, O3.out⟩
    | cons y rest =>
      have hyl : (0 : Int) < ((y :: rest).length : Int) := by rw [List.length_cons]; omega
      go_wp2_with (go_at_call 133; (with_reducible refine (HO1.out (0 + 2000) 2 _ (by omega) S3.out).mono ?_); rintro e w4 ⟨v, rfl, hs4, ho4⟩)
      go_meet
      exact ⟨v, rfl, fun _ => List.cons_ne_nil _ _, hs4.more (by omega), row_only R3.out ho4 (by omega), only_trans O3.out ho4⟩
  case rest =>
    obtain ⟨v, rfl, hvl, S4, R4, O4⟩ := hcut
    have hz4 := O4.out.size
    clear S3 R3 O3
    go_upto_if 20 with fail
    go_cut [6] (fun sv wx => ∃ (A2 : Option Addr) (c2 : Nat) (l2 : List T3), sv = .slice A2 l2.length c2 ∧ wx.ownsRow w2.heap.size 143 3 (.slice A2 l2.length c2) l2.length (l2.flatMap T3.cells) ∧ l2.length ≤ 41 ∧ Hid (∀ z ∈ l2, z.Fits) ∧ Hid (SrcAt w.heap.size bs 2010 wx) ∧ Hid (Only w.heap.size (w.heap.size + 1) w2 wx))
    case first =>
      cases v
      · go_wp2_with fail
        go_meet
        exact ⟨A3, c3, l, rfl, R4.out, hll, HFT, S4.out.more (by omega), O4.out⟩
      · have hne := hvl rfl
        cases l with
        | nil => exact absurd rfl hne
        | cons y rest =>
          obtain ⟨g3, rfl, hg3, hg3b⟩ := own_posN' R4.out (by simp)
          have HFY := hide (HFT.out y (List.mem_cons_self ..))
          have hyc := (HL.out.2 y (List.mem_cons_self ..)).2.2
          have hyc0 := hyc.1
          have hyc1 := hyc.2
          clear hyc hne hvl
          go_wp2_with fail
          have SD : Hid (SrcAt w.heap.size bs 2002 wc.drew) := S4.out.below (B := w.heap.size + 1) (Below.refl _ _).drew (Nat.lt_succ_self _)
          have RD : Hid (wc.drew.ownsRow w2.heap.size 143 3 (.slice (some ⟨g3, 0, none⟩) (y :: rest).length c3) (y :: rest).length ((y :: rest).flatMap T3.cells)) := R4.out
          have OD := hide (only_trans O4.out (only_of_below (Below.refl _ wc).drew))
          have zd : w2.heap.size ≤ wc.drew.heap.size := hz4
          clear O4 R4 S4
          refine wp_region_held_drew (S := fun W => True) (by kernel_rfl) (trivial) (fun hHeld => ?_)
          generalize wc.drew = wd at *
          have HC := hide (HP.out 2002 2 _ (by omega) SD.out)
          have e0 : wd.cell? ⟨g3, 2, none⟩ = some (.int .i64 y.c) := (RD.out.cellAt 2 (by simp; omega)).trans rfl
          refine wpAnyH_take (i := 0) (v := ?_) rfl (by kernel_rfl) (by kernel_rfl) (by kernel_rfl) (fun _ _ _ h => h) (Or.inl ⟨by rfl, ?_⟩) (by assumption) ?_
          rotate_left 1
          · (intro w hSw; (try dsimp only at hSw); go_simp; try with_reducible rfl)
          try simp only [Act.put, List.getElem_toArray, List.getElem_cons_succ, List.getElem_cons_zero, List.setIfInBounds_toArray, List.set_cons_zero, List.set_cons_succ]
          refine wpAnyH_take (i := 1) (v := ?_) rfl (by kernel_rfl) (by kernel_rfl) (by kernel_rfl) (fun _ _ _ h => h) (Or.inl ⟨by rfl, ?_⟩) (by assumption) ?_
          rotate_left 1
          · (intro w hSw; (try dsimp only at hSw); go_simp; try with_reducible rfl)
          try simp only [Act.put, List.getElem_toArray, List.getElem_cons_succ, List.getElem_cons_zero, List.setIfInBounds_toArray, List.set_cons_zero, List.set_cons_succ]
          refine wpAnyH_take (i := 2) (v := ?_) rfl (by kernel_rfl) (by kernel_rfl) (by kernel_rfl) (fun _ _ _ h => h) (Or.inl ⟨by rfl, ?_⟩) (by assumption) ?_
          rotate_left 1
          · (intro w hSw; (try dsimp only at hSw); go_simp; try with_reducible rfl)
          try simp only [Act.put, List.getElem_toArray, List.getElem_cons_succ, List.getElem_cons_zero, List.setIfInBounds_toArray, List.set_cons_zero, List.set_cons_succ]
          refine wpAnyH_take (i := 4) (v := ?_) rfl (by kernel_rfl) (by kernel_rfl) (by kernel_rfl) (fun _ _ _ h => h) (Or.inl ⟨by rfl, ?_⟩) (by assumption) ?_
          rotate_left 1
          · (intro w hSw; (try dsimp only at hSw); go_simp; try with_reducible rfl)
          try simp only [Act.put, List.getElem_toArray, List.getElem_cons_succ, List.getElem_cons_zero, List.setIfInBounds_toArray, List.set_cons_zero, List.set_cons_succ]
          refine wpAnyH_ready (rs := [3, 5]) (by kernel_rfl) (by simp) ?_
          refine AllReadyH.cons rfl (fun K hK => ?_) (AllReadyH.cons rfl (fun K hK => ?_) AllReadyH.nil)
          · try simp only [Act.put, List.getElem_toArray, List.getElem_cons_succ, List.getElem_cons_zero, List.setIfInBounds_toArray, List.set_cons_zero, List.set_cons_succ]
            go_simp
            refine hK.out _ _ (trivial) (fun hHeld => ?_)
            clear hK K
            try simp only [Act.put, List.getElem_toArray, List.getElem_cons_succ, List.getElem_cons_zero, List.setIfInBounds_toArray, List.set_cons_zero, List.set_cons_succ]
            refine wpAnyH_ready (rs := [5]) (by kernel_rfl) (by simp) ?_
            refine AllReadyH.cons rfl (fun K hK => ?_) AllReadyH.nil
            try simp only [Act.put, List.getElem_toArray, List.getElem_cons_succ, List.getElem_cons_zero, List.setIfInBounds_toArray, List.set_cons_zero, List.set_cons_succ]
            go_simp
            go_at_call 134
            refine (HC.out).mono ?_
            rintro e w5 ⟨u, rfl, ⟨hu0, hu1', _⟩, hs5, ho5⟩
            have hu1 := hu1' (by omega)
            have hwu : IntKind.i64.wrap (y.c + u) = y.c + u := by rw [IntKind.wrap_i64] <;> omega
            have R5 := hide (row_only RD.out ho5 (by omega))
            have e5 : w5.cell? ⟨g3, 2, none⟩ = some (.int .i64 y.c) := (R5.out.cellAt 2 (by simp; omega)).trans rfl
            have f5 := R5.out.frozenAt 2
            have ST := hide (R5.out.stored 2 (.int .i64 (y.c + u)))
            clear hu1'
            dsimp only
            refine hK.out _ _ (trivial) (fun hHeld => ?_)
            clear hK K
            try simp only [Act.put, List.getElem_toArray, List.getElem_cons_succ, List.getElem_cons_zero, List.setIfInBounds_toArray, List.set_cons_zero, List.set_cons_succ]
            refine wpAnyH_take (i := 6) (v := ?_) rfl (by kernel_rfl) (by kernel_rfl) (by kernel_rfl) (fun _ _ _ h => h) (Or.inl ⟨by rfl, ?_⟩) (by assumption) ?_
            rotate_left 1
            · (intro w hSw; (try dsimp only at hSw); go_simp; try with_reducible rfl)
            try simp only [Act.put, List.getElem_toArray, List.getElem_cons_succ, List.getElem_cons_zero, List.setIfInBounds_toArray, List.set_cons_zero, List.set_cons_succ]
            refine wpAnyH_take (i := 7) (v := ?_) rfl (by kernel_rfl) (by kernel_rfl) (by kernel_rfl) (fun _ _ _ h => h) (Or.inl ⟨by rfl, ?_⟩) (by assumption) ?_
            rotate_left 1
            · (intro w hSw; (try dsimp only at hSw); go_simp; try with_reducible rfl)
            try simp only [Act.put, List.getElem_toArray, List.getElem_cons_succ, List.getElem_cons_zero, List.setIfInBounds_toArray, List.set_cons_zero, List.set_cons_succ]
            refine wpAnyH_take (i := 8) (v := ?_) rfl (by kernel_rfl) (by kernel_rfl) (by kernel_rfl) (fun _ _ _ h => h) (Or.inl ⟨by rfl, ?_⟩) (by assumption) ?_
            rotate_left 1
            · (intro w hSw; (try dsimp only at hSw); go_simp; try with_reducible rfl)
            try simp only [Act.put, List.getElem_toArray, List.getElem_cons_succ, List.getElem_cons_zero, List.setIfInBounds_toArray, List.set_cons_zero, List.set_cons_succ]
            refine wpAnyH_ready (rs := [9]) (by kernel_rfl) (by simp) ?_
            refine AllReadyH.cons rfl (fun K hK => ?_) AllReadyH.nil
            try simp only [Act.put, List.getElem_toArray, List.getElem_cons_succ, List.getElem_cons_zero, List.setIfInBounds_toArray, List.set_cons_zero, List.set_cons_succ]
            go_simp
            refine hK.out _ _ (trivial) (fun hHeld => ?_)
            clear hK K
            try simp only [Act.put, List.getElem_toArray, List.getElem_cons_succ, List.getElem_cons_zero, List.setIfInBounds_toArray, List.set_cons_zero, List.set_cons_succ]
            refine wpAnyH_done (by kernel_rfl) ?_ _
            go_wp2_with fail
            go_meet
            refine ⟨some ⟨g3, 0, none⟩, c3, ⟨y.a, y.b, y.c + u⟩ :: rest, rfl, ST.out.1, by rw [List.length_cons] at *; omega, hide fun z hz => ?_, (hs5.grown ST.out.2 (fun g h => by have h0 : (some g3 : Option Nat) = some g := h; have h1 := Option.some.inj h0; omega)).more (by omega), only_grown (only_trans OD.out ho5) ST.out.2 (fun g h => by have h0 : (some g3 : Option Nat) = some g := h; have h1 := Option.some.inj h0; omega)⟩
            rcases List.mem_cons.1 hz with rfl | hz
            · exact ⟨HFY.out.1, HFY.out.2.1, by dsimp only; omega, by dsimp only; omega⟩
            · exact HFT.out z (List.mem_cons_of_mem _ hz)
          · try simp only [Act.put, List.getElem_toArray, List.getElem_cons_succ, List.getElem_cons_zero, List.setIfInBounds_toArray, List.set_cons_zero, List.set_cons_succ]
            go_simp
            go_at_call 134
            refine (HC.out).mono ?_
            rintro e w5 ⟨u, rfl, ⟨hu0, hu1', _⟩, hs5, ho5⟩
            have hu1 := hu1' (by omega)
            have hwu : IntKind.i64.wrap (y.c + u) = y.c + u := by rw [IntKind.wrap_i64] <;> omega
            have R5 := hide (row_only RD.out ho5 (by omega))
            have e5 : w5.cell? ⟨g3, 2, none⟩ = some (.int .i64 y.c) := (R5.out.cellAt 2 (by simp; omega)).trans rfl
            have f5 := R5.out.frozenAt 2
            have ST := hide (R5.out.stored 2 (.int .i64 (y.c + u)))
            clear hu1'
            dsimp only
            refine hK.out _ _ (trivial) (fun hHeld => ?_)
            clear hK K
            try simp only [Act.put, List.getElem_toArray, List.getElem_cons_succ, List.getElem_cons_zero, List.setIfInBounds_toArray, List.set_cons_zero, List.set_cons_succ]
            refine wpAnyH_ready (rs := [3]) (by kernel_rfl) (by simp) ?_
            refine AllReadyH.cons rfl (fun K hK => ?_) AllReadyH.nil
            try simp only [Act.put, List.getElem_toArray, List.getElem_cons_succ, List.getElem_cons_zero, List.setIfInBounds_toArray, List.set_cons_zero, List.set_cons_succ]
            go_simp
            refine hK.out _ _ (trivial) (fun hHeld => ?_)
            clear hK K
            try simp only [Act.put, List.getElem_toArray, List.getElem_cons_succ, List.getElem_cons_zero, List.setIfInBounds_toArray, List.set_cons_zero, List.set_cons_succ]
            refine wpAnyH_take (i := 6) (v := ?_) rfl (by kernel_rfl) (by kernel_rfl) (by kernel_rfl) (fun _ _ _ h => h) (Or.inl ⟨by rfl, ?_⟩) (by assumption) ?_
            rotate_left 1
            · (intro w hSw; (try dsimp only at hSw); go_simp; try with_reducible rfl)
            try simp only [Act.put, List.getElem_toArray, List.getElem_cons_succ, List.getElem_cons_zero, List.setIfInBounds_toArray, List.set_cons_zero, List.set_cons_succ]
            refine wpAnyH_take (i := 7) (v := ?_) rfl (by kernel_rfl) (by kernel_rfl) (by kernel_rfl) (fun _ _ _ h => h) (Or.inl ⟨by rfl, ?_⟩) (by assumption) ?_
            rotate_left 1
            · (intro w hSw; (try dsimp only at hSw); go_simp; try with_reducible rfl)
            try simp only [Act.put, List.getElem_toArray, List.getElem_cons_succ, List.getElem_cons_zero, List.setIfInBounds_toArray, List.set_cons_zero, List.set_cons_succ]
            refine wpAnyH_take (i := 8) (v := ?_) rfl (by kernel_rfl) (by kernel_rfl) (by kernel_rfl) (fun _ _ _ h => h) (Or.inl ⟨by rfl, ?_⟩) (by assumption) ?_
            rotate_left 1
            · (intro w hSw; (try dsimp only at hSw); go_simp; try with_reducible rfl)
            try simp only [Act.put, List.getElem_toArray, List.getElem_cons_succ, List.getElem_cons_zero, List.setIfInBounds_toArray, List.set_cons_zero, List.set_cons_succ]
            refine wpAnyH_ready (rs := [9]) (by kernel_rfl) (by simp) ?_
            refine AllReadyH.cons rfl (fun K hK => ?_) AllReadyH.nil
            try simp only [Act.put, List.getElem_toArray, List.getElem_cons_succ, List.getElem_cons_zero, List.setIfInBounds_toArray, List.set_cons_zero, List.set_cons_succ]
            go_simp
            refine hK.out _ _ (trivial) (fun hHeld => ?_)
            clear hK K
            try simp only [Act.put, List.getElem_toArray, List.getElem_cons_succ, List.getElem_cons_zero, List.setIfInBounds_toArray, List.set_cons_zero, List.set_cons_succ]
            refine wpAnyH_done (by kernel_rfl) ?_ _
            go_wp2_with fail
            go_meet
            refine ⟨some ⟨g3, 0, none⟩, c3, ⟨y.a, y.b, y.c + u⟩ :: rest, rfl, ST.out.1, by rw [List.length_cons] at *; omega, hide fun z hz => ?_, (hs5.grown ST.out.2 (fun g h => by have h0 : (some g3 : Option Nat) = some g := h; have h1 := Option.some.inj h0; omega)).more (by omega), only_grown (only_trans OD.out ho5) ST.out.2 (fun g h => by have h0 : (some g3 : Option Nat) = some g := h; have h1 := Option.some.inj h0; omega)⟩
            rcases List.mem_cons.1 hz with rfl | hz
            · exact ⟨HFY.out.1, HFY.out.2.1, by dsimp only; omega, by dsimp only; omega⟩
            · exact HFT.out z (List.mem_cons_of_mem _ hz)
    case rest =>
      obtain ⟨A2, c2, l2, rfl, hown6, hl6, HF6, HS6, HO6⟩ := hcut
      have R6 := hide hown6
      have HW := hide (row_only HR.out HO6.out (by omega))
      have hz6 := HO6.out.size
      clear hown6 R4 S4 O4
      go_upto_if 31 with (go_at_call 133; (with_reducible refine (HO1.out 2010 5 _ (by omega) HS6.out).mono ?_); rintro e w6 ⟨v, rfl, hs6, ho6⟩)
      have S6 := hide hs6
      have O7 := hide (only_trans HO6.out ho6)
      have R7 := hide (row_only R6.out ho6 (by omega))
      have W7 := hide (row_only HW.out ho6 (by omega))
      have hz7 := ho6.size
      clear hs6 ho6 R6 HW HS6 HO6
      cases v
      · go_wp2_with fail
        go_ret2
        exact ⟨A1, c1, l, A2, c2, l2, rfl, Rd.of_own W7.out, Rd.of_own R7.out, ⟨hll, HFT.out⟩, ⟨by omega, HF6.out⟩, below_src' HB2.out O7.out⟩
      · have HRW := hide (R7.out.alloc (.cells #[.int .i64 0, .int .i64 0, .int .i64 0] 143))
        have O8 := hide (only_alloc O7.out (.cells #[.int .i64 0, .int .i64 0, .int .i64 0] 143))
        have W8 := hide (W7.out.alloc (.cells #[.int .i64 0, .int .i64 0, .int .i64 0] 143))
        go_wp2_with (at_builtin; go_must (refine wp_app _ rfl _ _ 25 rfl w2.heap.size 143 i0 (.agg #[.int .i64 0, .int .i64 0, .int .i64 0]) 3 24 Try.underlying25 hi0 hz0 hs0 hb0 rfl (by decide) _ _ _ rfl HRW.out _ _ 1 1 [.int .i64 0, .int .i64 0, .int .i64 0] rfl rfl (rd_new _ _ _ _ (by simp)) (by intro q hq; simp at hq; subst hq; rfl) (by omega) (by decide) (by first | omega | (simp <;> omega) | (simp; omega)) ?_); intro v7 w7 hown7 hgrow7 hat7)
        have O9 := only_app O8.out HRW.out hgrow7 (Nat.le_refl _)
        obtain ⟨A7, c7, rfl, _⟩ := own_shape hown7
        go_ret2
        have hW9 := W8.out.kept hgrow7 (by
          cases h9 : (Value.slice A1 l.length c1).ownBlock with
          | none => exact .inl rfl
          | some g => exact .inr (fun e => by have h1 := (HR.out.lt g h9).2; have h2 := (HRW.out.lt g e.symm).1; omega))
        have hl3 : (l2 ++ [(⟨0, 0, 0⟩ : T3)]).length = l2.length + 1 := by simp
        have hrow : w7.ownsRow w2.heap.size 143 3 (.slice A7 (l2 ++ [(⟨0, 0, 0⟩ : T3)]).length c7) (l2 ++ [(⟨0, 0, 0⟩ : T3)]).length ((l2 ++ [(⟨0, 0, 0⟩ : T3)]).flatMap T3.cells) := by
          rw [hl3, List.flatMap_append]; exact hown7
        refine ⟨A1, c1, l, A7, c7, l2 ++ [(⟨0, 0, 0⟩ : T3)], by rw [hl3]; rfl, Rd.of_own hW9, Rd.of_own hrow, ⟨hll, HFT.out⟩, ⟨by omega, fun z hz => ?_⟩, below_src' HB2.out O9⟩
        rcases List.mem_append.1 hz with hz | hz
        · exact HF6.out z hz
        · rw [List.mem_singleton] at hz; subst hz; exact ⟨by dsimp only; omega, by dsimp only; omega, by dsimp only; omega⟩
end Go.Proofs.Ytklfjekpeoigoaa
namespace Go.Proofs.Ytklfjekpeoigoaa
open Go.RowKit

/-- What holds in all worlds from here on. -/
def Fut (w : World) (P : World → Prop) : Prop := ∀ W, Below w.heap.size w W → P W
theorem Fut.step {w w2 : World} {P : World → Prop} (h : Fut w P) (b : Below w.heap.size w w2) : Fut w2 P := fun W hW => h W (b.trans (hW.mono b.size))
theorem Fut.now {w : World} {P : World → Prop} (h : Fut w P) : P w := h w (Below.refl _ _)
theorem fut_below {w0 w : World} (b : Below w0.heap.size w0 w) : Fut w (fun W => Below w0.heap.size w0 W) := fun _ hW => b.trans (hW.mono b.size)
theorem fut_I {w : World} {A : Option Addr} {xs : List Int} (c : Nat) (h : RdI w w.heap.size A xs) : Fut w (fun W => R_Int64S W W.heap.size (.slice A xs.length c) xs) := fun _ hW => ⟨A, c, rfl, (h.below hW).more hW.size⟩
theorem fut_3 {w : World} {A : Option Addr} {xs : List T3} (c : Nat) (h : Rd3 w w.heap.size A xs) : Fut w (fun W => R_MoveS W W.heap.size (.slice A xs.length c) xs) := fun _ hW => ⟨A, c, rfl, (h.below hW).more hW.size⟩
theorem fut_R {w : World} {v : Value} {xs : List Int} (h : R_Int64S w w.heap.size v xs) : Fut w (fun W => R_Int64S W W.heap.size v xs) := fun _ hW => (h.below hW).more hW.size
theorem fut_M {w : World} {v : Value} {xs : List T3} (h : R_MoveS w w.heap.size v xs) : Fut w (fun W => R_MoveS W W.heap.size v xs) := fun _ hW => (h.below hW).more hW.size
theorem fut_S {w : World} {v : Value} {xs : List TN} (h : R_Int64SS w w.heap.size v xs) : Fut w (fun W => R_Int64SS W W.heap.size v xs) := fun _ hW => (h.below hW).more hW.size
theorem rdI_of {w : World} {B : Nat} {A : Option Addr} {n c : Nat} {xs : List Int} (h : R_Int64S w B (.slice A n c) xs) : RdI w B A xs := by
  obtain ⟨A3, c3, e3, r3⟩ := h
  simp only [Value.slice.injEq] at e3
  rw [e3.1]; exact r3
theorem rd3_of {w : World} {B : Nat} {A : Option Addr} {n c : Nat} {xs : List T3} (h : R_MoveS w B (.slice A n c) xs) : Rd3 w B A xs := by
  obtain ⟨A3, c3, e3, r3⟩ := h
  simp only [Value.slice.injEq] at e3
  rw [e3.1]; exact r3
theorem send_st {n : Nat} : ∀ {ms : List T3} {st : List Int} {k : Nat}, st.length = n → StOk st → (∀ m ∈ ms, okMove n m = true) → StOk (sendFrom st ms k).1 := by
  intro ms
  induction ms with
  | nil => intro st k _ h _; exact h
  | cons m ms ih =>
    intro st k hl h hm
    obtain ⟨i, j, za, zb, e, hi, hj, hij, hc, _⟩ := move_at (zs := st) (m := m) (by rw [hl]; exact hm m (List.mem_cons_self ..))
    rw [sendFrom, e, send1_at hi hj]
    by_cases h1 : za < m.c
    · rw [if_pos h1]; exact h
    · rw [if_neg h1]
      exact ih (by rw [List.length_set, List.length_set]; exact hl) (stOk_send h hi hj hij hc (by omega)) fun x hx => hm x (List.mem_cons_of_mem _ hx)
theorem send_bd {st : List Int} {ms : List T3} (h : (sendAll st ms).2.2 = 0) : (∀ z ∈ (sendAll st ms).1, 0 ≤ z ∧ z ≤ 200) ∧ (∀ z ∈ st, 0 ≤ z ∧ z ≤ 200) ∧ (sendAll st ms).1.length ≤ 10 ∧ st.length ≤ 10 ∧ ∀ m ∈ ms, m.Fits := by
  have hs := sendAll_sum h
  unfold sendAll at h ⊢
  by_cases h1 : vStock st = true
  · rw [if_pos h1] at h ⊢
    by_cases h2 : vMoves st.length ms = true
    · rw [if_pos h2]
      obtain ⟨h3, h4, h5⟩ := stOk_of h1
      have h6 := send_st (ms := ms) (st := st) (k := 0) rfl h3 (vMoves_iff.1 h2).1
      have h7 := hs.2.2
      unfold sendAll at h7
      rw [if_pos h1, if_pos h2] at h7
      dsimp only at h7 ⊢
      have bd : ∀ {l : List Int}, StOk l → ∀ z ∈ l, 0 ≤ z ∧ z ≤ 200 := fun hl z hz => by
        have := hl.1 z hz
        have := le_sum hl.1 z hz
        have := hl.2
        omega
      refine ⟨bd h6, bd h3, by omega, h5, fun m hm => ?_⟩
      have := okMove_iff.1 ((vMoves_iff.1 h2).1 m hm)
      exact ⟨⟨by omega, by omega⟩, ⟨by omega, by omega⟩, by omega, by omega⟩
    · rw [if_neg h2] at h; cases h
  · rw [if_neg h1] at h; cases h
theorem cost_fits {ms : List T3} {l : List TN} (h : (costOfMoves ms l).2 = 0) : (∀ m ∈ ms, m.Fits) ∧ ms.length ≤ 40 := by
  unfold costOfMoves at h
  by_cases h1 : inB 2 10 l.length = true ∧ vCosts l.length l = true
  · rw [if_pos h1] at h
    by_cases h2 : vMoves l.length ms = true
    · have h3 := inB_iff.1 h1.1
      refine ⟨fun m hm => ?_, (vMoves_iff.1 h2).2⟩
      have := okMove_iff.1 ((vMoves_iff.1 h2).1 m hm)
      exact ⟨⟨by omega, by omega⟩, ⟨by omega, by omega⟩, by omega, by omega⟩
    · rw [if_neg h2] at h; cases h
  · rw [if_neg h1] at h; cases h
set_option maxRecDepth 100000 in
set_option maxHeartbeats 1000000 in
theorem f6sum_any (xs : List Int) (A : Option Addr) (c : Nat) (w : World) (hx : xs.length ≤ 1048576) (hz : ∀ z ∈ xs, -1099511627776 ≤ z ∧ z ≤ 1099511627776) (h1 : RdI w w.heap.size A xs) :
    Calls Try.prog 39 #[.slice A xs.length c] w fun e w' => e = .returned (.int .i64 xs.sum) ∧ w = w' := by
  have HX := hide h1; clear h1
  have HZ := hide hz; clear hz
  go_enter Try.func39, Try.ntmps39
  go_wp2_with fail
  go_loopg [3, 4] xs.length (fun g s i wr => ∃ (k : Nat) (t : Int), k ≤ xs.length ∧ Hid (g = xs.length - k) ∧ i = .int .i64 k ∧ s = .int .i64 t ∧ -(1099511627776 * (k : Int)) ≤ t ∧ t ≤ 1099511627776 * (k : Int) ∧ Hid (xs.sum = t + (xs.drop k).sum) ∧ w = wr)
  case atStart => exact ⟨0, 0, by omega, by simp [Hid], rfl, rfl, by omega, by omega, by simp [Hid], rfl⟩
  case round =>
    obtain ⟨k, t, hk, hg, rfl, rfl, ht1, ht2, HS, rfl⟩ := hrel
    by_cases hlt : k < xs.length
    · obtain ⟨b1, o1, z1, rfl, _, hz1, hc1⟩ := HX.out.at_ hlt
      obtain ⟨hb1, hb2⟩ := HZ.out z1 (List.mem_of_getElem? hz1)
      have HS' : Hid (xs.sum = t + z1 + (xs.drop (k + 1)).sum) := by
        have := HS.out; rw [drop_cons hz1, List.sum_cons] at this; unfold Hid; omega
      clear hz1
      go_wp2_with fail
      go_roundg (xs.length - (k + 1))
      case measure => have := hg.out; omega
      case rel => exact ⟨k + 1, t + z1, by omega, rfl, by go_num, rfl, by omega, by omega, HS', rfl⟩
    · go_wp2_with fail
      go_ret
      refine ⟨ret_i ?_, rfl⟩
      have := HS.out
      rw [List.drop_eq_nil_of_le (by omega)] at this
      simpa using this.symm
end Go.Proofs.Ytklfjekpeoigoaa
