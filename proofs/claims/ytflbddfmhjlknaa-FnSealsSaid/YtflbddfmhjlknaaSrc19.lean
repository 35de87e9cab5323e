/-
  Drawn arguments of CostOfMoves.
-/
import Derived.Test.YtflbddfmhjlknaaSrc18
namespace Go.Proofs.Ytflbddfmhjlknaa
open Go.RowKit
set_option maxRecDepth 100000 in
set_option maxHeartbeats 4000000 in
theorem drawCostOf_any (bs : List Int) (A : Option Addr) (c : Nat) (w : World) (hbs : BsOk bs) (h1 : RdB w w.heap.size A bs) :
    Calls Try.prog 23 #[.slice A bs.length c] w fun e w' => ∃ (A1 : Option Addr) (c1 : Nat) (ms : List T3) (A2 : Option Addr) (c2 : Nat) (l : List TN), e = .returned (.tuple #[.slice A1 ms.length c1, .slice A2 l.length c2]) ∧ R_MoveS w' w'.heap.size (.slice A1 ms.length c1) ms ∧ (ms.length ≤ 41 ∧ ∀ z ∈ ms, z.Fits) ∧ R_Int64SS w' w'.heap.size (.slice A2 l.length c2) l ∧ (SmallN l ∧ ∀ e ∈ l, e.Fits) ∧ Below w.heap.size w w' := by
  have HF := hide (l00From_any bs A c w hbs.1 h1)
  have HP := hide fun M n W (hM : M ≤ 1099511000000) (hW : SrcAt w.heap.size bs M W) => pick_any w.heap.size bs M n W hbs hM hW
  have HO1 := hide fun M n W (hM : M ≤ 1099511000000) (hW : SrcAt w.heap.size bs M W) => one_any w.heap.size bs M n W hbs hM hW
  have HAM := hide fun M g o c xs W (hM : M ≤ 1099511000000) (hW : SrcAt w.heap.size bs M W) => among_any w.heap.size bs M g o c xs W hbs hM hW
  have HMV := hide fun M sn W (hM : M ≤ 1099509000000) (h1 : 1 ≤ sn) (h2 : sn ≤ 1000) (hW : SrcAt w.heap.size bs M W) => drawMoves_any w.heap.size bs M sn W hbs hM h1 h2 hW
  have HCO := hide fun M n W (hM : M ≤ 1099509000000) (h1 : 1 ≤ n) (h2 : n ≤ 11) (hW : SrcAt w.heap.size bs M W) => drawCosts_any w.heap.size bs M n W hbs hM h1 h2 hW
  clear h1
  go_enter Try.func23, Try.ntmps23
  go_upto_if 13 with (first | (go_at_call 77; (with_reducible refine (HF.out).mono ?_); rintro e w1 ⟨rfl, hs1, hz1, hb1⟩; have HS := hide hs1; have hz1a := Nat.le_of_eq hz1.symm; have HB1 := hide hb1; clear hs1 hz1 hb1) | (go_at_call 79; (with_reducible refine (HP.out 0 4 _ (by omega) HS.out).mono ?_); rintro e w2 ⟨z, rfl, ⟨hz0, hz3', _⟩, hs2, ho2⟩; have hz3 := hz3' (by omega); obtain ⟨n0, rfl⟩ := Int.eq_ofNat_of_zero_le hz0; have HS2 := hide hs2; have HB2 := hide (below_src' HB1.out ho2); have hz2 := ho2.size; clear hs2 ho2 hz3') | (go_at_call 92; (with_reducible refine (HO1.out (0 + 2) 12 _ (by omega) HS2.out).mono ?_); rintro e w3 ⟨v, rfl, hs3, ho3⟩))
  have HS3 := hide hs3
  have HB3 := hide (below_src' HB2.out ho3)
  have hz3a := ho3.size
  have hzw : w.heap.size < w3.heap.size := by omega
  clear hs3 ho3 HS HS2 HB1 HB2
  go_cut [5] (fun c wx => ∃ n : Nat, c = .int .i64 n ∧ 1 ≤ n ∧ n ≤ 11 ∧ Hid (SrcAt w.heap.size bs 10 wx) ∧ Hid (Below w.heap.size w wx) ∧ w.heap.size < wx.heap.size)
  case first =>
    cases v
    · go_wp2_with fail
      go_meet
      exact ⟨n0 + 2, by go_num, by omega, by omega, HS3.out.more (by omega), HB3.out, hzw⟩
    · have S4 := hide (HS3.out.alloc (.cells #[.int .i64 1, .int .i64 10, .int .i64 11] 2))
      have HB4 := hide (HB3.out.alloc (by omega) (.cells #[.int .i64 1, .int .i64 10, .int .i64 11] 2))
      have ham : Calls Try.prog 93 #[.pointer (some ⟨w.heap.size, 0, none⟩), .slice (some ⟨w3.heap.size, 0, none⟩) 3 3] (w3.alloc (.cells #[.int .i64 1, .int .i64 10, .int .i64 11] 2)) fun e w' => ∃ z, e = .returned (.int .i64 z) ∧ z ∈ ([1, 10, 11] : List Int) ∧ SrcAt w.heap.size bs (0 + 2 + 2 + 2) w' ∧ Only w.heap.size (w.heap.size + 1) (w3.alloc (.cells #[.int .i64 1, .int .i64 10, .int .i64 11] 2)) w' := HAM.out (0 + 2 + 2) w3.heap.size 0 3 ([1, 10, 11] : List Int) _ (by omega) S4.out (by omega) (by simp) (by simp) (by simp) (fun j z hj => by
          match j, hj with
          | 0, hj => simp at hj; subst hj; simp [go_sem]
          | 1, hj => simp at hj; subst hj; simp [go_sem]
          | 2, hj => simp at hj; subst hj; simp [go_sem]
          | j + 3, hj => simp at hj)
      have HAMH := hide ham
      clear ham
      have hzz : w3.heap.size < (w3.alloc (.cells #[.int .i64 1, .int .i64 10, .int .i64 11] 2)).heap.size := by simp
      go_wp2_with (go_at_call 93; (with_reducible refine (HAMH.out).mono ?_); rintro e w4 ⟨z, rfl, hz, hs4, ho4⟩; obtain ⟨n, rfl, hn1, hn11⟩ : ∃ n : Nat, z = n ∧ 1 ≤ n ∧ n ≤ 11 := (by simp at hz; exact ⟨z.toNat, by omega, by omega, by omega⟩))
      go_meet
      exact ⟨n, rfl, hn1, hn11, hs4.more (by omega), below_src' HB4.out ho4, by have := ho4.size; omega⟩
  case rest =>
    obtain ⟨n, rfl, hn1, hn11, HS, HB, hzx⟩ := hcut
    clear HS3 HB3
    go_wp2_with (first | (go_at_call 94; (with_reducible refine (HMV.out 10 (n : Int) _ (by omega) (by omega) (by omega) HS.out).mono ?_); rintro e w5 ⟨A1, c1, ms, rfl, hown, hms, hs5, ho5⟩; have HS5 := hide hs5; have HOW := hide hown; have HMS := hide hms; have HB5 := hide (below_src' HB.out ho5); have hz5 := ho5.size; have hml := hms.1; clear hs5 hown hms ho5) | (go_at_call 95; (with_reducible refine (HCO.out (10 + 2000) n _ (by omega) hn1 hn11 HS5.out).mono ?_); rintro e w6 ⟨A2, c2, l, rfl, hr6, hl6, ho6⟩))
    go_ret2
    have hrow := row_only HOW.out ho6 (by omega)
    have hO : O_MoveS w6 w.heap.size w6.heap.size (.slice A1 ms.length c1) ms := OwnV.of_row (own_base hrow (by omega)) (by omega)
    exact ⟨A1, c1, ms, A2, c2, l, rfl, hO.r, ⟨hml, fun z hz => by have := HMS.out.2 z hz; unfold MvOk at this; exact ⟨⟨by omega, by omega⟩, ⟨by omega, by omega⟩, by omega, by omega⟩⟩, hr6, ⟨by have := co_small hn11 hl6.2; unfold SmallN; omega, fun e he => (hl6.2 e he).fits⟩, below_src' HB5.out ho6⟩
end Go.Proofs.Ytflbddfmhjlknaa
