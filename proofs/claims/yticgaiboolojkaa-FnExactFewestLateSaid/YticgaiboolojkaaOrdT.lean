/-
  All orders and the best one; in the reference: the recursion and the functions.
-/
import Derived.Test.YticgaiboolojkaaOrdS
namespace Go.Proofs.Yticgaiboolojkaa
open Go.RowKit

set_option maxRecDepth 100000 in
set_option maxHeartbeats 8000000 in
theorem walk_any (late : Bool) (ts : List Int) (l : List TN) (hv : vWishes ts l = true) (A0 : Option Addr) (c0 : Nat) (A : Option Addr) (c : Nat) (pb : Nat) (W0 : World) (hpz : pb ≤ W0.heap.size) (h1 : RdI W0 pb A0 ts) (h2 : RN 2 W0 pb A l) :
    ∀ (m : Nat) (done : List Int) (s : List Int × Int) (W : World) (A2 : Option Addr) (c2 : Nat), done.length + m = l.length → GoodO l.length done → Only pb (pb + 1) W0 W → InvS late ts l A0 c0 A c pb s W → O_Int64S W (pb + 1) W.heap.size (.slice A2 done.length c2) done →
    Calls Try.prog 126 #[.pointer (some ⟨pb, 0, none⟩), .slice A2 done.length c2] W fun e w' => e = .returned (.tuple #[]) ∧ InvS late ts l A0 c0 A c pb (ordGoF (valO late ts l) l.length m done s) w' ∧ Only pb (pb + 1) W w' := by
  have hl6 := (vWishes_iff.1 hv).2.1
  intro m
  induction m with
  | zero =>
    intro done s W A2 c2 hl hg ho hi hd
    have hb := ho.below (B := pb) (Nat.le_refl _) hpz
    have hol : done.length = l.length := by omega
    rw [hol] at hd ⊢
    exact walkLeaf_any late ts l A0 c0 A c pb done s A2 c2 W ((h1.below hb).more (by have := hb.size; omega)) ((h2.below hb).more (by have := hb.size; omega)) (hg.code hv hol) hd hi
  | succ m ih =>
    intro done s W A2 c2 hl hg ho hi hd
    obtain ⟨i0, hi0, hz0, hs0, hb0⟩ := info_parts int64_info
    have hB : ((done.length : Int) == (l.length : Int)) = false := by simp; omega
    have IH := hide ih
    have HI := hide hi
    have HG := hide hg
    have HO := hide ho
    have HD := hide hd
    have HL := hide hl
    have hdl : done.length < l.length := by omega
    have hpw : pb + 1 ≤ W.heap.size := by obtain ⟨_, _, _, h⟩ := hi; exact h
    have k1 : W.cell? ⟨pb, 1, none⟩ = some (.slice A l.length c) := by obtain ⟨_, X, _, _⟩ := hi; exact X.cell 1
    clear ih hi hg ho hd hl h1 h2
    go_enter Try.func126, Try.ntmps126
    go_wp2_with fail
    go_loopg [6] l.length (fun g i wr => ∃ (k : Nat) (s' : List Int × Int), k ≤ l.length ∧ Hid (g = l.length - k) ∧ i = .int .i64 k ∧ Hid (ordGoF (valO late ts l) l.length (m + 1) done s = ordFrom (valO late ts l) l.length m done k s') ∧ Hid (InvS late ts l A0 c0 A c pb s' wr) ∧ Hid (Only pb (pb + 1) W wr))
    case atStart => exact ⟨0, s, by omega, by simp [Hid], rfl, ordFrom_zero .., HI, only_of_below (Below.refl _ _)⟩
    case round =>
      obtain ⟨k, s', hk, hgk, rfl, HS, HI', HO'⟩ := hrel
      clear k1
      have k1 : wr.cell? ⟨pb, 1, none⟩ = some (.slice A l.length c) := by obtain ⟨_, X, _, _⟩ := HI'.out; exact X.cell 1
      have hzw := HO'.out.size
      by_cases hlt : k < l.length
      · have hD2 : O_Int64S wr (pb + 1) wr.heap.size (.slice A2 done.length c2) done := own_to HD.out HO'.out (Nat.le_refl _) hzw
        have hknl : (k : Int) < l.length := by omega
        have HC := hide (l00Has_any done k A2 c2 wr (by omega) (own_rdI hD2))
        have HS' := HS.out
        rw [ordFrom_step _ done hlt] at HS'
        cases hh : hasI done k
        · rw [hh, if_neg (by simp)] at HS'
          rw [hh] at HC
          have HQ := hide HS'
          have HGS := hide (HG.out.snoc hlt hh)
          have HCL := hide (l00OwnN_any done A2 c2 wr (by omega) (own_rdI hD2))
          clear HS' hh HS hD2
          go_wp2_with (first | (go_at_call 134; refine (HC.out).mono ?_; rintro e w' ⟨rfl, rfl⟩) | (go_at_call 103; refine (HCL.out).mono ?_; rintro e w2 ⟨A5, c5, rfl, ho5, hb2⟩; have hz2 := hb2.size; have oA := ho5.alloc (.cells #[.int .i64 (k : Int)] 2); have bA := hb2.alloc hb2.size (.cells #[.int .i64 (k : Int)] 2)) | (at_builtin; go_must (refine wp_app _ rfl _ _ 22 rfl (wr.heap.size) 2 i0 (.int .i64 0) 1 8 Try.underlying22 hi0 hz0 hs0 hb0 rfl (by decide) _ _ _ rfl (ho5.alloc _) _ _ 1 1 [.int .i64 k] rfl rfl (rd_new _ _ _ _ (by simp)) (int_one _) (by omega) (by decide) (by simp <;> omega) ?_); intro v7 w4 hown7 hgrow7 hat7))
          obtain ⟨A7, c7, hsh, _, _⟩ := own_shape hown7
          subst hsh
          have b4 := app_below bA oA hgrow7 (Nat.le_refl _) (by simp; omega)
          have hz4 := b4.size
          have hlen : (done ++ [(k : Int)]).length = done.length + 1 := by simp
          have O4 : O_Int64S w4 (pb + 1) w4.heap.size (.slice A7 (done ++ [(k : Int)]).length c7) (done ++ [(k : Int)]) := by
            unfold O_Int64S
            rw [hlen, List.map_append]
            exact OwnV.of_row (own_base hown7 (by omega)) (by omega)
          have ho4 := only_trans HO'.out (only_of_below (lo := pb) (hi := pb + 1) b4)
          have HR := hide (IH.out (done ++ [(k : Int)]) s' w4 A7 c7 (by rw [hlen]; have := HL.out; omega) HGS.out (only_trans HO.out ho4) (HI'.out.below b4) O4)
          rw [hlen] at HR
          clear O4 b4 bA oA ho5 hb2 hown7 hgrow7 hat7 hlen
          go_wp2_with (go_at_call 126; refine (HR.out).mono ?_; rintro e w5 ⟨rfl, hi5, ho5⟩)
          go_roundg (l.length - (k + 1))
          case measure => have := hgk.out; omega
          case rel => exact ⟨k + 1, _, by omega, rfl, by go_num, HQ, hi5, only_trans ho4 ho5⟩
        · rw [hh, if_pos rfl] at HS'
          rw [hh] at HC
          have HQ := hide HS'
          clear HS' hh HS hD2
          go_wp2_with (go_at_call 134; refine (HC.out).mono ?_; rintro e w' ⟨rfl, rfl⟩)
          go_roundg (l.length - (k + 1))
          case measure => have := hgk.out; omega
          case rel => exact ⟨k + 1, _, by omega, rfl, by go_num, HQ, HI', HO'⟩
      · obtain rfl : k = l.length := by omega
        have HE := hide (HS.out.trans (ordFrom_end _ l.length m done s'))
        clear HS
        go_wp2_with fail
        refine bodyPost_end (results_none rfl _ _ _) rfl ?_
        exact ⟨rfl, by rw [HE.out]; exact HI'.out, HO'.out⟩
set_option maxRecDepth 100000 in
set_option maxHeartbeats 8000000 in
theorem l08Best_any (late : Bool) (ts : List Int) (l : List TN) (A0 : Option Addr) (c0 : Nat) (A : Option Addr) (c : Nat) (w : World) (h0 : ts.length ≤ 1048576) (hs : SmallN l) (h1 : RdI w w.heap.size A0 ts) (h2 : RN 2 w w.heap.size A l) :
    Calls Try.prog 99 #[.slice A0 ts.length c0, .slice A l.length c, .bool late] w fun e w' => ∃ r, e = .returned (.tuple #[r, .int .i64 (bestO late ts l).2.1, .int .i64 (bestO late ts l).2.2]) ∧ O_Int64S w' w.heap.size w'.heap.size r (bestO late ts l).1 ∧ Below w.heap.size w w' := by
  have HC := hide (l08Ok_any ts l A0 c0 A c w h0 hs h1 h2)
  cases hcd : vWishes ts l
  · have HR := hide (show bestO late ts l = ([], 0, 1) by simp [bestO, hcd])
    rw [hcd] at HC
    clear hcd h1 h2
    go_enter Try.func99, Try.ntmps99
    go_wp2_with (go_at_call 56; refine (HC.out).mono ?_; rintro e w' ⟨rfl, rfl⟩)
    go_ret3
    exact ⟨_, by rw [HR.out]; rfl, by rw [HR.out]; exact O_Int64S.nil _ _ _ _ _, Below.refl _ _⟩
  have HR := hide (show bestO late ts l = ((ordGoF (valO late ts l) l.length l.length [] ([], -1)).1, (ordGoF (valO late ts l) l.length l.length [] ([], -1)).2, 0) by simp [bestO, hcd])
  have b1 : Below w.heap.size w (w.alloc (.cells #[.slice A0 ts.length c0, .slice A l.length c, .bool late, .slice none 0 0, .int .i64 (-1)] 126)) := (by repeat (first | exact Below.refl _ _ | assumption | (refine Below.alloc ?_ (by simp <;> omega) _) | refine Below.drew ?_ | refine bdn ?_ _))
  have b2 : Below w.heap.size w ((w.alloc (.cells #[.slice A0 ts.length c0, .slice A l.length c, .bool late, .slice none 0 0, .int .i64 (-1)] 126)).alloc (.cells #[] 2)) := (by repeat (first | exact Below.refl _ _ | assumption | (refine Below.alloc ?_ (by simp <;> omega) _) | refine Below.drew ?_ | refine bdn ?_ _))
  have X2 := (BoxN.new w #[.slice A0 ts.length c0, .slice A l.length c, .bool late, .slice none 0 0, .int .i64 (-1)] 126).alloc (.cells #[] 2)
  have HO := hide (walk_any late ts l hcd A0 c0 A c w.heap.size ((w.alloc (.cells #[.slice A0 ts.length c0, .slice A l.length c, .bool late, .slice none 0 0, .int .i64 (-1)] 126)).alloc (.cells #[] 2)) b2.size (h1.below b2) (h2.below b2) l.length [] ([], -1) _ (some ⟨w.heap.size + 1, 0, none⟩) 0 (by simp) (GoodO.nil _) (only_of_below (Below.refl _ _)) ⟨_, X2, O_Int64S.nil _ _ _ _ _, by simp⟩ (O_Int64S.nil _ _ _ _ _))
  rw [List.length_nil] at HO
  generalize hfin : ordGoF (valO late ts l) l.length l.length [] ([], -1) = fin at *
  rw [hcd] at HC
  clear hfin hcd h1 h2 X2 b1
  have hzw : w.heap.size + 1 ≤ ((w.alloc (.cells #[.slice A0 ts.length c0, .slice A l.length c, .bool late, .slice none 0 0, .int .i64 (-1)] 126)).alloc (.cells #[] 2)).heap.size := by simp
  go_enter Try.func99, Try.ntmps99
  go_wp2_with (first | (go_at_call 56; refine (HC.out).mono ?_; rintro e w' ⟨rfl, rfl⟩) | (go_at_call 126; refine (HO.out).mono ?_; rintro e w5 ⟨rfl, hi5, ho5⟩))
  obtain ⟨v5, X5, O5, hz5⟩ := hi5
  obtain ⟨A5, c5, hv5, _⟩ := O5.r
  subst hv5
  have x5 : w5.cell? ⟨w.heap.size, 3, none⟩ = some (.slice A5 fin.1.length c5) := X5.cell 3
  have y5 : w5.cell? ⟨w.heap.size, 4, none⟩ = some (.int .i64 fin.2) := X5.cell 4
  clear X5
  have hb5 := b2.trans (ho5.below (B := w.heap.size) (Nat.le_refl _) b2.size)
  go_quiet (fail)
  go_wp2_with fail
  go_ret3
  refine ⟨_, by rw [HR.out]; rfl, ?_, bdn hb5 nq⟩
  rw [HR.out]
  exact (own_to O5 (only_of_below (lo := 0) (hi := 0) (bdn (Below.refl _ _) nq)) (by omega) (Nat.le_refl _)).widen (by omega) (Nat.le_refl _)
set_option maxRecDepth 100000 in
set_option maxHeartbeats 4000000 in
theorem S_BestOrder (ts : List Int) (v : Value) (l : List TN) (u : Value) (w : World) (h0 : ts.length ≤ 1048576) (_ : ∀ z ∈ ts, -9223372036854775808 ≤ z ∧ z ≤ 9223372036854775807) (h : R_Int64S w w.heap.size v ts) (hs : SmallN l) (_ : ∀ e ∈ l, e.Fits) (k : R_WishS w w.heap.size u l) :
    Calls Try.prog 49 #[v, u] w fun e w' => ∃ r, e = .returned (.tuple #[r, .int .i64 (bestO false ts l).2.1, .int .i64 (bestO false ts l).2.2]) ∧ O_Int64S w' w.heap.size w'.heap.size r (bestO false ts l).1 ∧ Below w.heap.size w w' := by
  obtain ⟨A0, c0, rfl, h1⟩ := h
  obtain ⟨A, c, rfl, h2⟩ := k
  have HC := hide (l08Best_any false ts l A0 c0 A c w h0 hs h1 h2)
  clear h1 h2
  go_enter Try.func49, Try.ntmps49
  go_wp2_with (go_at_call 99; refine (HC.out).mono ?_; rintro e w1 ⟨r, rfl, ho, hb1⟩)
  go_ret3
  exact ⟨r, rfl, ho, hb1⟩
set_option maxRecDepth 100000 in
set_option maxHeartbeats 4000000 in
theorem S_FewestLate (ts : List Int) (v : Value) (l : List TN) (u : Value) (w : World) (h0 : ts.length ≤ 1048576) (_ : ∀ z ∈ ts, -9223372036854775808 ≤ z ∧ z ≤ 9223372036854775807) (h : R_Int64S w w.heap.size v ts) (hs : SmallN l) (_ : ∀ e ∈ l, e.Fits) (k : R_WishS w w.heap.size u l) :
    Calls Try.prog 51 #[v, u] w fun e w' => ∃ r, e = .returned (.tuple #[r, .int .i64 (bestO true ts l).2.1, .int .i64 (bestO true ts l).2.2]) ∧ O_Int64S w' w.heap.size w'.heap.size r (bestO true ts l).1 ∧ Below w.heap.size w w' := by
  obtain ⟨A0, c0, rfl, h1⟩ := h
  obtain ⟨A, c, rfl, h2⟩ := k
  have HC := hide (l08Best_any true ts l A0 c0 A c w h0 hs h1 h2)
  clear h1 h2
  go_enter Try.func51, Try.ntmps51
  go_wp2_with (go_at_call 99; refine (HC.out).mono ?_; rintro e w1 ⟨r, rfl, ho, hb1⟩)
  go_ret3
  exact ⟨r, rfl, ho, hb1⟩
end Go.Proofs.Yticgaiboolojkaa
