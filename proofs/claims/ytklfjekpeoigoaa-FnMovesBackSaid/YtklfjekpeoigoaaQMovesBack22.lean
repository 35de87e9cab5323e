/-
  Two lists of moves, or of guests, are the same: the contracts in the laws' words.
  The law FnMovesBack returns true for every input. No condition.
-/
import Derived.Test.YtklfjekpeoigoaaQMovesBack3
import Derived.Test.YtklfjekpeoigoaaQMovesBack19
import Derived.Test.YtklfjekpeoigoaaQMovesBack21
import Derived.Test.YtklfjekpeoigoaaRows
import Derived.Test.YtklfjekpeoigoaaQMovesBack6
import Derived.ProofKit
import Derived.Deep.DeepCutAuto
import Derived.OpenShut
namespace Go.Proofs.Ytklfjekpeoigoaa
open Go.RowKit

def sameL {α : Type} [DecidableEq α] (x y : List α) : Bool := decide (x = y)
theorem S_SameMoves (x : List T3) (v : Value) (y : List T3) (u : Value) (w : World) (hx : x.length ≤ 1048576) (_ : ∀ z ∈ x, z.Fits) (h : R_MoveS w w.heap.size v x) (hy : y.length ≤ 1048576) (_ : ∀ z ∈ y, z.Fits) (k : R_MoveS w w.heap.size u y) :
    Calls Try.prog 34 #[v, u] w fun e w' => e = .returned (.bool (sameL x y)) ∧ Below w.heap.size w w' := by
  obtain ⟨A, c, rfl, r⟩ := h
  obtain ⟨A2, c2, rfl, r2⟩ := k
  exact specSameMoves_any x y A A2 c c2 w (by omega) (by omega) r r2
set_option maxRecDepth 100000 in
theorem P_SameMoves (x : List T3) (v : Value) (y : List T3) (u : Value) (w : World) (hx : x.length ≤ 1048576) (_ : ∀ z ∈ x, z.Fits) (h : R_MoveS w w.heap.size v x) (hy : y.length ≤ 1048576) (_ : ∀ z ∈ y, z.Fits) (k : R_MoveS w w.heap.size u y) :
    Calls Try.prog 36 #[v, u] w fun e w' => e = .returned (.bool (sameL x y)) ∧ Below w.heap.size w w' := by
  obtain ⟨A, c, rfl, r⟩ := h
  obtain ⟨A2, c2, rfl, r2⟩ := k
  have HC := hide (equalMove_any x y A A2 c c2 w (by omega) (by omega) r r2)
  clear r r2
  go_enter Try.func36, Try.ntmps36
  go_wp2_with (go_at_call 145; refine (HC.out).mono ?_; rintro e w1 ⟨rfl, hb1⟩)
  go_ret
  exact ⟨rfl, hb1⟩
end Go.Proofs.Ytklfjekpeoigoaa
namespace Go.Proofs.Ytklfjekpeoigoaa
open Go.ChangeShapes Go.WideShapes Go.ChangeAt Go.RowKit

theorem mbBig_any (A : Option Addr) (n c : Nat) (w : World) (hn : ¬ n ≤ 4096) (hn2 : n ≤ 9223372036854775807) :
    Calls Try.prog 23 #[.slice A n c] w fun e w' => e = .returned (.bool true) ∧ w = w' := by
  have hD : decide ((4096 : Int) < (n : Int)) = true := decide_eq_true (by omega)
  go_enter Try.func23, Try.ntmps23
  go_wp2_with fail
  go_ret
  exact ⟨rfl, rfl⟩
theorem mbSameI (xs : List Int) (A1 A2 : Option Addr) (c1 c2 : Nat) (w : World) (hx : xs.length ≤ 1048576)
    (h1 : R_Int64S w w.heap.size (.slice A1 xs.length c1) xs) (h2 : R_Int64S w w.heap.size (.slice A2 xs.length c2) xs) :
    Calls Try.prog 35 #[.slice A1 xs.length c1, .slice A2 xs.length c2] w fun e w' => e = .returned (.bool true) ∧ Below w.heap.size w w' := by
  refine (f6ints_any xs xs A1 A2 c1 c2 w (by omega) (by omega) (rdI_of h1) (rdI_of h2)).mono ?_
  rintro e w' ⟨rfl, b⟩
  exact ⟨by simp, b⟩
theorem mbSameM (xs : List T3) (A1 A2 : Option Addr) (c1 c2 : Nat) (w : World) (hx : xs.length ≤ 1048576)
    (h1 : R_MoveS w w.heap.size (.slice A1 xs.length c1) xs) (h2 : R_MoveS w w.heap.size (.slice A2 xs.length c2) xs) :
    Calls Try.prog 34 #[.slice A1 xs.length c1, .slice A2 xs.length c2] w fun e w' => e = .returned (.bool true) ∧ Below w.heap.size w w' := by
  refine (specSameMoves_any xs xs A1 A2 c1 c2 w (by omega) (by omega) (rd3_of h1) (rd3_of h2)).mono ?_
  rintro e w' ⟨rfl, b⟩
  exact ⟨by simp, b⟩
theorem at_dAt {xs : List Int} {i : Nat} {z : Int} (h : xs[i]? = some z) : dAt xs i = z := dAt_get h
set_option maxRecDepth 100000 in
set_option maxHeartbeats 8000000 in
theorem lMovesBack_walk (x : List Int) (v : Value) (w : World) (r : ∃ A c, v = .slice A x.length c ∧ RdB w w.heap.size A x) (nx : x.length ≤ 9223372036854775807) (fx : ∀ z ∈ x, 0 ≤ z ∧ z ≤ 255) :
    Calls Try.prog 4 #[v] w fun e w' => e = .returned (.bool true) ∧ Below w.heap.size w w' := by
  obtain ⟨A, c, rfl, r⟩ := r
  by_cases hlong : x.length ≤ 4096
  case neg =>
    have HB := hide (mbBig_any A x.length c w hlong nx)
    clear hlong r nx fx
    go_enter Try.func4, Try.ntmps4
    go_wp2_with (go_at_call 23; refine (HB.out).mono ?_; rintro e w' ⟨rfl, rfl⟩)
    go_ret
    exact ⟨rfl, Below.refl _ _⟩
  have HB := hide (f6big_any A x.length c w hlong)
  have HD1 := hide (drawBestMoves_any x A c w ⟨hlong, fx⟩ r)
  have HD2 := hide fun W (hW : Below w.heap.size w W) => drawMovesBack_any x A c W ⟨hlong, fx⟩ ((r.below hW).more hW.size)
  have HD3 := hide fun W (hW : Below w.heap.size w W) => drawSendAll_any x A c W ⟨hlong, fx⟩ ((r.below hW).more hW.size)
  have HD4 := hide fun W (hW : Below w.heap.size w W) => drawSame_any x A c W ⟨hlong, fx⟩ ((r.below hW).more hW.size)
  clear r nx fx hlong
  go_enter Try.func4, Try.ntmps4
  go_upto_region 4 with (first | (go_at_call 23; refine (HB.out).mono ?_; rintro e w' ⟨rfl, rfl⟩) | (go_at_call 24; (with_reducible refine (HD1.out).mono ?_); rintro e w1 ⟨As, cs, st, Aw, cw, wa, Ac, cc, co, rfl, r1, r2, r3, hst, hwa, hco, b1⟩))
  have hst11 := hst.1.2
  have HSF := hide hst.2
  have hwa11 := hwa.1
  have HWF := hide hwa.2
  have HCO := hide hco
  have FB := hide (fut_below b1)
  have Fst := hide (fut_I cs r1)
  have Fwa := hide (fut_I cw r2)
  have Fco := hide (fut_S r3)
  have LB := hide (fun h : (bestMoves st wa co).2 = 0 => best_law h)
  have HP := hide (P_BestMoves st (.slice As st.length cs) wa (.slice Aw wa.length cw) co (.slice Ac co.length cc) w1 (by omega) hst.2 Fst.out.now (by omega) hwa.2 Fwa.out.now hco.1 hco.2 Fco.out.now)
  have HS := hide fun W (hW : Below w1.heap.size w1 W) => S_BestMoves st (.slice As st.length cs) wa (.slice Aw wa.length cw) co (.slice Ac co.length cc) W (by omega) hst.2 (Fst.out W hW) (by omega) hwa.2 (Fwa.out W hW) hco.1 hco.2 (Fco.out W hW)
  clear r1 r2 r3 hst hwa hco b1 HD1 HB
  generalize (bestMoves st wa co).1.1 = ml at *
  generalize (bestMoves st wa co).1.2 = mc at *
  generalize (bestMoves st wa co).2 = mk at *
  go_upto_region 5 with (go_at_call 15; (with_reducible refine (HP.out).mono ?_); rintro e w2 ⟨v2, rfl, o2, b2⟩)
  obtain ⟨A2, c2, rfl, _⟩ := o2.r
  have HBZ := hide b2
  have hml := o2.small
  have Fm1 := hide (fut_M o2.r)
  replace FB := hide (FB.out.step b2)
  replace Fst := hide (Fst.out.step b2)
  replace Fwa := hide (Fwa.out.step b2)
  replace Fco := hide (Fco.out.step b2)
  clear o2 b2 HP
  go_upto_region 6 with (go_at_call 12; (with_reducible refine (HS.out _ HBZ.out).mono ?_); rintro e w3 ⟨v3, rfl, o3, b3⟩)
  obtain ⟨A3, c3, rfl, _⟩ := o3.r
  have Fm2 := hide (fut_M o3.r)
  replace FB := hide (FB.out.step b3)
  replace Fst := hide (Fst.out.step b3)
  replace Fwa := hide (Fwa.out.step b3)
  replace Fco := hide (Fco.out.step b3)
  replace Fm1 := hide (Fm1.out.step b3)
  clear o3 b3 HS HBZ
  go_upto_region 7 with (go_at_call 25; (with_reducible refine (HD2.out _ FB.out.now).mono ?_); rintro e w4 ⟨Aa, ca, sa, Ab, cb, wb, rfl, r1, r2, hsa, hwb, b4⟩)
  have hsa11 := hsa.1.2
  have HAF := hide hsa.2
  have hwb11 := hwb.1
  have HBF := hide (show ∀ z ∈ wb, -9223372036854775808 ≤ z ∧ z ≤ 9223372036854775807 from fun z hz => by have := hwb.2 z hz; omega)
  have Fsa := hide (fut_I ca r1)
  have Fwb := hide (fut_I cb r2)
  replace FB := hide (FB.out.step b4)
  replace Fst := hide (Fst.out.step b4)
  replace Fwa := hide (Fwa.out.step b4)
  replace Fco := hide (Fco.out.step b4)
  replace Fm1 := hide (Fm1.out.step b4)
  replace Fm2 := hide (Fm2.out.step b4)
  have LM := hide (fun h : (movesBack sa wb).2 = 0 => moves_law h)
  have HP := hide (P_MovesBack sa (.slice Aa sa.length ca) wb (.slice Ab wb.length cb) w4 (by omega) HAF.out Fsa.out.now (by omega) HBF.out Fwb.out.now)
  have HS := hide fun W (hW : Below w4.heap.size w4 W) => S_MovesBack sa (.slice Aa sa.length ca) wb (.slice Ab wb.length cb) W (by omega) HAF.out (Fsa.out W hW) (by omega) HBF.out (Fwb.out W hW)
  have HP2 := hide fun W (hW : Below w4.heap.size w4 W) => P_ShortStations sa (.slice Aa sa.length ca) wb (.slice Ab wb.length cb) W (by omega) HAF.out (Fsa.out W hW) (by omega) HBF.out (Fwb.out W hW)
  have HS2 := hide fun W (hW : Below w4.heap.size w4 W) => S_ShortStations sa (.slice Aa sa.length ca) wb (.slice Ab wb.length cb) W (by omega) HAF.out (Fsa.out W hW) (by omega) HBF.out (Fwb.out W hW)
  have HZ := hide (Below.refl w4.heap.size w4)
  clear r1 r2 hsa hwb b4 HD2
  generalize (movesBack sa wb).1 = ll at *
  generalize (movesBack sa wb).2 = lk at *
  generalize (shortStations sa wb).1 = sl at *
  generalize (shortStations sa wb).2 = sk at *
  go_upto_region 8 with (go_at_call 26; (with_reducible refine (HP.out).mono ?_); rintro e w5 ⟨v5, rfl, o5, b5⟩)
  obtain ⟨A5, c5, rfl, _⟩ := o5.r
  have Fl1 := hide (fut_M o5.r)
  replace FB := hide (FB.out.step b5)
  replace Fst := hide (Fst.out.step b5)
  replace Fwa := hide (Fwa.out.step b5)
  replace Fco := hide (Fco.out.step b5)
  replace Fm1 := hide (Fm1.out.step b5)
  replace Fm2 := hide (Fm2.out.step b5)
  replace Fsa := hide (Fsa.out.step b5)
  replace Fwb := hide (Fwb.out.step b5)
  replace HZ := hide (HZ.out.trans (b5.mono HZ.out.size))
  have hll := o5.small
  clear o5 b5 HP
  go_upto_region 9 with (go_at_call 27; (with_reducible refine (HS.out _ HZ.out).mono ?_); rintro e w6 ⟨v6, rfl, o6, b6⟩)
  obtain ⟨A6, c6, rfl, _⟩ := o6.r
  have Fl2 := hide (fut_M o6.r)
  replace FB := hide (FB.out.step b6)
  replace Fst := hide (Fst.out.step b6)
  replace Fwa := hide (Fwa.out.step b6)
  replace Fco := hide (Fco.out.step b6)
  replace Fm1 := hide (Fm1.out.step b6)
  replace Fm2 := hide (Fm2.out.step b6)
  replace Fsa := hide (Fsa.out.step b6)
  replace Fwb := hide (Fwb.out.step b6)
  replace Fl1 := hide (Fl1.out.step b6)
  replace HZ := hide (HZ.out.trans (b6.mono HZ.out.size))
  clear o6 b6 HS
  go_upto_region 10 with (go_at_call 28; (with_reducible refine (HP2.out _ HZ.out).mono ?_); rintro e w7 ⟨v7, rfl, o7, b7⟩)
  obtain ⟨A7, c7, rfl, _⟩ := o7.r
  have Fs1 := hide (fut_R o7.r)
  replace FB := hide (FB.out.step b7)
  replace Fst := hide (Fst.out.step b7)
  replace Fwa := hide (Fwa.out.step b7)
  replace Fco := hide (Fco.out.step b7)
  replace Fm1 := hide (Fm1.out.step b7)
  replace Fm2 := hide (Fm2.out.step b7)
  replace Fsa := hide (Fsa.out.step b7)
  replace Fwb := hide (Fwb.out.step b7)
  replace Fl1 := hide (Fl1.out.step b7)
  replace Fl2 := hide (Fl2.out.step b7)
  replace HZ := hide (HZ.out.trans (b7.mono HZ.out.size))
  have hsl := o7.small
  clear o7 b7 HP2
  go_upto_region 11 with (go_at_call 29; (with_reducible refine (HS2.out _ HZ.out).mono ?_); rintro e w8 ⟨v8, rfl, o8, b8⟩)
  obtain ⟨A8, c8, rfl, _⟩ := o8.r
  have Fs2 := hide (fut_R o8.r)
  replace FB := hide (FB.out.step b8)
  replace Fst := hide (Fst.out.step b8)
  replace Fwa := hide (Fwa.out.step b8)
  replace Fco := hide (Fco.out.step b8)
  replace Fm1 := hide (Fm1.out.step b8)
  replace Fm2 := hide (Fm2.out.step b8)
  replace Fsa := hide (Fsa.out.step b8)
  replace Fwb := hide (Fwb.out.step b8)
  replace Fl1 := hide (Fl1.out.step b8)
  replace Fl2 := hide (Fl2.out.step b8)
  replace Fs1 := hide (Fs1.out.step b8)
  replace HZ := hide (HZ.out.trans (b8.mono HZ.out.size))
  clear o8 b8 HS2 HZ
  go_upto_region 12 with (go_at_call 30; (with_reducible refine (HD3.out _ FB.out.now).mono ?_); rintro e w9 ⟨Ae, ce, sc, Ad, cd, md, rfl, r1, r2, hsc, hmd, b9⟩)
  have hsc11 := hsc.1.2
  have HCF := hide hsc.2
  have hmd41 := hmd.1
  have HDF := hide (show ∀ z ∈ md, z.Fits from fun z hz => (hmd.2 z hz).fits (by omega))
  have Fsc := hide (fut_I ce r1)
  have Fmd := hide (fut_3 cd r2)
  replace FB := hide (FB.out.step b9)
  replace Fst := hide (Fst.out.step b9)
  replace Fwa := hide (Fwa.out.step b9)
  replace Fco := hide (Fco.out.step b9)
  replace Fm1 := hide (Fm1.out.step b9)
  replace Fm2 := hide (Fm2.out.step b9)
  replace Fsa := hide (Fsa.out.step b9)
  replace Fwb := hide (Fwb.out.step b9)
  replace Fl1 := hide (Fl1.out.step b9)
  replace Fl2 := hide (Fl2.out.step b9)
  replace Fs1 := hide (Fs1.out.step b9)
  replace Fs2 := hide (Fs2.out.step b9)
  have LS := hide (fun h : (sendAll sc md).2.2 = 0 => sendAll_sum h)
  have LZ := hide (fun h : (sendAll sc md).2.2 = 0 => send_bd h)
  have HP := hide (P_SendAll sc (.slice Ae sc.length ce) md (.slice Ad md.length cd) w9 (by omega) HCF.out Fsc.out.now (by omega) HDF.out Fmd.out.now)
  have HS := hide fun W (hW : Below w9.heap.size w9 W) => S_SendAll sc (.slice Ae sc.length ce) md (.slice Ad md.length cd) W (by omega) HCF.out (Fsc.out W hW) (by omega) HDF.out (Fmd.out W hW)
  have HZ := hide (Below.refl w9.heap.size w9)
  clear r1 r2 hsc hmd b9 HD3
  generalize (sendAll sc md).1 = xl at *
  generalize (sendAll sc md).2.1 = xa at *
  generalize (sendAll sc md).2.2 = xk at *
  go_upto_region 13 with (go_at_call 31; (with_reducible refine (HP.out).mono ?_); rintro e w10 ⟨v10, rfl, o10, b10⟩)
  obtain ⟨A10, c10, rfl, _⟩ := o10.r
  have Fx1 := hide (fut_R o10.r)
  replace FB := hide (FB.out.step b10)
  replace Fst := hide (Fst.out.step b10)
  replace Fwa := hide (Fwa.out.step b10)
  replace Fco := hide (Fco.out.step b10)
  replace Fm1 := hide (Fm1.out.step b10)
  replace Fm2 := hide (Fm2.out.step b10)
  replace Fsa := hide (Fsa.out.step b10)
  replace Fwb := hide (Fwb.out.step b10)
  replace Fl1 := hide (Fl1.out.step b10)
  replace Fl2 := hide (Fl2.out.step b10)
  replace Fs1 := hide (Fs1.out.step b10)
  replace Fs2 := hide (Fs2.out.step b10)
  replace Fsc := hide (Fsc.out.step b10)
  replace Fmd := hide (Fmd.out.step b10)
  replace HZ := hide (HZ.out.trans (b10.mono HZ.out.size))
  have hxl := o10.small
  clear o10 b10 HP
  go_upto_region 14 with (go_at_call 32; (with_reducible refine (HS.out _ HZ.out).mono ?_); rintro e w11 ⟨v11, rfl, o11, b11⟩)
  obtain ⟨A11, c11, rfl, _⟩ := o11.r
  have Fx2 := hide (fut_R o11.r)
  replace FB := hide (FB.out.step b11)
  replace Fst := hide (Fst.out.step b11)
  replace Fwa := hide (Fwa.out.step b11)
  replace Fco := hide (Fco.out.step b11)
  replace Fm1 := hide (Fm1.out.step b11)
  replace Fm2 := hide (Fm2.out.step b11)
  replace Fsa := hide (Fsa.out.step b11)
  replace Fwb := hide (Fwb.out.step b11)
  replace Fl1 := hide (Fl1.out.step b11)
  replace Fl2 := hide (Fl2.out.step b11)
  replace Fs1 := hide (Fs1.out.step b11)
  replace Fs2 := hide (Fs2.out.step b11)
  replace Fsc := hide (Fsc.out.step b11)
  replace Fmd := hide (Fmd.out.step b11)
  replace Fx1 := hide (Fx1.out.step b11)
  replace HZ := hide (HZ.out.trans (b11.mono HZ.out.size))
  clear o11 b11 HS HZ
  go_upto_region 15 with (go_at_call 33; (with_reducible refine (HD4.out _ FB.out.now).mono ?_); rintro e w12 ⟨Af, cf, e1, Ag, cg, e2, rfl, r1, r2, he1, he2, b12⟩)
  have Fe1 := hide (fut_3 cf r1)
  have Fe2 := hide (fut_3 cg r2)
  replace FB := hide (FB.out.step b12)
  replace Fst := hide (Fst.out.step b12)
  replace Fwa := hide (Fwa.out.step b12)
  replace Fco := hide (Fco.out.step b12)
  replace Fm1 := hide (Fm1.out.step b12)
  replace Fm2 := hide (Fm2.out.step b12)
  replace Fsa := hide (Fsa.out.step b12)
  replace Fwb := hide (Fwb.out.step b12)
  replace Fl1 := hide (Fl1.out.step b12)
  replace Fl2 := hide (Fl2.out.step b12)
  replace Fs1 := hide (Fs1.out.step b12)
  replace Fs2 := hide (Fs2.out.step b12)
  replace Fsc := hide (Fsc.out.step b12)
  replace Fmd := hide (Fmd.out.step b12)
  replace Fx1 := hide (Fx1.out.step b12)
  replace Fx2 := hide (Fx2.out.step b12)
  have he41 := he1.1
  have he42 := he2.1
  have HE1 := hide he1.2
  have HE2 := hide he2.2
  clear r1 r2 he1 he2 b12 HD4
  have Q1 := hide fun W (hW : Below w12.heap.size w12 W) => mbSameM ml A2 A3 c2 c3 W hml (Fm1.out W hW) (Fm2.out W hW)
  have Q2 := hide fun W (hW : Below w12.heap.size w12 W) => mbSameM ll A5 A6 c5 c6 W hll (Fl1.out W hW) (Fl2.out W hW)
  have Q3 := hide fun W (hW : Below w12.heap.size w12 W) => mbSameI sl A7 A8 c7 c8 W hsl (Fs1.out W hW) (Fs2.out W hW)
  have Q4 := hide fun W (hW : Below w12.heap.size w12 W) => mbSameI xl A10 A11 c10 c11 W hxl (Fx1.out W hW) (Fx2.out W hW)
  have Q5 := hide fun W (hW : Below w12.heap.size w12 W) => P_SameMoves e1 (.slice Af e1.length cf) e2 (.slice Ag e2.length cg) W (by omega) HE1.out (Fe1.out W hW) (by omega) HE2.out (Fe2.out W hW)
  have Q6 := hide fun W (hW : Below w12.heap.size w12 W) => S_SameMoves e1 (.slice Af e1.length cf) e2 (.slice Ag e2.length cg) W (by omega) HE1.out (Fe1.out W hW) (by omega) HE2.out (Fe2.out W hW)
  have Q7 := hide fun W (hW : Below w12.heap.size w12 W) => P_ValidStock sa (.slice Aa sa.length ca) W (by omega) HAF.out (Fsa.out W hW)
  have Q8 := hide fun W (hW : Below w12.heap.size w12 W) => S_ValidStock sa (.slice Aa sa.length ca) W (by omega) HAF.out (Fsa.out W hW)
  generalize sameL e1 e2 = sb at *
  generalize vStock sa = vb at *
  have Z12 := hide (Below.refl w12.heap.size w12)
  clear he41 he42 HE1 HE2 Fe1 Fe2
  go_cut [190] (fun cv wx => cv = .bool false ∧ Hid (Below w12.heap.size w12 wx))
  case first =>
    as_aux_lemma =>
      go_wp2_with (first
        | (go_at_call 34; (with_reducible refine (Q1.out _ Z12.out).mono ?_); rintro e w13 ⟨rfl, b13⟩; have Z13 := hide (Z12.out.trans (b13.mono Z12.out.size)); clear b13)
        | (go_at_call 34; (with_reducible refine (Q2.out _ Z13.out).mono ?_); rintro e w14 ⟨rfl, b14⟩; have Z14 := hide (Z13.out.trans (b14.mono Z13.out.size)); clear b14)
        | (go_at_call 35; (with_reducible refine (Q3.out _ Z14.out).mono ?_); rintro e w15 ⟨rfl, b15⟩; have Z15 := hide (Z14.out.trans (b15.mono Z14.out.size)); clear b15)
        | (go_at_call 35; (with_reducible refine (Q4.out _ Z15.out).mono ?_); rintro e w16 ⟨rfl, b16⟩; have Z16 := hide (Z15.out.trans (b16.mono Z15.out.size)); clear b16)
        | (go_at_call 36; (with_reducible refine (Q5.out _ Z16.out).mono ?_); rintro e w17 ⟨rfl, b17⟩; have Z17 := hide (Z16.out.trans (b17.mono Z16.out.size)); clear b17)
        | (go_at_call 34; (with_reducible refine (Q6.out _ Z17.out).mono ?_); rintro e w18 ⟨rfl, b18⟩; have Z18 := hide (Z17.out.trans (b18.mono Z17.out.size)); clear b18)
        | (go_at_call 37; (with_reducible refine (Q7.out _ Z18.out).mono ?_); rintro e w19 ⟨rfl, b19⟩; have Z19 := hide (Z18.out.trans (b19.mono Z18.out.size)); clear b19)
        | (go_at_call 38; (with_reducible refine (Q8.out _ Z19.out).mono ?_); rintro e w20 ⟨rfl, b20⟩; have Z20 := hide (Z19.out.trans (b20.mono Z19.out.size)); clear b20))
      go_meet
      exact ⟨by simp, Z20.out⟩
  case rest =>
    as_aux_lemma =>
      obtain ⟨rfl, Z20⟩ := hcut
      clear Q1 Q2 Q3 Q4 Q5 Q6 Q7 Q8 Z12
      go_upto_region 17 with fail
      go_cut [199] (fun cv wx => cv = .bool false ∧ Hid (Below w12.heap.size w12 wx))
      case first =>
        as_aux_lemma =>
          by_cases hxk : xk = 0
          · have hs := (LS.out hxk).1
            have hz := LZ.out hxk
            have HF1 := hide (f6sum_any xl A11 c11 wc hxl (fun z hz2 => by have := hz.1 z hz2; omega) (rdI_of (Fx2.out wc Z20.out)))
            have HF2 := hide (f6sum_any sc Ae ce wc (by omega) (fun z hz2 => by have := hz.2.1 z hz2; omega) (rdI_of (Fsc.out wc Z20.out)))
            rw [hs] at HF1
            generalize sc.sum = ss at *
            clear hs hz
            subst hxk
            go_wp2_with (first | (go_at_call 39; (with_reducible refine (HF1.out).mono ?_); rintro e w' ⟨rfl, rfl⟩) | (go_at_call 39; (with_reducible refine (HF2.out).mono ?_); rintro e w' ⟨rfl, rfl⟩))
            go_meet
            exact ⟨by simp, Z20.out⟩
          · have hB : (xk == 0) = false := by simp [hxk]
            have HXK := hide hxk
            clear hxk
            go_wp2_with fail
            go_meet
            exact ⟨by simp, Z20.out⟩
      case rest =>
        as_aux_lemma =>
          obtain ⟨rfl, Z21⟩ := hcut
          clear Z20 LS LZ Fx1 Fx2 Fsc Fmd HCF HDF
          go_upto_if 201 with fail
          go_cut [] (fun wx => Hid (Below w12.heap.size w12 wx))
          case first =>
            as_aux_lemma =>
              by_cases hlk : lk = 0
              · have hL := LM.out hlk
                have hF := send_bd (st := sa) (ms := ll) (by rw [hL.1])
                have HPS := hide (P_SendAll sa (.slice Aa sa.length ca) ll (.slice A5 ll.length c5) wc (by omega) HAF.out (Fsa.out wc Z21.out) hll hF.2.2.2.2 (Fl1.out wc Z21.out))
                rw [hL.1] at HPS
                have hyl := hL.2.1
                have HYD := hide hL.2.2
                generalize (sendAll sa ll).1 = yl at *
                have hly : ((yl.length : Int) != (wb.length : Int)) = false := by simp [hyl]
                clear hL hF
                subst hlk
                go_upto_region 21 with (go_at_call 31; (with_reducible refine (HPS.out).mono ?_); rintro e w22 ⟨v22, rfl, o22, b22⟩)
                obtain ⟨A22, c22, rfl, _⟩ := o22.r
                have FY := hide (fut_R o22.r)
                have FWB := hide (Fut.step (fun W hW => Fwb.out W (Z21.out.trans (hW.mono Z21.out.size))) b22)
                have Z22 := hide (Z21.out.trans (b22.mono Z21.out.size))
                clear o22 b22 HPS
                go_wp2_with fail
                go_loopg [35] wb.length (fun g i wr => ∃ j : Nat, j ≤ wb.length ∧ Hid (g = wb.length - j) ∧ i = .int .i64 j ∧ Below w22.heap.size w22 wr)
                case atStart => exact ⟨0, by omega, by simp [Hid], rfl, Below.refl _ _⟩
                case round =>
                  obtain ⟨j, hj, hgj, rfl, hb⟩ := hrel
                  by_cases hjt : j < wb.length
                  · obtain ⟨b2, o2, z, rfl, _, hz, hc1⟩ := (rdI_of (FY.out wr hb)).at_ (k := j) (by omega)
                    obtain ⟨b3, o3, y, rfl, _, hy, hc2⟩ := (rdI_of (FWB.out wr hb)).at_ hjt
                    have hd := HYD.out j hjt
                    rw [at_dAt hz, at_dAt hy] at hd
                    have hdd : decide (z < y) = false := decide_eq_false (by omega)
                    clear hz hy hd
                    as_aux_lemma =>
                      go_wp2_with fail
                      go_quiet (fail)
                      go_wp2_with fail
                      go_roundg (wb.length - (j + 1))
                      case measure => have := hgj.out; omega
                      case rel => exact ⟨j + 1, by omega, rfl, by go_num, bdn hb _⟩
                  · go_wp2_with fail
                    go_meet
                    exact Z22.out.trans (hb.mono Z22.out.size)
              · have hB : (lk == 0) = false := by simp [hlk]
                have HLK := hide hlk
                clear hlk
                go_wp2_with fail
                go_meet
                exact Z21.out
          case rest =>
            as_aux_lemma =>
              have Z23 : Hid (Below w12.heap.size w12 wc) := hcut
              clear Z21 LM Fl1 Fl2 Fs1 Fs2 Fsa Fwb HAF HBF
              by_cases hmk : mk = 0
              case neg =>
                have hB : (mk != 0) = true := by simp [hmk]
                have HMK := hide hmk
                clear hmk
                go_wp2_with fail
                go_ret
                exact ⟨rfl, FB.out _ Z23.out⟩
              have hL := LB.out hmk
              obtain ⟨⟨q1, q2, q3⟩, q4, q5, q6, q7⟩ := hL
              subst hmk
              have hF := send_bd (st := st) (ms := ml) (by rw [q1])
              have HPS := hide (P_SendAll st (.slice As st.length cs) ml (.slice A2 ml.length c2) wc (by omega) HSF.out (Fst.out wc Z23.out) hml hF.2.2.2.2 (Fm1.out wc Z23.out))
              have HPC := hide fun W (hW : Below w12.heap.size w12 W) => P_CostOfMoves ml (.slice A2 ml.length c2) co (.slice Ac co.length cc) W hml hF.2.2.2.2 (Fm1.out W hW) HCO.out.1 HCO.out.2 (Fco.out W hW)
              have HSM := hide fun W (hW : Below w12.heap.size w12 W) => S_MovesBack st (.slice As st.length cs) wa (.slice Aw wa.length cw) W (by omega) HSF.out (Fst.out W hW) (by omega) HWF.out (Fwa.out W hW)
              have hG := cost_fits q6
              have HSC := hide fun W (hW : Below w12.heap.size w12 W) (u : Value) (hu : R_MoveS W W.heap.size u (movesBack st wa).1) => S_CostOfMoves (movesBack st wa).1 u co (.slice Ac co.length cc) W (by omega) hG.1 hu HCO.out.1 HCO.out.2 (Fco.out W hW)
              rw [q1] at HPS
              rw [q4] at HPC
              rw [q5] at HSM
              rw [q6] at HSC
              have HYD := hide q3
              clear hF hG q1 q3 q4 q5 q6 LB
              generalize (costOfMoves (movesBack st wa).1 co).1 = dv at *
              generalize (movesBack st wa).1 = gl at *
              generalize (sendAll st ml).1 = zl at *
              have hly : ((zl.length : Int) != (wa.length : Int)) = false := by simp [q2]
              go_upto_region 31 with (go_at_call 31; (with_reducible refine (HPS.out).mono ?_); rintro e w24 ⟨v24, rfl, o24, b24⟩)
              obtain ⟨A24, c24, rfl, _⟩ := o24.r
              have FY := hide (fut_R o24.r)
              have FWA := hide (Fut.step (fun W hW => Fwa.out W (Z23.out.trans (hW.mono Z23.out.size))) b24)
              have Z24 := hide (Z23.out.trans (b24.mono Z23.out.size))
              clear o24 b24 HPS
              go_upto_region 32 with (go_at_call 40; (with_reducible refine (HPC.out _ Z24.out).mono ?_); rintro e w25 ⟨rfl, b25⟩)
              replace FY := hide (FY.out.step b25)
              replace FWA := hide (FWA.out.step b25)
              have Z25 := hide (Z24.out.trans (b25.mono Z24.out.size))
              clear b25 HPC Z24
              go_wp2_with fail
              go_loopg [41] wa.length (fun g i wr => ∃ j : Nat, j ≤ wa.length ∧ Hid (g = wa.length - j) ∧ i = .int .i64 j ∧ Below w25.heap.size w25 wr)
              case atStart => exact ⟨0, by omega, by simp [Hid], rfl, Below.refl _ _⟩
              case round =>
                obtain ⟨j, hj, hgj, rfl, hb⟩ := hrel
                by_cases hjt : j < wa.length
                · obtain ⟨b2, o2, z, rfl, _, hz, hc1⟩ := (rdI_of (FY.out wr hb)).at_ (k := j) (by omega)
                  obtain ⟨b3, o3, y, rfl, _, hy, hc2⟩ := (rdI_of (FWA.out wr hb)).at_ hjt
                  have hd := HYD.out j hjt
                  rw [at_dAt hz, at_dAt hy] at hd
                  have hdd : decide (z < y) = false := decide_eq_false (by omega)
                  clear hz hy hd
                  as_aux_lemma =>
                    go_wp2_with fail
                    go_quiet (fail)
                    go_wp2_with fail
                    go_roundg (wa.length - (j + 1))
                    case measure => have := hgj.out; omega
                    case rel => exact ⟨j + 1, by omega, rfl, by go_num, bdn hb _⟩
                · have Z26 := hide (Z25.out.trans (hb.mono Z25.out.size))
                  have hcd : decide (mc ≤ dv) = true := decide_eq_true q7
                  clear hb Z25 FY FWA
                  go_upto_region 40 with (go_at_call 27; (with_reducible refine (HSM.out _ Z26.out).mono ?_); rintro e w27 ⟨v27, rfl, o27, b27⟩)
                  obtain ⟨A27, c27, rfl, _⟩ := o27.r
                  have Z27 := hide (Z26.out.trans (b27.mono Z26.out.size))
                  have HSX := hide (HSC.out _ Z27.out _ o27.r)
                  clear o27 b27 HSM HSC Z26
                  go_wp2_with (go_at_call 41; (with_reducible refine (HSX.out).mono ?_); rintro e w28 ⟨rfl, b28⟩)
                  go_ret
                  exact ⟨rfl, FB.out _ (Z27.out.trans (b28.mono Z27.out.size))⟩
theorem fnMovesBack_own : ownKnob Try.prog.godebug = none := by kernel_rfl
theorem fnMovesBack_laid : laidOutB Try.prog = true := by kernel_rfl
set_option maxRecDepth 100000 in
theorem fnMovesBack_lifted (os : Os) (started : os.Started) (H : Type) (enc : TypeId × Value → H) :
    ReturnsInHanded {} Try.checked os 4 .any (Rows.fnMovesBackSpec.pre6 enc Try.prog Try.f4 Rows.fnMovesBackRow.domain false) (Rows.fnMovesBackSpec.post enc Try.prog Try.f4 false true false false) := by
  refine returnsInHanded_of_change (C := Try.checked) fnMovesBack_own started (by kernel_rfl) Try.func4
    (ChangeSpec.witness6 (enc := enc) (C := Try.checked) false ⟨#[], #[.slice none 0 0], []⟩ 8 (by kernel_rfl) (by kernel_rfl) (by kernel_rfl) (by kernel_rfl)) ?_
  intro W base args ds gs before hval0 hW hcnd _
  have hval : ∀ (j : Nat) t v, Try.f4.params[j]? = some t → args[j]? = some v → Value.okWide Try.prog W .any base t v := hval0
  have hW' := hW
  obtain ⟨p, q, hA0, hV, rfl, hfz, hnd⟩ := hW
  have hA : DataW.TrodAll enc Try.prog W 0 (fun _ => true) true Try.f4.params.toList args.toList ds p := hA0
  rw [Try.params4] at hA hval
  obtain ⟨v0, vs0, d0, ds0, p0, q0, hargs, rfl, rfl, h0, r0⟩ := trodAll_cons hA
  obtain ⟨rfl, rfl, rfl⟩ := trodAll_nil r0
  obtain rfl : args = #[v0] := by cases args; simp_all
  obtain ⟨rfl, rfl⟩ := trodVars_none hV
  have k0 := h0
  have lt0 : ∀ x ∈ p0, x.block < W.heap.size := by obtain ⟨m, hm⟩ := k0; exact DataW.trod_lt m _ _ _ hm
  obtain ⟨A0, c0, zs0, rfl, rd0, len0, bd0⟩ := open_B Try.underlying36 Try.underlying5 (by kernel_rfl) (hval 0 36 v0 rfl rfl) h0
  clear hA0 hval0
  refine (lMovesBack_walk zs0 (.slice A0 zs0.length c0) W ⟨A0, c0, rfl, rd0⟩ len0 bd0).mono fun e W' ⟨he, bel⟩ => ?_
  subst he
  exact ⟨_, rfl, _, _, _, [], _, [], hW', trodAll_mk1 (shut_bool Try.underlying4 _), (trodAll_cons_mk (Below.trod fnMovesBack_laid (by kernel_rfl) (of_decide_eq_true (by kernel_rfl)) k0 bel lt0) trodAll_mk0), rfl, bel.frame _, fun h => by cases h⟩
theorem fnMovesBack_holds : Rows.FnMovesBackSaid :=
  OpenClaim.holds_of_wide 4 Try.f4 rfl rfl rfl rfl rfl rfl rfl ⟨rfl, rfl, rfl, rfl, rfl⟩ rfl rfl rfl rfl rfl (by kernel_rfl) Try.func4 (by kernel_rfl)
    (of_decide_eq_true (by kernel_rfl)) (by unfold Func.isWrapper; first | (rw [if_pos (by decide +kernel)]; kernel_rfl) | (rw [if_neg (by decide +kernel)]; exact ⟨rfl, rfl⟩))
    (fun os started H enc _ => fnMovesBack_lifted os started H enc)
#print axioms fnMovesBack_holds
end Go.Proofs.Ytklfjekpeoigoaa
