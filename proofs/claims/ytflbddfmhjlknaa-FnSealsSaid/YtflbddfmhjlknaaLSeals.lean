/-
  The law FnSeals returns true for every input. No condition.
-/
import Derived.Test.YtflbddfmhjlknaaSrc19
import Derived.Test.YtflbddfmhjlknaaSealP
import Derived.Test.YtflbddfmhjlknaaCarD
import Derived.Test.YtflbddfmhjlknaaCarSealL
import Derived.Test.YtflbddfmhjlknaaLawH
import Derived.Test.YtflbddfmhjlknaaRows
import Derived.Test.YtflbddfmhjlknaaOpenB
import Derived.ProofKit
import Derived.Deep.DeepCutAuto
import Derived.OpenShut
namespace Go.Proofs.Ytflbddfmhjlknaa
open Go.ChangeShapes Go.WideShapes Go.ChangeAt Go.RowKit

theorem left_fits {x : List T2} (h : (runsLeft x).2 = 0) : ∀ z ∈ x, z.Fits := by
  unfold runsLeft at h
  by_cases hv : vSeals x = true
  · intro z hz
    have := (vSeals_iff.1 hv).1 z hz
    exact ⟨⟨by omega, by omega⟩, by omega, by omega⟩
  · rw [if_neg hv] at h; simp at h
theorem next_bd {x : List T2} (h : (nextCarrier x).2 = 0) : ∀ z ∈ x, (0 ≤ z.a ∧ z.a ≤ 1000) ∧ (0 ≤ z.b ∧ z.b ≤ 1000) := by
  unfold nextCarrier at h
  by_cases hv : vSeals x = true
  · intro z hz
    have := (vSeals_iff.1 hv).1 z hz
    omega
  · rw [if_neg hv] at h; simp at h
theorem f6bigT_any (A : Option Addr) (n c : Nat) (w : World) (hn : ¬ n ≤ 4096) (hn2 : n ≤ 9223372036854775807) :
    Calls Try.prog 10 #[.slice A n c] w fun e w' => e = .returned (.bool true) ∧ w = w' := by
  have hD : decide ((4096 : Int) < (n : Int)) = true := decide_eq_true (by omega)
  go_enter Try.func10, Try.ntmps10
  go_wp2_with fail
  go_ret
  exact ⟨rfl, rfl⟩
theorem left_bd {x : List T2} (h : (runsLeft x).2 = 0) : 0 ≤ (runsLeft x).1 ∧ (runsLeft x).1 ≤ 1000 * x.length := by
  unfold runsLeft at h ⊢
  by_cases hv : vSeals x = true
  · rw [if_pos hv]
    dsimp only
    have h2 := (vSeals_iff.1 hv).1
    clear h hv
    induction x with
    | nil => simp
    | cons z x ih =>
      have h3 := h2 z (List.mem_cons_self ..)
      have h4 := ih fun u hu => h2 u (List.mem_cons_of_mem _ hu)
      rw [List.map_cons, List.sum_cons, List.length_cons]
      omega
  · rw [if_neg hv] at h; simp at h
theorem f6same (xs : List Int) (A1 A2 : Option Addr) (c1 c2 : Nat) (w : World) (hx : xs.length ≤ 1048576)
    (h1 : R_Int64S w w.heap.size (.slice A1 xs.length c1) xs) (h2 : R_Int64S w w.heap.size (.slice A2 xs.length c2) xs) :
    Calls Try.prog 26 #[.slice A1 xs.length c1, .slice A2 xs.length c2] w fun e w' => e = .returned (.bool true) ∧ Below w.heap.size w w' := by
  obtain ⟨A3, c3, e3, r3⟩ := h1
  obtain ⟨A4, c4, e4, r4⟩ := h2
  simp only [Value.slice.injEq] at e3 e4
  rw [← e3.1] at r3
  rw [← e4.1] at r4
  refine (f6ints_any xs xs A1 A2 c1 c2 w (by omega) (by omega) r3 r4).mono ?_
  rintro e w' ⟨rfl, b⟩
  exact ⟨by simp, b⟩
theorem rd2_of {w : World} {B : Nat} {A : Option Addr} {n c : Nat} {x : List T2} (h : R_SealS w B (.slice A n c) x) : Rd2 w B A x := by
  obtain ⟨A3, c3, e3, r3⟩ := h
  simp only [Value.slice.injEq] at e3
  rw [e3.1]; exact r3
theorem sl_rdI {w : World} {B : Nat} {v : Value} {x : List Int} (h : R_Int64S w B v x) : ∃ A c, v = .slice A x.length c ∧ RdI w B A x := h
theorem mul_bd2 {a b : Int} (ha : 0 ≤ a ∧ a ≤ 1000) (hb : 0 ≤ b ∧ b ≤ 1000) : 0 ≤ a * b ∧ a * b ≤ 1000000 := by
  have h1 := Int.mul_nonneg ha.1 hb.1
  have h2 := Int.mul_le_mul ha.2 hb.2 hb.1 (by omega : (0 : Int) ≤ 1000)
  omega
set_option maxRecDepth 100000 in
set_option maxHeartbeats 8000000 in
theorem lSeals_walk (x : List Int) (v : Value) (w : World) (r : ∃ A c, v = .slice A x.length c ∧ RdB w w.heap.size A x) (nx : x.length ≤ 9223372036854775807) (fx : ∀ z ∈ x, 0 ≤ z ∧ z ≤ 255) :
    Calls Try.prog 3 #[v] w fun e w' => e = .returned (.bool true) ∧ Below w.heap.size w w' := by
  obtain ⟨A, c, rfl, r⟩ := r
  by_cases hlong : x.length ≤ 4096
  case neg =>
    have HB := hide (f6bigT_any A x.length c w hlong nx)
    clear hlong r nx fx
    go_enter Try.func3, Try.ntmps3
    go_wp2_with (go_at_call 10; refine (HB.out).mono ?_; rintro e w' ⟨rfl, rfl⟩)
    go_ret
    exact ⟨rfl, Below.refl _ _⟩
  have HB := hide (f6big_any A x.length c w hlong)
  have HD1 := hide (drawRunCarrier_any x A c w ⟨hlong, fx⟩ r)
  have HD2 := hide fun W (hW : Below w.heap.size w W) => drawSend_any x A c W ⟨hlong, fx⟩ ((r.below hW).more hW.size)
  have HD3 := hide fun W (hW : Below w.heap.size w W) => drawCostOf_any x A c W ⟨hlong, fx⟩ ((r.below hW).more hW.size)
  clear r nx fx hlong
  go_enter Try.func3, Try.ntmps3
  go_upto_region 4 with (first | (go_at_call 10; refine (HB.out).mono ?_; rintro e w' ⟨rfl, rfl⟩) | (go_at_call 11; (with_reducible refine (HD1.out).mono ?_); rintro e w1 ⟨A1, c1, l, k, rfl, o1, hl, hk, b1⟩))
  have hll := hl.1
  have HFT := hide hl.2
  obtain ⟨hk0, hk1⟩ := hk
  have HR := hide fun W (hW : Below w1.heap.size w1 W) => (o1.r.below hW).more hW.size
  have HP1 := hide (P_RunCarrier l (.slice A1 l.length c1) k w1 (by omega) hl.2 o1.r (by omega) (by omega))
  have HS1 := hide fun W (hW : Below w1.heap.size w1 W) => S_RunCarrier l (.slice A1 l.length c1) k W (by omega) hl.2 (HR.out W hW) (by omega) (by omega)
  have HP2 := hide fun W (hW : Below w1.heap.size w1 W) => P_NextCarrier l (.slice A1 l.length c1) W (by omega) hl.2 (HR.out W hW)
  have HS2 := hide fun W (hW : Below w1.heap.size w1 W) => S_NextCarrier l (.slice A1 l.length c1) W (by omega) hl.2 (HR.out W hW)
  have HP3 := hide fun W (hW : Below w1.heap.size w1 W) => P_WornSeals l (.slice A1 l.length c1) W (by omega) hl.2 (HR.out W hW)
  have HS3 := hide fun W (hW : Below w1.heap.size w1 W) => S_WornSeals l (.slice A1 l.length c1) W (by omega) hl.2 (HR.out W hW)
  have HP4 := hide fun W (hW : Below w1.heap.size w1 W) => P_RunsLeft l (.slice A1 l.length c1) W (by omega) hl.2 (HR.out W hW)
  have HS4 := hide fun W (hW : Below w1.heap.size w1 W) => S_RunsLeft l (.slice A1 l.length c1) W (by omega) hl.2 (HR.out W hW)
  have HP5 := hide fun W (hW : Below w1.heap.size w1 W) => P_ValidSeals l (.slice A1 l.length c1) W (by omega) hl.2 (HR.out W hW)
  have HS5 := hide fun W (hW : Below w1.heap.size w1 W) => S_ValidSeals l (.slice A1 l.length c1) W (by omega) hl.2 (HR.out W hW)
  have FR := hide fun (h : (runCarrier l k).2 = 0) => run_less h
  have FN := hide fun (h : (nextCarrier l).2 = 0) => next_best h
  have FB := hide fun (h : (nextCarrier l).2 = 0) => next_bd h
  have FW := hide fun (h : (runsLeft l).2 = 0) => worn_runs h
  have FL := hide fun (h : (runsLeft l).2 = 0) => left_bd h
  have FF := hide fun (h : (runCarrier l k).2 = 0) => left_fits (run_less h).2.2.1
  have HB1 := hide b1
  have hb11 := hide (Below.refl w1.heap.size w1)
  clear o1 hl b1 HD1 HB
  generalize (runCarrier l k).1 = rl at *
  generalize (runCarrier l k).2 = rc at *
  generalize (nextCarrier l).1 = nv at *
  generalize (nextCarrier l).2 = nc at *
  generalize (wornSeals l).1 = wl at *
  generalize (wornSeals l).2 = wc at *
  generalize (runsLeft l).1 = lv at *
  generalize (runsLeft l).2 = lc at *
  generalize vSeals l = vs at *
  go_upto_region 12 with (first
    | (go_at_call 12; (with_reducible refine (HP1.out).mono ?_); rintro e w2 ⟨v2, rfl, o2, b2⟩; obtain ⟨A2, c2, rfl, _⟩ := o2.r; have O2 := hide o2; have B2 := hide b2; clear o2 b2)
    | (go_at_call 13; (with_reducible refine (HS1.out _ B2.out).mono ?_); rintro e w3 ⟨v3, rfl, o3, b3⟩; obtain ⟨A3, c3, rfl, _⟩ := o3.r; have O3 := hide o3; have B3 := hide (B2.out.trans (b3.mono B2.out.size)); have T3 := hide b3; clear o3 b3)
    | (go_at_call 14; (with_reducible refine (HP2.out _ B3.out).mono ?_); rintro e w4 ⟨rfl, b4⟩; have B4 := hide (B3.out.trans (b4.mono B3.out.size)); have T4 := hide (T3.out.trans (b4.mono T3.out.size)); have U4 := hide b4; clear b4)
    | (go_at_call 15; (with_reducible refine (HS2.out _ B4.out).mono ?_); rintro e w5 ⟨rfl, b5⟩; have B5 := hide (B4.out.trans (b5.mono B4.out.size)); have T5 := hide (T4.out.trans (b5.mono T4.out.size)); have U5 := hide (U4.out.trans (b5.mono U4.out.size)); clear b5)
    | (go_at_call 16; (with_reducible refine (HP3.out _ B5.out).mono ?_); rintro e w6 ⟨v6, rfl, o6, b6⟩; obtain ⟨A6, c6, rfl, _⟩ := sl_rdI o6.r; have O6 := hide o6; have B6 := hide (B5.out.trans (b6.mono B5.out.size)); have T6 := hide (T5.out.trans (b6.mono T5.out.size)); have U6 := hide (U5.out.trans (b6.mono U5.out.size)); clear o6 b6)
    | (go_at_call 17; (with_reducible refine (HS3.out _ B6.out).mono ?_); rintro e w7 ⟨v7, rfl, o7, b7⟩; obtain ⟨A7, c7, rfl, _⟩ := sl_rdI o7.r; have O7 := hide o7; have B7 := hide (B6.out.trans (b7.mono B6.out.size)); have T7 := hide (T6.out.trans (b7.mono T6.out.size)); have U7 := hide (U6.out.trans (b7.mono U6.out.size)); have V7 := hide b7; clear o7 b7)
    | (go_at_call 18; (with_reducible refine (HP4.out _ B7.out).mono ?_); rintro e w8 ⟨rfl, b8⟩; have B8 := hide (B7.out.trans (b8.mono B7.out.size)); have T8 := hide (T7.out.trans (b8.mono T7.out.size)); have U8 := hide (U7.out.trans (b8.mono U7.out.size)); have V8 := hide (V7.out.trans (b8.mono V7.out.size)); have Z8 := hide b8; clear b8)
    | (go_at_call 19; (with_reducible refine (HS4.out _ B8.out).mono ?_); rintro e w9 ⟨rfl, b9⟩; have B9 := hide (B8.out.trans (b9.mono B8.out.size)); have T9 := hide (T8.out.trans (b9.mono T8.out.size)); have U9 := hide (U8.out.trans (b9.mono U8.out.size)); have V9 := hide (V8.out.trans (b9.mono V8.out.size)); have Z9 := hide (Z8.out.trans (b9.mono Z8.out.size)); clear b9))
  have hrl := O2.out.small
  have hwl := O6.out.small
  -- what is read of the results, from here on
  have R2 := hide fun W (hW : Below w9.heap.size w9 W) => (O2.out.r.below (T9.out.trans (hW.mono T9.out.size))).more (Nat.le_trans T9.out.size hW.size)
  have R3 := hide fun W (hW : Below w9.heap.size w9 W) => (O3.out.r.below (U9.out.trans (hW.mono U9.out.size))).more (Nat.le_trans U9.out.size hW.size)
  have R6 := hide fun W (hW : Below w9.heap.size w9 W) => (O6.out.r.below (V9.out.trans (hW.mono V9.out.size))).more (Nat.le_trans V9.out.size hW.size)
  have R7 := hide fun W (hW : Below w9.heap.size w9 W) => (O7.out.r.below (Z9.out.trans (hW.mono Z9.out.size))).more (Nat.le_trans Z9.out.size hW.size)
  have BW := hide (HB1.out.trans (B9.out.mono HB1.out.size))
  have hR1 := hide fun W (hW : Below w9.heap.size w9 W) => HR.out W (B9.out.trans (hW.mono B9.out.size))
  have hP4 := HP4; have hP5 := hide fun W (hW : Below w9.heap.size w9 W) => HP5.out W (B9.out.trans (hW.mono B9.out.size))
  have hS5 := hide fun W (hW : Below w9.heap.size w9 W) => HS5.out W (B9.out.trans (hW.mono B9.out.size))
  clear O2 O3 O6 O7 T3 T4 T5 T6 T7 T8 T9 U4 U5 U6 U7 U8 U9 V7 V8 V9 Z8 Z9 B2 B3 B4 B5 B6 B7 B8 B9 HP1 HS1 HP2 HS2 HP3 HS3 HP4 HS4 HP5 HS5 HR hP4 hb11 HB1
  go_upto_region 13 with (go_at_call 20; (with_reducible refine (HD2.out _ BW.out).mono ?_); rintro e w10 ⟨Aa, ca, a, m, rfl, oa, hab, hm, ba⟩)
  have OA := hide oa
  have HA1 := hab.1.1
  have HA11 := hab.1.2
  have HAF := hide hab.2
  have HMF : m.Fits := by unfold MvOk at hm; exact ⟨⟨by omega, by omega⟩, ⟨by omega, by omega⟩, by omega, by omega⟩
  have k0' : (w10.alloc (.cells #[.int .i64 m.a, .int .i64 m.b, .int .i64 m.c] 34)).cell? ⟨w10.heap.size, 0, none⟩ = some (.int .i64 m.a) := by simp [go_sem]
  have k1' : (w10.alloc (.cells #[.int .i64 m.a, .int .i64 m.b, .int .i64 m.c] 34)).cell? ⟨w10.heap.size, 1, none⟩ = some (.int .i64 m.b) := by simp [go_sem]
  have k2' : (w10.alloc (.cells #[.int .i64 m.a, .int .i64 m.b, .int .i64 m.c] 34)).cell? ⟨w10.heap.size, 2, none⟩ = some (.int .i64 m.c) := by simp [go_sem]
  have z11 : w10.heap.size < (w10.alloc (.cells #[.int .i64 m.a, .int .i64 m.b, .int .i64 m.c] 34)).heap.size := by simp
  have B11 := hide (ba.alloc ba.size (.cells #[.int .i64 m.a, .int .i64 m.b, .int .i64 m.c] 34))
  have C11 := hide ((Below.refl w10.heap.size w10).alloc (Nat.le_refl _) (.cells #[.int .i64 m.a, .int .i64 m.b, .int .i64 m.c] 34))
  have HRa := hide fun W (hW : Below w10.heap.size w10 W) => (OA.out.r.below hW).more hW.size
  clear oa hab hm ba OA
  generalize w10.alloc (.cells #[.int .i64 m.a, .int .i64 m.b, .int .i64 m.c] 34) = w11 at *
  have HPS := hide (P_SendCarriers a (.slice Aa a.length ca) m w11 (by omega) HAF.out (HRa.out _ C11.out) HMF)
  have HSS := hide fun W (hW : Below w10.heap.size w10 W) => S_SendCarriers a (.slice Aa a.length ca) m W (by omega) HAF.out (HRa.out W hW) HMF
  generalize (sendCarriers a m).1 = sl at *
  generalize (sendCarriers a m).2 = sc at *
  go_upto_region 15 with (first
    | (go_at_call 21; (with_reducible refine (HPS.out).mono ?_); rintro e w12 ⟨v12, rfl, o12, b12⟩; obtain ⟨A12, c12, rfl, _⟩ := sl_rdI o12.r; have O12 := hide o12; have B12 := hide (B11.out.trans (b12.mono B11.out.size)); have C12 := hide (C11.out.trans (b12.mono C11.out.size)); have q0 := (b12.cell (p := ⟨w10.heap.size, 0, none⟩) z11).trans k0'; have q1 := (b12.cell (p := ⟨w10.heap.size, 1, none⟩) z11).trans k1'; have q2 := (b12.cell (p := ⟨w10.heap.size, 2, none⟩) z11).trans k2'; clear o12 b12)
    | (go_at_call 22; (with_reducible refine (HSS.out _ C12.out).mono ?_); rintro e w13 ⟨v13, rfl, o13, b13⟩; obtain ⟨A13, c13, rfl, _⟩ := sl_rdI o13.r; have O13 := hide o13; have B13 := hide (B12.out.trans (b13.mono B12.out.size)); have D13 := hide b13; clear o13 b13))
  have hsl := O12.out.small
  have R12 := hide fun W (hW : Below w13.heap.size w13 W) => (O12.out.r.below (D13.out.trans (hW.mono D13.out.size))).more (Nat.le_trans D13.out.size hW.size)
  have R13 := hide fun W (hW : Below w13.heap.size w13 W) => (O13.out.r.below hW).more hW.size
  clear O12 O13 D13 B12 C11 C12 B11 HPS HSS HRa k0' k1' k2' q0 q1 q2
  go_upto_region 16 with (go_at_call 23; (with_reducible refine (HD3.out _ (BW.out.trans (B13.out.mono BW.out.size))).mono ?_); rintro e w14 ⟨Am, cm, ms, At, ct, lt, rfl, rm, hms, rt, hlt, b14⟩)
  have HPC := hide (P_CostOfMoves ms (.slice Am ms.length cm) lt (.slice At lt.length ct) w14 (by omega) hms.2 rm hlt.1 hlt.2 rt)
  have HSC := hide fun W (hW : Below w14.heap.size w14 W) => S_CostOfMoves ms (.slice Am ms.length cm) lt (.slice At lt.length ct) W (by omega) hms.2 ((rm.below hW).more hW.size) hlt.1 hlt.2 ((rt.below hW).more hW.size)
  generalize (costOfMoves ms lt).1 = cv at *
  generalize (costOfMoves ms lt).2 = cc at *
  have B14 := hide (B13.out.trans (b14.mono B13.out.size))
  have D14 := hide b14
  clear rm hms rt hlt b14 HD2 HD3
  have HF6 := hide fun W (hW : Below w9.heap.size w9 W) => f6same wl A6 A7 c6 c7 W (by omega) (R6.out W hW) (R7.out W hW)
  have HF7 := hide fun W (hW : Below w13.heap.size w13 W) => f6same sl A12 A13 c12 c13 W (by omega) (R12.out W hW) (R13.out W hW)
  have D14' := D14
  go_wp2_with (first
    | (go_at_call 24; (with_reducible refine (HPC.out).mono ?_); rintro e w15 ⟨rfl, b15⟩; have B15 := hide (B14.out.trans (b15.mono B14.out.size)); have D15 := hide (D14'.out.trans (b15.mono D14'.out.size)); have E15 := hide b15; clear b15)
    | (go_at_call 25; (with_reducible refine (HSC.out _ E15.out).mono ?_); rintro e w16 ⟨rfl, b16⟩; have B16 := hide (B15.out.trans (b16.mono B15.out.size)); have D16 := hide (D15.out.trans (b16.mono D15.out.size)); clear b16)
    | (go_at_call 26; (with_reducible refine (HF6.out _ B16.out).mono ?_); rintro e w17 ⟨rfl, b17⟩; have B17 := hide (B16.out.trans (b17.mono B16.out.size)); have D17 := hide (D16.out.trans (b17.mono D16.out.size)); clear b17)
    | (go_at_call 26; (with_reducible refine (HF7.out _ D17.out).mono ?_); rintro e w18 ⟨rfl, b18⟩; have B18 := hide (B17.out.trans (b18.mono B17.out.size)); clear b18)
    | (go_at_call 27; (with_reducible refine (hP5.out _ B18.out).mono ?_); rintro e w19 ⟨rfl, b19⟩; have B19 := hide (B18.out.trans (b19.mono B18.out.size)); clear b19)
    | (go_at_call 28; (with_reducible refine (hS5.out _ B19.out).mono ?_); rintro e w20 ⟨rfl, b20⟩; have B20 := hide (B19.out.trans (b20.mono B19.out.size)); clear b20))
  have hst : Try.prog.stoodInHeld 46 = false := by kernel_rfl
  have hgu : Try.prog.eqGuardType Try.prog.depth 46 = false := by kernel_rfl
  clear B13 B14 B15 B16 B17 B18 B19 D14 D14' D15 D16 D17 E15 HPC HSC HF6 HF7 hP5 hS5 R6 R7 R12 R13
  go_loopg [33] rl.length (fun g i wr => ∃ j : Nat, j ≤ rl.length ∧ Hid (g = rl.length - j) ∧ i = .int .i64 j ∧ Below w20.heap.size w20 wr)
  case atStart => exact ⟨0, by omega, by simp [Hid], rfl, Below.refl _ _⟩
  case round =>
    obtain ⟨j, hj, hgj, rfl, hb⟩ := hrel
    have hb9 := B20.out.trans (hb.mono B20.out.size)
    by_cases hjt : j < rl.length
    · obtain ⟨b2, o2, z, rfl, _, hz, ha0, ha1⟩ := (rd2_of (R2.out wr hb9)).at_ hjt
      obtain ⟨b3, o3, z', rfl, _, hz', hc0, hc1⟩ := (rd2_of (R3.out wr hb9)).at_ hjt
      obtain rfl := Option.some.inj (hz.symm.trans hz')
      clear hz hz' hb9
      as_aux_lemma =>
        go_wp2_with fail
        go_quiet (fail)
        go_wp2_with fail
        go_roundg (rl.length - (j + 1))
        case measure => have := hgj.out; omega
        case rel => exact ⟨j + 1, by omega, rfl, by go_num, bdn hb _⟩
    · clear hb9
      by_cases hnc : nc = 0
      · obtain ⟨bn, y, rfl, hy, hbest⟩ := FN.out hnc
        have hbd := FB.out hnc
        have hbl := lt_of_get hy
        have hybd := hbd y (List.mem_of_getElem? hy)
        have HY := hide hy
        have HBD := hide hbd
        have HBEST := hide hbest
        have hya0 := hybd.1.1
        have hya1 := hybd.1.2
        have hyb0 := hybd.2.1
        have hyb1 := hybd.2.2
        subst hnc
        clear hy hbd hbest hybd
        obtain ⟨wA, hwA⟩ : ∃ q, q = wr := ⟨wr, rfl⟩
        subst hwA
        have hbA := hb
        clear hb
        go_wp2_with fail
        go_loopg [34] l.length (fun g i wr => ∃ j : Nat, j ≤ l.length ∧ Hid (g = l.length - j) ∧ i = .int .i64 j ∧ Below w20.heap.size w20 wr)
        case atStart => exact ⟨0, by omega, by simp [Hid], rfl, hbA⟩
        case round =>
          obtain ⟨j, hj, hgj, rfl, hb⟩ := hrel
          clear hbA
          by_cases hjt : j < l.length
          · have hb9 := B20.out.trans (hb.mono B20.out.size)
            obtain ⟨b2, o2, z, rfl, _, hz, ha0, ha1⟩ := (rd2_of (hR1.out wr hb9)).at_ hjt
            obtain ⟨b3, o3, y', he, _, hy', hc0, hc1⟩ := (rd2_of (hR1.out wr hb9)).at_ hbl
            obtain rfl := Option.some.inj (HY.out.symm.trans hy')
            simp only [Option.some.injEq, Addr.mk.injEq, and_true] at he
            obtain ⟨e2a, e2b⟩ := he
            rw [← e2a, ← e2b] at hc0 hc1
            have hzb := HBD.out z (List.mem_of_getElem? hz)
            have hza0 := hzb.1.1
            have hza1 := hzb.1.2
            have hzb0 := hzb.2.1
            have hzb1 := hzb.2.2
            have hm1 := mul_bd2 hzb.1 ⟨hyb0, hyb1⟩
            have hm2 := mul_bd2 ⟨hya0, hya1⟩ hzb.2
            obtain ⟨hm10, hm11⟩ := hm1
            obtain ⟨hm20, hm21⟩ := hm2
            have hq := hide fun h => HBEST.out j z hz h
            clear e2a e2b hy' hz hb9 hzb
            by_cases hab : z.a < z.b
            · have hd1 : decide (z.a < z.b) = true := by simpa using hab
              have hd3 : decide (z.a * y.b < y.a * z.b) = false := by simpa using hq.out hab
              as_aux_lemma =>
                go_wp2_with fail
                go_quiet (fail)
                go_wp2_with fail
                go_roundg (l.length - (j + 1))
                case measure => have := hgj.out; omega
                case rel => exact ⟨j + 1, by omega, rfl, by go_num, bdn hb _⟩
            · have hd1 : decide (z.a < z.b) = false := by simpa using hab
              as_aux_lemma =>
                go_wp2_with fail
                go_quiet (fail)
                go_wp2_with fail
                go_roundg (l.length - (j + 1))
                case measure => have := hgj.out; omega
                case rel => exact ⟨j + 1, by omega, rfl, by go_num, bdn hb _⟩
          · clear hya0 hya1 hyb0 hyb1 HBEST HBD HY
            have hb9 := B20.out.trans (hb.mono B20.out.size)
            have HBO := hide (BW.out.trans (hb9.mono BW.out.size))
            have HX := hide fun (h : rc = 0) => P_RunsLeft rl (.slice A2 rl.length c2) wr (by omega) (FF.out h) (R2.out wr hb9)
            clear hb9 hb
            by_cases hrc : rc = 0
            · obtain ⟨-, hlc, h2, h3⟩ := FR.out hrc
              have hC := HX.out hrc
              rw [h2, h3] at hC
              have HC := hide hC
              have hw := FW.out hlc
              have hlv := FL.out hlc
              have hlv0 := hlv.1
              have hlv1 : lv ≤ 61000 := by omega
              have hwr : IntKind.i64.wrap (lv - 1) = lv - 1 := by rw [IntKind.wrap_i64] <;> omega
              subst hlc hrc
              clear hC h2 h3 hlv
              by_cases h0 : lv = 0
              · have hB1 : ((wl.length : Int) == (l.length : Int)) = true := by have := hw.2 h0; simp [this]
                have hB2 : (lv == 0) = true := by simp [h0]
                have H0 := hide h0
                have HW := hide hw
                clear h0 hw
                as_aux_lemma =>
                  go_wp2_with (go_at_call 18; (with_reducible refine (HC.out).mono ?_); rintro e w21 ⟨rfl, b21⟩)
                  go_ret
                  exact ⟨ret_b (by simp), HBO.out.trans (b21.mono HBO.out.size)⟩
              · have hB1 : ((wl.length : Int) == (l.length : Int)) = false := by
                  rw [beq_eq_false_iff_ne]; intro h; exact h0 (hw.1 (by omega))
                have hB2 : (lv == 0) = false := by simp [h0]
                have H0 := hide h0
                have HW := hide hw
                clear h0 hw
                as_aux_lemma =>
                  go_wp2_with (go_at_call 18; (with_reducible refine (HC.out).mono ?_); rintro e w21 ⟨rfl, b21⟩)
                  go_ret
                  exact ⟨ret_b (by simp), HBO.out.trans (b21.mono HBO.out.size)⟩
            · have hB : (rc != 0) = true := by simp [hrc]
              have HRC := hide hrc
              clear hrc HX
              by_cases hlc : lc = 0
              · have hw := FW.out hlc
                subst hlc
                by_cases h0 : lv = 0
                · have hB1 : ((wl.length : Int) == (l.length : Int)) = true := by have := hw.2 h0; simp [this]
                  have hB2 : (lv == 0) = true := by simp [h0]
                  have H0 := hide h0
                  have HW := hide hw
                  clear h0 hw
                  as_aux_lemma =>
                    go_wp2_with fail
                    go_ret
                    exact ⟨rfl, HBO.out⟩
                · have hB1 : ((wl.length : Int) == (l.length : Int)) = false := by
                    rw [beq_eq_false_iff_ne]; intro h; exact h0 (hw.1 (by omega))
                  have hB2 : (lv == 0) = false := by simp [h0]
                  have H0 := hide h0
                  have HW := hide hw
                  clear h0 hw
                  as_aux_lemma =>
                    go_wp2_with fail
                    go_ret
                    exact ⟨rfl, HBO.out⟩
              · have hBl : (lc == 0) = false := by simp [hlc]
                have HLC := hide hlc
                clear hlc
                as_aux_lemma =>
                  go_wp2_with fail
                  go_ret
                  exact ⟨rfl, HBO.out⟩
      · have hBn : (nc == 0) = false := by simp [hnc]
        have HNC := hide hnc
        clear hnc
        have hb9 := B20.out.trans (hb.mono B20.out.size)
        have HBO := hide (BW.out.trans (hb9.mono BW.out.size))
        have HX := hide fun (h : rc = 0) => P_RunsLeft rl (.slice A2 rl.length c2) wr (by omega) (FF.out h) (R2.out wr hb9)
        clear hb9 hb
        by_cases hrc : rc = 0
        · obtain ⟨-, hlc, h2, h3⟩ := FR.out hrc
          have hC := HX.out hrc
          rw [h2, h3] at hC
          have HC := hide hC
          have hw := FW.out hlc
          have hlv := FL.out hlc
          have hlv0 := hlv.1
          have hlv1 : lv ≤ 61000 := by omega
          have hwr : IntKind.i64.wrap (lv - 1) = lv - 1 := by rw [IntKind.wrap_i64] <;> omega
          subst hlc hrc
          clear hC h2 h3 hlv
          by_cases h0 : lv = 0
          · have hB1 : ((wl.length : Int) == (l.length : Int)) = true := by have := hw.2 h0; simp [this]
            have hB2 : (lv == 0) = true := by simp [h0]
            have H0 := hide h0
            have HW := hide hw
            clear h0 hw
            as_aux_lemma =>
              go_wp2_with (go_at_call 18; (with_reducible refine (HC.out).mono ?_); rintro e w21 ⟨rfl, b21⟩)
              go_ret
              exact ⟨ret_b (by simp), HBO.out.trans (b21.mono HBO.out.size)⟩
          · have hB1 : ((wl.length : Int) == (l.length : Int)) = false := by
              rw [beq_eq_false_iff_ne]; intro h; exact h0 (hw.1 (by omega))
            have hB2 : (lv == 0) = false := by simp [h0]
            have H0 := hide h0
            have HW := hide hw
            clear h0 hw
            as_aux_lemma =>
              go_wp2_with (go_at_call 18; (with_reducible refine (HC.out).mono ?_); rintro e w21 ⟨rfl, b21⟩)
              go_ret
              exact ⟨ret_b (by simp), HBO.out.trans (b21.mono HBO.out.size)⟩
        · have hB : (rc != 0) = true := by simp [hrc]
          have HRC := hide hrc
          clear hrc HX
          by_cases hlc : lc = 0
          · have hw := FW.out hlc
            subst hlc
            by_cases h0 : lv = 0
            · have hB1 : ((wl.length : Int) == (l.length : Int)) = true := by have := hw.2 h0; simp [this]
              have hB2 : (lv == 0) = true := by simp [h0]
              have H0 := hide h0
              have HW := hide hw
              clear h0 hw
              as_aux_lemma =>
                go_wp2_with fail
                go_ret
                exact ⟨rfl, HBO.out⟩
            · have hB1 : ((wl.length : Int) == (l.length : Int)) = false := by
                rw [beq_eq_false_iff_ne]; intro h; exact h0 (hw.1 (by omega))
              have hB2 : (lv == 0) = false := by simp [h0]
              have H0 := hide h0
              have HW := hide hw
              clear h0 hw
              as_aux_lemma =>
                go_wp2_with fail
                go_ret
                exact ⟨rfl, HBO.out⟩
          · have hBl : (lc == 0) = false := by simp [hlc]
            have HLC := hide hlc
            clear hlc
            as_aux_lemma =>
              go_wp2_with fail
              go_ret
              exact ⟨rfl, HBO.out⟩
theorem fnSeals_own : ownKnob Try.prog.godebug = none := by kernel_rfl
theorem fnSeals_laid : laidOutB Try.prog = true := by kernel_rfl
set_option maxRecDepth 100000 in
theorem fnSeals_lifted (os : Os) (started : os.Started) (H : Type) (enc : TypeId × Value → H) :
    ReturnsInHanded {} Try.checked os 3 .any (Rows.fnSealsSpec.pre6 enc Try.prog Try.f3 Rows.fnSealsRow.domain false) (Rows.fnSealsSpec.post enc Try.prog Try.f3 false true false false) := by
  refine returnsInHanded_of_change (C := Try.checked) fnSeals_own started (by kernel_rfl) Try.func3
    (ChangeSpec.witness6 (enc := enc) (C := Try.checked) false ⟨#[], #[.slice none 0 0], []⟩ 8 (by kernel_rfl) (by kernel_rfl) (by kernel_rfl) (by kernel_rfl)) ?_
  intro W base args ds gs before hval0 hW hcnd _
  have hval : ∀ (j : Nat) t v, Try.f3.params[j]? = some t → args[j]? = some v → Value.okWide Try.prog W .any base t v := hval0
  have hW' := hW
  obtain ⟨p, q, hA0, hV, rfl, hfz, hnd⟩ := hW
  have hA : DataW.TrodAll enc Try.prog W 0 (fun _ => true) true Try.f3.params.toList args.toList ds p := hA0
  rw [Try.params3] at hA hval
  obtain ⟨v0, vs0, d0, ds0, p0, q0, hargs, rfl, rfl, h0, r0⟩ := trodAll_cons hA
  obtain ⟨rfl, rfl, rfl⟩ := trodAll_nil r0
  obtain rfl : args = #[v0] := by cases args; simp_all
  obtain ⟨rfl, rfl⟩ := trodVars_none hV
  have k0 := h0
  have lt0 : ∀ x ∈ p0, x.block < W.heap.size := by obtain ⟨m, hm⟩ := k0; exact DataW.trod_lt m _ _ _ hm
  obtain ⟨A0, c0, zs0, rfl, rd0, len0, bd0⟩ := open_B Try.underlying22 Try.underlying5 (by kernel_rfl) (hval 0 22 v0 rfl rfl) h0
  clear hA0 hval0
  refine (lSeals_walk zs0 (.slice A0 zs0.length c0) W ⟨A0, c0, rfl, rd0⟩ len0 bd0).mono fun e W' ⟨he, bel⟩ => ?_
  subst he
  exact ⟨_, rfl, _, _, _, [], _, [], hW', trodAll_mk1 (shut_bool Try.underlying4 _), (trodAll_cons_mk (Below.trod fnSeals_laid (by kernel_rfl) (of_decide_eq_true (by kernel_rfl)) k0 bel lt0) trodAll_mk0), rfl, bel.frame _, fun h => by cases h⟩
theorem fnSeals_holds : Rows.FnSealsSaid :=
  OpenClaim.holds_of_wide 3 Try.f3 rfl rfl rfl rfl rfl rfl rfl ⟨rfl, rfl, rfl, rfl, rfl⟩ rfl rfl rfl rfl rfl (by kernel_rfl) Try.func3 (by kernel_rfl)
    (of_decide_eq_true (by kernel_rfl)) (by unfold Func.isWrapper; first | (rw [if_pos (by decide +kernel)]; kernel_rfl) | (rw [if_neg (by decide +kernel)]; exact ⟨rfl, rfl⟩))
    (fun os started H enc _ => fnSeals_lifted os started H enc)
#print axioms fnSeals_holds
end Go.Proofs.Ytflbddfmhjlknaa
