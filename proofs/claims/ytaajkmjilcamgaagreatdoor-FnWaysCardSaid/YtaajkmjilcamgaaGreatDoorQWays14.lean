/-
  The walk of the law FnWays: true for every input. Condition: the listed variables of the library lie as their initialisers lay them.
  What a row's list of laid variables gives: one variable's reading; tables.
  The table of powers of ten out of a row's list of laid variables.
  What the texts' functions ask of the world, out of a row's list of laid variables and of the world's shape; and the row's wrap that hands both over.
  The law FnWays returns true for every input. Condition: the listed variables of the library lie as their initialisers lay them.
-/
import Derived.Test.YtaajkmjilcamgaaGreatDoorQWays7
import Derived.Test.YtaajkmjilcamgaaGreatDoorQWays12
import Derived.Test.YtaajkmjilcamgaaGreatDoorQWays13
import Derived.Test.YtaajkmjilcamgaaGreatDoorQWays1
import Derived.Test.YtaajkmjilcamgaaGreatDoorQWays3
import Derived.ProofKit
import Derived.Deep.DeepCutAuto
import Derived.Deep.RegionHeld3
import Derived.Lib.LaidTab
import Derived.LaidLaws
import Derived.Test.YtaajkmjilcamgaaGreatDoorQWays8
import Derived.Test.YtaajkmjilcamgaaGreatDoorQWays9
import Derived.Stop.LaidErr
import Derived.Handed
import Derived.SizedLaws
import Derived.Shelf.Vars
import Derived.Test.YtaajkmjilcamgaaGreatDoorRows
import Derived.Test.YtaajkmjilcamgaaGreatDoorCards
import Derived.Test.YtaajkmjilcamgaaGreatDoorTie
import Derived.OpenShut
import Derived.SevenTiedAt
import Derived.Deep.DeepLaidRun
namespace Go.Proofs.YtaajkmjilcamgaaGreatDoor
open Go.ChangeShapes Go.WideShapes Go.ChangeAt Go.RowKit
/-- What holds in all worlds from here on. -/
def Fu (w : World) (P : World → Prop) : Prop := ∀ W, Below w.heap.size w W → P W
theorem Fu.step {w w2 : World} {P : World → Prop} (h : Fu w P) (b : Below w.heap.size w w2) : Fu w2 P := fun W hW => h W (b.trans (hW.mono b.size))
theorem Fu.now {w : World} {P : World → Prop} (h : Fu w P) : P w := h w (Below.refl _ _)
theorem fu_below {w0 w : World} (b : Below w0.heap.size w0 w) : Fu w (fun W => Below w0.heap.size w0 W) := fun _ hW => b.trans (hW.mono b.size)
theorem fu_B {w : World} {A : Option Addr} {xs : List Int} (h : RdB w w.heap.size A xs) : Fu w (fun W => RdB W W.heap.size A xs) := fun _ hW => (RdB.below h hW).more hW.size
theorem fu_I {w : World} {A : Option Addr} {xs : List Int} (h : RdI w w.heap.size A xs) : Fu w (fun W => RdI W W.heap.size A xs) := fun _ hW => (RdI.below h hW).more hW.size
theorem fu_3 {w : World} {A : Option Addr} {xs : List T3} (h : Rd3 w w.heap.size A xs) : Fu w (fun W => Rd3 W W.heap.size A xs) := fun _ hW => (Rd3.below h hW).more hW.size
theorem fu_T {w : World} (h : TxtW w) : Fu w TxtW := fun _ hW => h.below hW
theorem fu_X {w : World} {b : Nat} {cs : Array Value} {e : TypeId} (h : BoxN w b cs e) : Fu w (fun W => BoxN W b cs e) := fun _ hW => h.below hW h.lt
def lenZ (z : Int) : Int := if 0 ≤ z then z else 0
theorem shortZ_any (n : Nat) (tb : List T3) (s td : Nat) (A : Option Addr) (c : Nat) (w : World) (h : OkNet n tb) (hs : s < n) (ht : td < n) (hr : Rd3 w w.heap.size A tb) :
    Calls Tryz.prog 8 #[.agg #[.int .i64 n, .slice A tb.length c], .int .i64 s, .int .i64 td] w fun e w' => e = .returned (.tuple #[.int .i64 (lenZ (dAt (dist n tb td (-1)) s)), .int .i64 (codeZ (dAt (dist n tb td (-1)) s))]) ∧ Below w.heap.size w w' :=
  implShortest_any n tb s td A c w h ⟨by omega, by omega⟩ ⟨by omega, by omega⟩ hr
/-- A least length and its code. -/
theorem short_cases {n : Nat} {tb : List T3} (h : OkNet n tb) {s td : Nat} (hs : s < n) (ht : td < n) : (codeZ (dAt (dist n tb td (-1)) s) = 0 ∧ lenZ (dAt (dist n tb td (-1)) s) = dAt (dist n tb td (-1)) s ∧ 0 ≤ dAt (dist n tb td (-1)) s ∧ dAt (dist n tb td (-1)) s ≤ 20000) ∨ (codeZ (dAt (dist n tb td (-1)) s) = 3 ∧ lenZ (dAt (dist n tb td (-1)) s) = 0 ∧ dAt (dist n tb td (-1)) s < 0) := by
  have hok := ok_tubes h
  have hn := h.1.2
  by_cases hz : 0 ≤ dAt (dist n tb td (-1)) s
  · refine .inl ⟨codeZ_ok hz, if_pos hz, hz, ?_⟩
    obtain ⟨p, hp, hl⟩ := dist_way hok (wo := -1) (dst := (td : Int)) (by omega) (by omega) (v := (s : Int)) (by omega) hz
    obtain ⟨p2, hp2, hl2, hle⟩ := short_way hok p.length (Nat.le_refl _) hp
    have h1 := dist_bd hok hp2
    have h2 := (dist_opt hok (wo := -1) (dst := (td : Int)) (by omega) (by omega) (v := (s : Int)) (by omega) hp2).2
    omega
  · exact .inr ⟨codeZ_no hz, if_neg hz, by omega⟩
/-- No way over another station is shorter. -/
theorem short_over {n : Nat} {tb : List T3} (h : OkNet n tb) {s td m : Nat} (ht : td < n) (hm : m < n) (h1 : 0 ≤ dAt (dist n tb m (-1)) s) (h2 : 0 ≤ dAt (dist n tb td (-1)) m) : 0 ≤ dAt (dist n tb td (-1)) s ∧ dAt (dist n tb td (-1)) s ≤ dAt (dist n tb m (-1)) s + dAt (dist n tb td (-1)) m := by
  have hok := ok_tubes h
  obtain ⟨p, hp, hl⟩ := dist_way hok (wo := -1) (dst := (m : Int)) (by omega) (by omega) (v := (s : Int)) (by omega) h1
  obtain ⟨q, hq, hl2⟩ := dist_way hok (wo := -1) (dst := (td : Int)) (by omega) (by omega) (v := (m : Int)) (by omega) h2
  have hw : wk tb (-1) (p ++ q) s td := wk_append.2 ⟨_, hp, hq⟩
  have h3 := dist_opt hok (wo := -1) (dst := (td : Int)) (by omega) (by omega) (v := (s : Int)) (by omega) hw
  rw [lenW_append, hl, hl2] at h3
  exact h3
set_option maxRecDepth 100000 in
set_option maxHeartbeats 4000000 in
theorem sameNet_any (n : Nat) (tb : List T3) (A1 A2 : Option Addr) (c1 c2 : Nat) (w : World) (hl : tb.length ≤ 24) (h1 : Rd3 w w.heap.size A1 tb) (h2 : Rd3 w w.heap.size A2 tb) :
    Calls Tryz.prog 12 #[.agg #[.int .i64 n, .slice A1 tb.length c1], .agg #[.int .i64 n, .slice A2 tb.length c2]] w fun e w' => e = .returned (.bool true) ∧ Below w.heap.size w w' := by
  have X0 := hide (show BoxN ((w.alloc (.cells #[.int .i64 n, .slice A1 tb.length c1] 26)).alloc (.cells #[.int .i64 n, .slice A2 tb.length c2] 26)) w.heap.size #[.int .i64 n, .slice A1 tb.length c1] 26 from (BoxN.new w _ _).alloc _)
  have Y0 := hide (show BoxN ((w.alloc (.cells #[.int .i64 n, .slice A1 tb.length c1] 26)).alloc (.cells #[.int .i64 n, .slice A2 tb.length c2] 26)) (w.heap.size + 1) #[.int .i64 n, .slice A2 tb.length c2] 26 by have h := BoxN.new (w.alloc (.cells #[.int .i64 n, .slice A1 tb.length c1] 26)) #[.int .i64 n, .slice A2 tb.length c2] 26; simpa using h)
  have b0 : Below w.heap.size w ((w.alloc (.cells #[.int .i64 n, .slice A1 tb.length c1] 26)).alloc (.cells #[.int .i64 n, .slice A2 tb.length c2] 26)) := (by repeat (first | exact Below.refl _ _ | assumption | (refine Below.alloc ?_ (by simp <;> omega) _) | refine Below.drew ?_ | refine bdn ?_ _))
  have B0 := hide b0
  have H1 := hide fun W (hW : Below w.heap.size w W) => ((h1.below hW).more hW.size)
  have H2 := hide fun W (hW : Below w.heap.size w W) => ((h2.below hW).more hW.size)
  clear h1 h2 b0
  go_enter Tryz.func12, Tryz.ntmps12
  go_upto_region 1 with fail
  generalize ((w.alloc (.cells #[.int .i64 n, .slice A1 tb.length c1] 26)).alloc (.cells #[.int .i64 n, .slice A2 tb.length c2] 26)) = w1 at *
  have k0 : w1.cell? ⟨w.heap.size, 0, none⟩ = some (.int .i64 n) := X0.out.cell 0
  have k1 : w1.cell? ⟨w.heap.size, 1, none⟩ = some (.slice A1 tb.length c1) := X0.out.cell 1
  have l0 : w1.cell? ⟨w.heap.size + 1, 0, none⟩ = some (.int .i64 n) := Y0.out.cell 0
  have l1 : w1.cell? ⟨w.heap.size + 1, 1, none⟩ = some (.slice A2 tb.length c2) := Y0.out.cell 1
  go_wp2_with fail
  go_loopg [5] tb.length (fun g iv wr => ∃ k m : Nat, k ≤ tb.length ∧ Hid (g = tb.length - k) ∧ iv = .int .i64 k ∧ wr = w1.drewN m)
  case atStart => exact ⟨0, 0, by omega, by simp [Hid], rfl, rfl⟩
  case round =>
    obtain ⟨k, m, hk, hg, rfl, rfl⟩ := hrel
    have hbw := bdn B0.out m
    by_cases hkt : k < tb.length
    case neg =>
      go_wp2_with fail
      go_ret
      exact ⟨rfl, hbw⟩
    obtain ⟨pb, po, t, hA, _, htj, ta, tt, tc⟩ := (H1.out _ B0.out).at_ hkt
    subst hA
    obtain ⟨qb, qo, t', hA, _, htj', sa, st, sc⟩ := (H2.out _ B0.out).at_ hkt
    subst hA
    obtain rfl : t = t' := Option.some.inj (htj.symm.trans htj')
    have hki : (k : Int) < (tb.length : Int) := by omega
    clear htj htj'
    go_wp2_with fail
    go_quiet (fail)
    go_wp2_with fail
    go_roundg (tb.length - (k + 1))
    case measure => have := hg.out; omega
    case rel => exact ⟨k + 1, m + nq, by omega, rfl, by go_num, by first | rfl | rw [World.drewN_drewN]⟩
set_option maxRecDepth 100000 in
set_option maxHeartbeats 16000000 in
theorem lWays_walk (x : List Int) (v : Value) (y : List Int) (u : Value) (w : World) (r : ∃ A c, v = .slice A x.length c ∧ RdB w w.heap.size A x) (nx : x.length ≤ 9223372036854775807) (fx : ∀ z ∈ x, 0 ≤ z ∧ z ≤ 255) (r2 : ∃ A c, u = .slice A y.length c ∧ RdB w w.heap.size A y) (ny : y.length ≤ 9223372036854775807) (fy : ∀ z ∈ y, 0 ≤ z ∧ z ≤ 255) (hT : TxtW w) :
    Calls Tryz.prog 3 #[v, u] w fun e w' => e = .returned (.bool true) ∧ Below w.heap.size w w' := by
  obtain ⟨A, c, rfl, r⟩ := r
  obtain ⟨A9, c9, rfl, r2⟩ := r2
  have HL := hide (a2Long_any x.length y.length A A9 c c9 w nx ny)
  by_cases hlong : 3000 < x.length ∨ 3000 < y.length
  · rw [decide_eq_true hlong] at HL
    clear hlong r r2 hT
    go_enter Tryz.func3, Tryz.ntmps3
    go_wp2_with (go_at_call 5; refine (HL.out).mono ?_; rintro e w' ⟨rfl, rfl⟩)
    go_ret
    exact ⟨rfl, Below.refl _ _⟩
  rw [decide_eq_false hlong] at HL
  have HTN := hide (a2Net_any x A c w ⟨by omega, fx⟩ r)
  have HAT := hide fun (j n : Nat) W (hR : RdB W W.heap.size A9 y) => a2At_any y A9 c9 j n W ⟨by omega, fy⟩ hR
  have FR := hide (fu_B r2)
  have FT := hide (fu_T hT)
  have FB := hide (fu_below (Below.refl w.heap.size w))
  clear r nx fx r2 ny fy hlong hT
  go_enter Tryz.func3, Tryz.ntmps3
  go_upto_region 4 with (first | (go_at_call 5; refine (HL.out).mono ?_; rintro e w' ⟨rfl, rfl⟩) | (go_at_call 6; (with_reducible refine (HTN.out).mono ?_); rintro e w1 ⟨n, A2, c2, tb, rfl, hrd, hok, ⟨hl14, hlc⟩, b1⟩))
  have HOK := hide hok
  obtain ⟨hn2, hn10⟩ := hok.1
  have hl24 := hok.2.1
  have F3 := hide (fu_3 hrd)
  replace FB := hide (FB.out.step b1)
  replace FR := hide (FR.out.step b1)
  replace FT := hide (FT.out.step b1)
  have bA : Below w1.heap.size w1 (w1.alloc (.cells #[.int .i64 n, .slice A2 tb.length c2] 26)) := (Below.refl _ _).alloc (Nat.le_refl _) _
  replace FB := hide (FB.out.step bA)
  replace FR := hide (FR.out.step bA)
  replace FT := hide (FT.out.step bA)
  replace F3 := hide (F3.out.step bA)
  have FX := hide (fu_X (BoxN.new w1 #[.int .i64 n, .slice A2 tb.length c2] 26))
  clear hok hrd b1 bA HL HTN
  generalize w1.alloc (.cells #[.int .i64 n, .slice A2 tb.length c2] 26) = w1a at *
  generalize w1.heap.size = gN at *
  have Z0 := hide (Below.refl w1a.heap.size w1a)
  have x0 : w1a.cell? ⟨gN, 0, none⟩ = some (.int .i64 n) := (FX.out.now).cell 0
  have x1 : w1a.cell? ⟨gN, 1, none⟩ = some (.slice A2 tb.length c2) := (FX.out.now).cell 1
  have HA0 := hide (show Calls Tryz.prog 7 #[.slice A9 y.length c9, .int .i64 0, .int .i64 n] w1a fun e w' => ∃ z, e = .returned (.int .i64 z) ∧ (0 ≤ z ∧ ((1 : Int) ≤ n → z < n)) ∧ w1a = w' from HAT.out 0 n w1a FR.out.now)
  have HA1 := hide (show Calls Tryz.prog 7 #[.slice A9 y.length c9, .int .i64 1, .int .i64 n] w1a fun e w' => ∃ z, e = .returned (.int .i64 z) ∧ (0 ≤ z ∧ ((1 : Int) ≤ n → z < n)) ∧ w1a = w' from HAT.out 1 n w1a FR.out.now)
  have HA2 := hide (show Calls Tryz.prog 7 #[.slice A9 y.length c9, .int .i64 2, .int .i64 n] w1a fun e w' => ∃ z, e = .returned (.int .i64 z) ∧ (0 ≤ z ∧ ((1 : Int) ≤ n → z < n)) ∧ w1a = w' from HAT.out 2 n w1a FR.out.now)
  clear HAT FR
  go_upto_region 5 with (go_at_call 7; (with_reducible refine (HA0.out).mono ?_); rintro e w2 ⟨z0, rfl, ⟨p0, p0'⟩, rfl⟩)
  go_upto_region 6 with (go_at_call 7; (with_reducible refine (HA1.out).mono ?_); rintro e w2 ⟨z1, rfl, ⟨p1, p1'⟩, rfl⟩)
  go_upto_region 7 with (go_at_call 7; (with_reducible refine (HA2.out).mono ?_); rintro e w2 ⟨z2, rfl, ⟨p2, p2'⟩, rfl⟩)
  obtain ⟨s, rfl⟩ := Int.eq_ofNat_of_zero_le p0
  obtain ⟨td, rfl⟩ := Int.eq_ofNat_of_zero_le p1
  obtain ⟨m, rfl⟩ := Int.eq_ofNat_of_zero_le p2
  have hs : s < n := by have := p0' (by omega); omega
  have ht : td < n := by have := p1' (by omega); omega
  have hm : m < n := by have := p2' (by omega); omega
  clear p0 p0' p1 p1' p2 p2' HA0 HA1 HA2
  have H1 := hide fun W (hW : Below w1a.heap.size w1a W) => shortZ_any n tb s td A2 c2 W HOK.out hs ht (F3.out W hW)
  have H2 := hide fun W (hW : Below w1a.heap.size w1a W) => implShortestWay_any n tb s td A2 c2 W HOK.out hs ht (F3.out W hW)
  have H3 := hide fun W (hW : Below w1a.heap.size w1a W) => shortZ_any n tb s m A2 c2 W HOK.out hs hm (F3.out W hW)
  have H4 := hide fun W (hW : Below w1a.heap.size w1a W) => shortZ_any n tb m td A2 c2 W HOK.out hm ht (F3.out W hW)
  have C1 := hide (short_cases HOK.out hs ht)
  have C3 := hide (short_cases HOK.out hs hm)
  have C4 := hide (short_cases HOK.out hm ht)
  have COV := hide (short_over (s := s) HOK.out ht hm)
  generalize dAt (dist n tb td (-1)) s = d1 at *
  generalize dAt (dist n tb m (-1)) s = d3 at *
  generalize dAt (dist n tb td (-1)) m = d4 at *
  generalize codeZ d1 = o1 at *
  generalize codeZ d3 = o3 at *
  generalize codeZ d4 = o4 at *
  generalize lenZ d1 = l1 at *
  generalize lenZ d3 = l3 at *
  generalize lenZ d4 = l4 at *
  go_upto_region 8 with (go_at_call 8; (with_reducible refine (H1.out _ Z0.out).mono ?_); rintro e w2 ⟨rfl, bz⟩)
  have Z2 := hide (Z0.out.trans (bz.mono Z0.out.size))
  clear bz x0 x1 H1
  have x0 : w2.cell? ⟨gN, 0, none⟩ = some (.int .i64 n) := (FX.out _ Z2.out).cell 0
  have x1 : w2.cell? ⟨gN, 1, none⟩ = some (.slice A2 tb.length c2) := (FX.out _ Z2.out).cell 1
  go_upto_region 9 with (go_at_call 9; (with_reducible refine (H2.out _ Z2.out).mono ?_); rintro e w3 ⟨P, A3, c3, rfl, hrp, hwr, bz⟩)
  have Z3 := hide (Z2.out.trans (bz.mono Z2.out.size))
  have FP := hide (fu_I hrp)
  have HWR := hide hwr
  clear hrp hwr
  clear bz x0 x1 H2
  have x0 : w3.cell? ⟨gN, 0, none⟩ = some (.int .i64 n) := (FX.out _ Z3.out).cell 0
  have x1 : w3.cell? ⟨gN, 1, none⟩ = some (.slice A2 tb.length c2) := (FX.out _ Z3.out).cell 1
  go_upto_region 10 with (go_at_call 8; (with_reducible refine (H3.out _ Z3.out).mono ?_); rintro e w4 ⟨rfl, bz⟩)
  have Z4 := hide (Z3.out.trans (bz.mono Z3.out.size))
  replace FP := hide (FP.out.step bz)
  clear bz x0 x1 H3
  have x0 : w4.cell? ⟨gN, 0, none⟩ = some (.int .i64 n) := (FX.out _ Z4.out).cell 0
  have x1 : w4.cell? ⟨gN, 1, none⟩ = some (.slice A2 tb.length c2) := (FX.out _ Z4.out).cell 1
  go_upto_region 11 with (go_at_call 8; (with_reducible refine (H4.out _ Z4.out).mono ?_); rintro e w5 ⟨rfl, bz⟩)
  have Z5 := hide (Z4.out.trans (bz.mono Z4.out.size))
  replace FP := hide (FP.out.step bz)
  clear bz x0 x1 H4
  have x0 : w5.cell? ⟨gN, 0, none⟩ = some (.int .i64 n) := (FX.out _ Z5.out).cell 0
  have x1 : w5.cell? ⟨gN, 1, none⟩ = some (.slice A2 tb.length c2) := (FX.out _ Z5.out).cell 1
  go_cut [97] (fun cv wx => cv = .bool false ∧ w5 = wx)
  case first =>
    rcases C1.out with ⟨e1, e2, e3, e4⟩ | ⟨e1, e2, e3⟩ <;> rcases C3.out with ⟨f1, f2, f3, f4⟩ | ⟨f1, f2, f3⟩ <;> rcases C4.out with ⟨g1, g2, g3, g4⟩ | ⟨g1, g2, g3⟩
    · have hov := (COV.out f3 g3).2
      have hw : IntKind.i64.wrap (l3 + l4) = l3 + l4 := by rw [IntKind.wrap_i64] <;> omega
      have hD : decide (l3 + l4 < l1) = false := decide_eq_false (by omega)
      clear hov
      clear C1 C3 C4 COV HWR e2 e3 f2 f3 g2 g3 e4 f4 g4
      subst e1
      subst f1
      subst g1
      go_wp2_with fail
      go_meet
      exact ⟨rfl, rfl⟩
    · skip
      clear C1 C3 C4 COV HWR e2 e3 f2 f3 g2 g3 e4 f4
      subst e1
      subst f1
      subst g1
      go_wp2_with fail
      go_meet
      exact ⟨rfl, rfl⟩
    · skip
      clear C1 C3 C4 COV HWR e2 e3 f2 f3 g2 g3 e4 g4
      subst e1
      subst f1
      subst g1
      go_wp2_with fail
      go_meet
      exact ⟨rfl, rfl⟩
    · skip
      clear C1 C3 C4 COV HWR e2 e3 f2 f3 g2 g3 e4
      subst e1
      subst f1
      subst g1
      go_wp2_with fail
      go_meet
      exact ⟨rfl, rfl⟩
    · exact absurd (COV.out f3 g3).1 (by omega)
    · skip
      clear C1 C3 C4 COV HWR e2 e3 f2 f3 g2 g3 f4
      subst e1
      subst f1
      subst g1
      go_wp2_with fail
      go_meet
      exact ⟨rfl, rfl⟩
    · skip
      clear C1 C3 C4 COV HWR e2 e3 f2 f3 g2 g3 g4
      subst e1
      subst f1
      subst g1
      go_wp2_with fail
      go_meet
      exact ⟨rfl, rfl⟩
    · skip
      clear C1 C3 C4 COV HWR e2 e3 f2 f3 g2 g3
      subst e1
      subst f1
      subst g1
      go_wp2_with fail
      go_meet
      exact ⟨rfl, rfl⟩
  case rest =>
    obtain ⟨rfl, rfl⟩ := hcut
    clear C3 C4 COV
    have HNT := hide (netText_any n tb A2 c2 w5 HOK.out (F3.out _ Z5.out) (FT.out _ Z5.out).tab)
    have HRN := hide fun W (hW : Below w1a.heap.size w1a W) => readNet_any n tb W HOK.out (FT.out W hW)
    go_upto_region 14 with (first | (go_at_call 11; (with_reducible refine (HNT.out).mono ?_); rintro e w6 ⟨rfl, b6⟩; have Z6 := hide (Z5.out.trans (b6.mono Z5.out.size)); replace FP := hide (FP.out.step b6); clear b6) | (go_at_call 10; (with_reducible refine (HRN.out _ Z6.out).mono ?_); rintro e w7 ⟨A7, c7, rfl, hr7, b7⟩))
    have Z7 := hide (Z6.out.trans (b7.mono Z6.out.size))
    replace FP := hide (FP.out.step b7)
    have F7 := hide (fu_3 hr7)
    have bA : Below w7.heap.size w7 (w7.alloc (.cells #[.int .i64 n, .slice A7 tb.length c7] 26)) := (Below.refl _ _).alloc (Nat.le_refl _) _
    have FY := hide (fu_X (BoxN.new w7 #[.int .i64 n, .slice A7 tb.length c7] 26))
    have Z8 := hide (Z7.out.trans (bA.mono Z7.out.size))
    replace FP := hide (FP.out.step bA)
    replace F7 := hide (F7.out.step bA)
    clear b7 bA hr7 x0 x1 HNT HRN Z6 Z7
    generalize w7.alloc (.cells #[.int .i64 n, .slice A7 tb.length c7] 26) = w8 at *
    generalize w7.heap.size = gB at *
    have x0 : w8.cell? ⟨gN, 0, none⟩ = some (.int .i64 n) := (FX.out _ Z8.out).cell 0
    have x1 : w8.cell? ⟨gN, 1, none⟩ = some (.slice A2 tb.length c2) := (FX.out _ Z8.out).cell 1
    have y0 : w8.cell? ⟨gB, 0, none⟩ = some (.int .i64 n) := (FY.out.now).cell 0
    have y1 : w8.cell? ⟨gB, 1, none⟩ = some (.slice A7 tb.length c7) := (FY.out.now).cell 1
    have HSN := hide (sameNet_any n tb A7 A2 c7 c2 w8 hl24 F7.out.now (F3.out _ Z8.out))
    go_upto_region 16 with (go_at_call 12; (with_reducible refine (HSN.out).mono ?_); rintro e w9 ⟨rfl, b9⟩)
    have Z9 := hide (Z8.out.trans (b9.mono Z8.out.size))
    replace FP := hide (FP.out.step b9)
    clear b9 x0 x1 y0 y1 HSN FY F7 Z8
    rcases C1.out with ⟨e1, e2, e3, e4⟩ | ⟨e1, e2, e3⟩
    case inr =>
      clear C1 e2 e3
      subst e1
      go_wp2_with fail
      go_ret
      exact ⟨rfl, FB.out _ Z9.out⟩
    obtain ⟨hwk, hlw, hpl⟩ := HWR.out e3
    have x0 : w9.cell? ⟨gN, 0, none⟩ = some (.int .i64 n) := (FX.out _ Z9.out).cell 0
    have x1 : w9.cell? ⟨gN, 1, none⟩ = some (.slice A2 tb.length c2) := (FX.out _ Z9.out).cell 1
    have HIW := hide (isWay_any n tb P (s : Int) (td : Int) A2 c2 w9 HOK.out (F3.out _ Z9.out) A3 c3 hwk ⟨by omega, by omega⟩ ⟨by omega, by omega⟩ (by omega) FP.out.now)
    have HWK := hide hwk
    have HLW := hide (hlw.trans e2.symm)
    clear C1 HWR hwk hlw e2 e3 e4 FT
    subst e1
    go_upto_region 21 with (go_at_call 13; (with_reducible refine (HIW.out).mono ?_); rintro e w10 ⟨rfl, b10⟩)
    have Z10 := hide (Z9.out.trans (b10.mono Z9.out.size))
    replace FP := hide (FP.out.step b10)
    clear b10 x0 x1 HIW Z9
    have x1 : w10.cell? ⟨gN, 1, none⟩ = some (.slice A2 tb.length c2) := (FX.out _ Z10.out).cell 1
    go_wp2_with fail
    go_loopg [21, 22] P.length (fun g sv iv wr => ∃ (k m : Nat) (S : Int), k ≤ P.length ∧ Hid (g = P.length - k) ∧ iv = .int .i64 k ∧ sv = .int .i64 S ∧ Hid (S = lenW tb (P.take k)) ∧ wr = w10.drewN m)
    case atStart => exact ⟨0, 0, 0, by omega, by simp [Hid], rfl, rfl, rfl, rfl⟩
    case round =>
      obtain ⟨k, m, S, hk, hg, rfl, rfl, HS, rfl⟩ := hrel
      have ZR := hide (show Below w1a.heap.size w1a (w10.drewN m) from bdn Z10.out m)
      by_cases hkt : k < P.length
      case neg =>
        obtain rfl : k = P.length := by omega
        have hSL : S = l1 := by have h1 := HS.out; rw [List.take_length] at h1; exact h1.trans HLW.out
        subst hSL
        go_wp2_with fail
        go_ret
        exact ⟨by simp, FB.out _ ZR.out⟩
      obtain ⟨pb, po, z, hA, _, hz, hcz⟩ := (show RdI w10 w10.heap.size A3 P from FP.out.now).at_ hkt
      subst hA
      obtain ⟨hz0, t, htt⟩ := wk_get HWK.out hz
      obtain ⟨zn, rfl⟩ := Int.eq_ofNat_of_zero_le hz0
      rw [Int.toNat_natCast] at htt
      have hzt : zn < tb.length := lt_of_get htt
      obtain ⟨qb, qo, t', hA, _, htj, ta, tt, tc⟩ := (F3.out _ Z10.out).at_ hzt
      subst hA
      obtain rfl : t = t' := Option.some.inj (htt.symm.trans htj)
      have hok := ok_tubes HOK.out
      have hpre : ∃ q, wk tb (-1) (P.take k) s q := by
        have h1 := HWK.out
        rw [← List.take_append_drop k P] at h1
        obtain ⟨q, hq, _⟩ := wk_append.1 h1
        exact ⟨q, hq⟩
      obtain ⟨q, hq⟩ := hpre
      have hb1 := dist_bd hok hq
      have hb2 := lenW_nonneg hok hq
      rw [List.length_take, Nat.min_eq_left hk] at hb1
      have hS := HS.out
      have htc := (hok t (List.mem_of_getElem? htt)).2.2
      have HNX := hide (show S + t.c = lenW tb (P.take (k + 1)) by
        rw [List.take_add_one, hz]
        show _ = lenW tb (P.take k ++ [(zn : Int)])
        rw [lenW_snoc htt, ← hS])
      have hw : IntKind.i64.wrap (S + t.c) = S + t.c := by rw [IntKind.wrap_i64] <;> omega
      have hki : (k : Int) < (P.length : Int) := by omega
      have hzi : (zn : Int) < (tb.length : Int) := by omega
      clear hz htt htj hq hb1 hb2 hS htc
      go_wp2_with fail
      go_quiet (fail)
      go_wp2_with fail
      go_roundg (P.length - (k + 1))
      case measure => have := hg.out; omega
      case rel => exact ⟨k + 1, m + nq, S + t.c, by omega, rfl, by go_num, by go_num, HNX, by first | rfl | rw [World.drewN_drewN]⟩
end Go.Proofs.YtaajkmjilcamgaaGreatDoor
namespace Go.Proofs.YtaajkmjilcamgaaGreatDoor
open Go.RowKit
/-- One listed variable's reading. -/
def ReadsV (w : World) (n : String) (d : DataW Unit) : Prop :=
  ∃ g t cs fuel p, (Tryz.prog).globalNamed n = some g ∧ ((Tryz.prog).globals[g]?).map (·.type) = some t ∧ w.var? Tryz.prog n = some cs ∧ DataW.trod (fun _ => ()) Tryz.prog w 0 (fun _ => true) false fuel t cs.toList = some (d, p)
theorem laidVars_reads {w : World} : ∀ {l : List (String × DataW Unit)} {ps : List MemPlace}, DataW.LaidVars Tryz.prog w l ps → ∀ n d, (n, d) ∈ l → ReadsV w n d
  | [], _, _, _, _, hm => by cases hm
  | (n', d') :: r, ps, h, n, d, hm => by
    obtain ⟨g, t, cs, fuel, p, q, h1, h2, h3, h4, h5, _⟩ := h
    rcases List.mem_cons.1 hm with e | e
    · cases e
      exact ⟨g, t, cs, fuel, p, h1, h2, h3, h4⟩
    · exact laidVars_reads h5 n d e
theorem laid_reads {w : World} {l : List (String × DataW Unit)} (h : laidMet Tryz.prog l w) {n : String} {d : DataW Unit} (hm : (n, d) ∈ l) : ReadsV w n d :=
  let ⟨_, hv, _⟩ := h
  laidVars_reads hv n d hm
theorem tab_of_reads {w : World} {n : String} {k : IntKind} {zs : List Int} {g : Nat} {t e : TypeId} {m : Nat} (hg : (Tryz.prog).globalNamed n = some g) (hty : ((Tryz.prog).globals[g]?).map (·.type) = some t) (ht : (Tryz.prog).underlying t = some (.array m e)) (he : (Tryz.prog).underlying e = some (.int k)) (hce : (Tryz.prog).cellsOf e = 1) (hct : (Tryz.prog).cellsOf t = m)
    (h : ReadsV w n (Lib.tabData k zs)) : Lib.TabIs Tryz.prog w n k zs := by
  obtain ⟨g', t', cs, fuel, p, hg', ht', hvar, hd⟩ := h
  obtain rfl := Option.some.inj (hg.symm.trans hg')
  obtain rfl := Option.some.inj (hty.symm.trans ht')
  unfold Lib.TabIs
  rw [hvar, ← Lib.cells_of_tab ht he hce hct hd]
end Go.Proofs.YtaajkmjilcamgaaGreatDoor
namespace Go.Proofs.YtaajkmjilcamgaaGreatDoor
open Go.RowKit
theorem tabW_of {w : World} (h : ReadsV w "internal/strconv.uint64pow10" (Lib.tabData .u64 Lib.pow10Tab)) : TabW w :=
  tab_of_reads (g := 3) (t := 166) (e := 96) (m := 20) (by kernel_rfl) (by kernel_rfl) Tryz.underlying166 Tryz.underlying96 (by kernel_rfl) (by kernel_rfl) h
end Go.Proofs.YtaajkmjilcamgaaGreatDoor
namespace Go.Proofs.YtaajkmjilcamgaaGreatDoor
open Go.ChangeShapes Go.WideShapes Go.RowKit
theorem gES : (Tryz.prog).globalNamed "strconv.ErrSyntax" = some 1 := by kernel_rfl
theorem gESType : (Tryz.prog.globals[1]?).map (·.type) = some 103 := by kernel_rfl
theorem cellsErr : Tryz.prog.cellsOf 176 = 1 := by kernel_rfl
theorem cellsStr : Tryz.prog.cellsOf 9 = 1 := by kernel_rfl
theorem starErr : "*" ++ "errors.errorString" = "*errors.errorString" := by decide
theorem rowErr (u : TypeId) (h : Tryz.prog.typeName? 3 u = some "*errors.errorString") : u = 174 :=
  typeName_ptr_named (nm := "errors.errorString") (by rw [starErr]; kernel_rfl) (by kernel_rfl) (by decide) u (by rw [starErr]; exact h)
theorem txtW_of {w : World} {x0 x1 x3 x4 : String × DataW Unit} {text : List UInt8} {r : List (String × DataW Unit)}
    (h : laidMet Tryz.prog (x0 :: x1 :: ("internal/strconv.uint64pow10", Lib.tabData .u64 Lib.pow10Tab) :: x3 :: x4 :: ("strconv.ErrSyntax", .iface "*errors.errorString" (.ptr (.agg [.lit (.string text)]))) :: r) w) (hsh : w.ShapedOpen Tryz.prog) : TxtW w := by
  obtain ⟨a0, s0, hv0, _, _, _⟩ := laid_sentinel h.tail.tail.tail.tail.tail gES gESType Tryz.underlying103 rowErr Tryz.underlying174 Tryz.underlying176 rfl rfl Tryz.underlying9 cellsErr cellsStr
  have h0 : w.cell? ⟨1, 0, none⟩ = some (.iface 174 (.pointer (some a0))) := by simpa using World.var?_cell gES hv0 0
  exact ⟨tabW_of (laid_reads h (by simp)), YtaajkmjilcamgaaGreatDoor.splitLay.s1_3 w hsh, _, _, h0⟩
/-- The row's wrap: the list of laid variables and the world's shape are handed over. -/
theorem inHanded_shaped_and {H : Type} {enc : TypeId × Value → H} {a : Assume} {C : Checked} {os : Os} {f : FuncId} {fn : Func} {s : ChangeSpec} {conds : List PathCond} {apart fresh handsOn again : Bool} {X : World → Array Value → Prop}
    (hX : ∀ (w w' : World) (args : Array Value), w.heap = w'.heap → X w args → X w' args)
    (own : ownKnob C.prog.godebug = none) (started : os.Started) (noInit : C.prog.inits.idxOf? f = none) (hfn : C.prog.funcs[f]? = some fn)
    (witness : ∃ (w : World) (tape : Tape) (i : Input), w.os = os ∧ (w.forCall tape i).Shaped C.prog ∧ i.vars = [] ∧ Input.okWide C.prog (w.forCall tape i) .any w.heap.size f i ∧
      ((s.pre enc C.prog fn conds apart (w.forCall tape i).memory i.args ∧ X (w.forCall tape i).memory i.args) ∧ sizedMet enc C.prog fn (OpenSpec.ofChange s) apart (w.forCall tape i).memory i.args) ∧ a.holds C.prog (lone (Frame.enter C.prog f i.args .normal) [] (w.forCall tape i)))
    (contract : ∀ (W : World) (base : Nat) (args : Array Value) (ds gs : List (DataW H)) (before : List MemPlace),
      (∀ (j : Nat) t v, fn.params[j]? = some t → args[j]? = some v → Value.okWide C.prog W .any base t v) →
      DataW.Whole enc C.prog fn.params.toList s.vars apart W args.toList ds gs before →
      conds.all (PathCond.test C.prog ⟨fn.params.toList, ds, s.plain.varTypes C.prog, gs⟩) = true →
      (DataW.weightsEach C.prog (fn.params.toList ++ s.plain.varTypes C.prog) (ds ++ gs)).all (· ≤ reachBytes) = true → X W args → W.ShapedOpen C.prog →
      a.holds C.prog (lone (Frame.enter C.prog f args .normal) [] W) →
      Calls C.prog f args W fun e W' => ∃ v, e = .returned v ∧ s.post enc C.prog fn apart fresh handsOn again W args v W') :
    ReturnsInHanded a C os f .any (fun w args => (s.pre enc C.prog fn conds apart w args ∧ X w args) ∧ sizedMet enc C.prog fn (OpenSpec.ofChange s) apart w args) (s.post enc C.prog fn apart fresh handsOn again) := by
  refine returnsInHanded_of_calls own started noInit witness ?_
  intro w tape i _ hsh _ hok hpre hholds
  obtain ⟨_, _, _, fn', hfn', _, _, _, _, hval⟩ := hok
  have e : fn' = fn := Option.some.inj (hfn'.symm.trans hfn)
  subst e
  obtain ⟨⟨⟨ds, gs, before, hw, hc⟩, hx⟩, hz⟩ := hpre
  have hw' := DataW.Whole.of_heap (w' := w.forCall tape i) (by rfl) hw
  refine (contract (w.forCall tape i) w.heap.size i.args ds gs before hval hw' hc (hz.weights hw) (hX _ _ _ (by rfl) hx) hsh hholds).mono fun e W' ⟨v, he, hp⟩ => ?_
  subst he
  exact ChangeSpec.post_blind hp
end Go.Proofs.YtaajkmjilcamgaaGreatDoor
namespace Go.Proofs.YtaajkmjilcamgaaGreatDoor
open Go.ChangeShapes Go.WideShapes Go.ChangeAt Go.RowKit
theorem fnWays_own : ownKnob Tryz.prog.godebug = none := by kernel_rfl
/-- The cells that a listed table has. -/
def litCell : Lit → Value
  | .int k n => .int k n
  | _ => undef
def datPart : DataW Unit → List Value
  | .lit x => [litCell x]
  | .agg l => l.map fun | .lit x => litCell x | _ => undef
  | _ => []
/-- A listed error's text. -/
def errText : DataW Unit → ByteArray
  | .iface _ (.ptr (.agg [.lit (.string b)])) => ⟨b.toArray⟩
  | _ => ⟨#[]⟩
/-- So many blocks has the settled world. -/
noncomputable def lowB : Nat := (World.holding Tryz.prog default ⟨#[], #[], []⟩).heap.size
noncomputable def datCells (n : String) : DataW Unit → Array Value
  | .agg l => (l.flatMap datPart).toArray
  | .iface _ _ => if n = "strconv.ErrRange" then #[.iface 174 (.pointer (some ⟨lowB, 0, none⟩))] else #[.iface 174 (.pointer (some ⟨lowB + 1, 0, none⟩))]
  | _ => #[]
/-- One world that fits: each listed variable as its initialiser lays it, the errors' texts in blocks of their own. -/
noncomputable def laidWorld (os : Os) : World :=
  let w0 := World.holding Tryz.prog os ⟨#[.cells #[.string (errText Rows.laid_strconv_ErrRange)] 176, .cells #[.string (errText Rows.laid_strconv_ErrSyntax)] 176], #[], []⟩
  { w0 with heap := Rows.fnWaysRow.laid.foldl (fun h x => match Tryz.prog.globalNamed x.1 with
      | some g => h.modify g fun
        | .cells _ t frozen => .cells (datCells x.1 x.2) t frozen
        | o => o
      | none => h) w0.heap }
theorem laidWorld_met (os : Os) (args : Array Value) : laidMet Tryz.prog Rows.fnWaysRow.laid ((laidWorld os).forCall (fun _ _ => 0) ⟨#[], args, []⟩).memory :=
  laidMet_of_run3 8 (by kernel_rfl) (by kernel_rfl) (by kernel_rfl)
theorem fnWays_laid : laidOutB Tryz.prog = true := by kernel_rfl
set_option maxRecDepth 100000 in
theorem fnWays_lifted (os : Os) (started : os.Started) (H : Type) (enc : TypeId × Value → H) :
    ReturnsInHanded {} Tryz.checked os 3 .any (fun w args => (Rows.fnWaysSpec.pre enc Tryz.prog Tryz.f3 Rows.fnWaysRow.domain false w args ∧ laidMet Tryz.prog Rows.fnWaysRow.laid w) ∧ sizedMet enc Tryz.prog Tryz.f3 (OpenSpec.ofChange Rows.fnWaysSpec) false w args) (Rows.fnWaysSpec.post enc Tryz.prog Tryz.f3 false true false false) := by
  refine inHanded_shaped_and (C := Tryz.checked) (X := fun w _ => laidMet Tryz.prog Rows.fnWaysRow.laid w) (fun _ _ _ hh h => h.of_heap hh) fnWays_own started (by kernel_rfl) Tryz.func3
    (ChangeSpec.witness_at (enc := enc) (C := Tryz.checked) (os := os) (X := fun w _ => laidMet Tryz.prog Rows.fnWaysRow.laid w) false (laidWorld os) #[.slice none 0 0, .slice none 0 0] 8 rfl (by kernel_rfl) (by kernel_rfl) (by kernel_rfl) (by kernel_rfl) (by kernel_rfl) (laidWorld_met os _)) ?_
  intro W base args ds gs before hval0 hW hcnd _ hL hsh _
  have hval : ∀ (j : Nat) t v, Tryz.f3.params[j]? = some t → args[j]? = some v → Value.okWide Tryz.prog W .any base t v := hval0
  have hW' := hW
  obtain ⟨p, q, hA0, hV, rfl, hfz, hnd⟩ := hW
  have hA : DataW.TrodAll enc Tryz.prog W 0 (fun _ => true) true Tryz.f3.params.toList args.toList ds p := hA0
  rw [Tryz.params3] at hA hval
  obtain ⟨v0, vs0, d0, ds0, p0, q0, hargs, rfl, rfl, h0, r0⟩ := trodAll_cons hA
  obtain ⟨v1, vs1, d1, ds1, p1, q1, rfl, rfl, rfl, h1, r1⟩ := trodAll_cons r0
  obtain ⟨rfl, rfl, rfl⟩ := trodAll_nil r1
  obtain rfl : args = #[v0, v1] := by cases args; simp_all
  obtain ⟨rfl, rfl⟩ := trodVars_none hV
  have k0 := h0
  have lt0 : ∀ x ∈ p0, x.block < W.heap.size := by obtain ⟨m, hm⟩ := k0; exact DataW.trod_lt m _ _ _ hm
  obtain ⟨A0, c0, zs0, rfl, rd0, len0, bd0⟩ := open_B Tryz.underlying22 Tryz.underlying5 (by kernel_rfl) (hval 0 22 v0 rfl rfl) h0
  have k1 := h1
  have lt1 : ∀ x ∈ p1, x.block < W.heap.size := by obtain ⟨m, hm⟩ := k1; exact DataW.trod_lt m _ _ _ hm
  obtain ⟨A1, c1, zs1, rfl, rd1, len1, bd1⟩ := open_B Tryz.underlying22 Tryz.underlying5 (by kernel_rfl) (hval 1 22 v1 rfl rfl) h1
  clear hA0 hval0
  refine (lWays_walk zs0 (.slice A0 zs0.length c0) zs1 (.slice A1 zs1.length c1) W ⟨A0, c0, rfl, rd0⟩ len0 bd0 ⟨A1, c1, rfl, rd1⟩ len1 bd1 (txtW_of hL hsh)).mono fun e W' ⟨he, bel⟩ => ?_
  subst he
  exact ⟨_, rfl, _, _, _, [], _, [], hW', trodAll_mk1 (shut_bool Tryz.underlying4 _), (trodAll_cons_mk (Below.trod fnWays_laid (by kernel_rfl) (of_decide_eq_true (by kernel_rfl)) k0 bel lt0) (trodAll_cons_mk (Below.trod fnWays_laid (by kernel_rfl) (of_decide_eq_true (by kernel_rfl)) k1 bel lt1) trodAll_mk0)), rfl, bel.frame _, fun h => by cases h⟩
theorem fnWays_holds : Rows.FnWaysSaid :=
  OpenClaim.holds_of_wide 3 Tryz.f3 rfl rfl rfl rfl rfl rfl rfl ⟨rfl, rfl, rfl, rfl, rfl⟩ rfl rfl rfl rfl rfl (by kernel_rfl) Tryz.func3 (by kernel_rfl)
    (of_decide_eq_true (by kernel_rfl)) (by unfold Func.isWrapper; first | (rw [if_pos (by decide +kernel)]; kernel_rfl) | (rw [if_neg (by decide +kernel)]; exact ⟨rfl, rfl⟩))
    (fun os started H enc _ => fnWays_lifted os started H enc)
theorem fnWays_card_holds : Rows.FnWaysCardSaid :=
  Claim7.holds_tied_plain_at .later [] [.data, .data, .data, .data, .sentinel, .sentinel, .pinned] true Rows.fnWaysCard.stood.harness true
    fnWays_holds (fun _ h => by cases h) (by kernel_rfl) (fun _ h => by cases h) fnWays_row_tie rfl ⟨rfl, rfl⟩ (by kernel_rfl) rfl
    (fun f fn hf hfn => by
      obtain rfl : f = 3 := Option.some.inj ((show Tryz.prog.funcNamed Rows.fnWaysRow.func = some 3 by kernel_rfl).symm.trans hf) |>.symm
      obtain rfl : fn = Tryz.f3 := (Option.some.inj (Tryz.func3.symm.trans hfn)).symm
      exact ⟨by kernel_rfl, fun j t ht => by
        rw [Tryz.params3] at ht
        have hm : t ∈ (Tryz.f3.params).toList := by
          rw [Tryz.params3]
          exact Array.mem_toList_iff.2 (Array.mem_of_getElem? ht)
        exact (of_decide_eq_true (by kernel_rfl) : ∀ t ∈ (Tryz.f3.params).toList, Tryz.prog.wantsStandIn t = false) t hm⟩)
    (by kernel_rfl)
#print axioms fnWays_card_holds
end Go.Proofs.YtaajkmjilcamgaaGreatDoor
