/-
  The walk of the law FnRides: true for every input. Condition: the listed variables of the library lie as their initialisers lay them.
-/
import Derived.Test.YtaajkmjilcamgaaGreatDoorQRides12
import Derived.Test.YtaajkmjilcamgaaGreatDoorQRides13
import Derived.Test.YtaajkmjilcamgaaGreatDoorQRides15
import Derived.Test.YtaajkmjilcamgaaGreatDoorQRides1
import Derived.Test.YtaajkmjilcamgaaGreatDoorQRides8
import Derived.ProofKit
import Derived.Deep.DeepCutAuto
import Derived.Deep.RegionHeld3
namespace Go.Proofs.YtaajkmjilcamgaaGreatDoor
open Go.ChangeShapes Go.WideShapes Go.ChangeAt Go.RowKit
/-- What holds in all worlds from here on. -/
def Fu (w : World) (P : World → Prop) : Prop := ∀ W, Below w.heap.size w W → P W
theorem Fu.step {w w2 : World} {P : World → Prop} (h : Fu w P) (b : Below w.heap.size w w2) : Fu w2 P := fun W hW => h W (b.trans (hW.mono b.size))
theorem Fu.now {w : World} {P : World → Prop} (h : Fu w P) : P w := h w (Below.refl _ _)
theorem fu_below {w0 w : World} (b : Below w0.heap.size w0 w) : Fu w (fun W => Below w0.heap.size w0 W) := fun _ hW => b.trans (hW.mono b.size)
theorem fu_B {w : World} {A : Option Addr} {xs : List Int} (h : RdB w w.heap.size A xs) : Fu w (fun W => RdB W W.heap.size A xs) := fun _ hW => (RdB.below h hW).more hW.size
theorem fu_T {w : World} (h : TxtW w) : Fu w TxtW := fun _ hW => h.below hW
theorem fu_X {w : World} {b : Nat} {cs : Array Value} {e : TypeId} (h : BoxN w b cs e) : Fu w (fun W => BoxN W b cs e) := fun _ hW => h.below hW h.lt
theorem lrdBig_any (A : Option Addr) (n c : Nat) (w : World) (hn : ¬ n ≤ 4096) (hn2 : n ≤ 9223372036854775807) :
    Calls Tryz.prog 14 #[.slice A n c] w fun e w' => e = .returned (.bool true) ∧ w = w' := by
  have hD : decide ((4096 : Int) < (n : Int)) = true := decide_eq_true (by omega)
  go_enter Tryz.func14, Tryz.ntmps14
  go_wp2_with fail
  go_ret
  exact ⟨rfl, rfl⟩
theorem specValidRide_any (x : T4) (w : World) :
    Calls Tryz.prog 33 #[.agg #[.int .i64 x.a, .int .i64 x.b, .int .i64 x.c, .int .i64 x.d]] w fun e w' => e = .returned (.bool (okR x)) ∧ Below w.heap.size w w' := by
  have X0 := BoxN.new w #[.int .i64 x.a, .int .i64 x.b, .int .i64 x.c, .int .i64 x.d] 44
  have B0 := hide (show Below w.heap.size w (w.alloc (.cells #[.int .i64 x.a, .int .i64 x.b, .int .i64 x.c, .int .i64 x.d] 44)) from (Below.refl _ _).alloc (Nat.le_refl _) _)
  have HV := hide (specOk_any x w.heap.size 0 _ ⟨X0.cell 0, X0.cell 1, X0.cell 2, X0.cell 3⟩)
  clear X0
  go_enter Tryz.func33, Tryz.ntmps33
  go_upto_region 1 with fail
  generalize w.alloc (.cells #[.int .i64 x.a, .int .i64 x.b, .int .i64 x.c, .int .i64 x.d] 44) = w1 at *
  go_wp2_with (go_at_call 50; (with_reducible refine (HV.out).mono ?_); rintro e w2 ⟨rfl, rfl⟩)
  go_ret
  exact ⟨rfl, B0.out⟩
/-- What the law's last lines lean on. -/
theorem lrd_x {x : T4} (h : (ticksOfRide x).2 = 0) : ((1 ≤ (ticksOfRide x).1 ∧ (ticksOfRide x).1 ≤ 2010000) ∧ (0 ≤ (speedOf x).1.1 ∧ (speedOf x).1.1 ≤ 10000) ∧ (1 ≤ (speedOf x).1.2 ∧ (speedOf x).1.2 ≤ 1000) ∧ (1 ≤ x.a ∧ x.a ≤ 2000)) ∧ x.a * (speedOf x).1.2 ≤ (speedOf x).1.1 * (ticksOfRide x).1 ∧ (speedOf x).1.1 * ((ticksOfRide x).1 - 1) < x.a * (speedOf x).1.2 := by
  unfold ticksOfRide at h ⊢
  split at h
  · rename_i hok
    rw [if_pos hok]
    obtain ⟨h1, h2, h3⟩ := ride_law hok
    obtain ⟨s1, s2, s3, s4⟩ := speed_bd hok
    exact ⟨⟨⟨h1, ticksR_le hok⟩, ⟨s1, s2⟩, ⟨s3, s4⟩, (okR_iff.1 hok).1⟩, h2, h3⟩
  · cases h
theorem ticks_set {x : T4} (h : okR x = true) : ticksOfRide x = (ticksR x, 0) := by unfold ticksOfRide; rw [if_pos h]
theorem lrd_p {a : T4} {t : Int} (h : (pressureFor a t).2 = 0) : (1 ≤ (pressureFor a t).1 ∧ (pressureFor a t).1 ≤ 100) ∧ ((ticksOfRide (setC a (pressureFor a t).1)).2 = 0 ∧ (ticksOfRide (setC a (pressureFor a t).1)).1 ≤ t) ∧ (1 < (pressureFor a t).1 → (ticksOfRide (setC a ((pressureFor a t).1 - 1))).2 = 0 ∧ t < (ticksOfRide (setC a ((pressureFor a t).1 - 1))).1) := by
  obtain ⟨h1, h2, h3, h4⟩ := pressure_law h
  refine ⟨h2, ?_, fun hlt => ?_⟩
  · rw [ticks_set (okR_setC h1 h2)]; exact ⟨rfl, h3⟩
  · rw [ticks_set (okR_setC h1 ⟨by omega, by omega⟩)]; exact ⟨rfl, h4 hlt⟩
theorem rideB_any {x : T4} : (rideB x).size ≤ 100 := by
  cases h : okR x
  · rw [rideB_no h]; decide
  · exact rideB_size h
theorem text_ne {x : T4} (h : okR x = true) : ¬ (rideB x).toList = [] := by
  rw [Lib.toList_data, rideB_ok h]
  unfold rideL
  cases hh : Lib.itoa x.a with
  | nil => exact absurd hh (itoa_ne _)
  | cons a b => simp
set_option maxRecDepth 100000 in
set_option maxHeartbeats 16000000 in
theorem lRides_walk (bs : List Int) (v : Value) (w : World) (r : ∃ A c, v = .slice A bs.length c ∧ RdB w w.heap.size A bs) (nx : bs.length ≤ 9223372036854775807) (fx : ∀ z ∈ bs, 0 ≤ z ∧ z ≤ 255) (hT : TxtW w) :
    Calls Tryz.prog 4 #[v] w fun e w' => e = .returned (.bool true) ∧ Below w.heap.size w w' := by
  obtain ⟨A, c, rfl, r⟩ := r
  by_cases hlong : bs.length ≤ 4096
  case neg =>
    have HB := hide (lrdBig_any A bs.length c w hlong nx)
    clear hlong r nx fx hT
    go_enter Tryz.func4, Tryz.ntmps4
    go_wp2_with (go_at_call 14; refine (HB.out).mono ?_; rintro e w' ⟨rfl, rfl⟩)
    go_ret
    exact ⟨rfl, Below.refl _ _⟩
  have HB := hide (f6big_any A bs.length c w hlong)
  have HBO := hide (show BsOk bs from ⟨hlong, fx⟩)
  have FR := hide (fu_B r)
  have FT := hide (fu_T hT)
  have FB := hide (fu_below (Below.refl w.heap.size w))
  have HD := hide (drawTicksOfRide_any bs A c w HBO.out FR.out.now)
  clear r nx fx hlong hT
  go_enter Tryz.func4, Tryz.ntmps4
  go_upto_region 4 with (first | (go_at_call 14; refine (HB.out).mono ?_; rintro e w' ⟨rfl, rfl⟩) | (go_at_call 15; (with_reducible refine (HD.out).mono ?_); rintro e w1 ⟨x, rfl, b1⟩))
  replace FB := hide (FB.out.step b1)
  replace FR := hide (FR.out.step b1)
  replace FT := hide (FT.out.step b1)
  clear b1
  have bA : Below w1.heap.size w1 (w1.alloc (.cells #[.int .i64 x.a, .int .i64 x.b, .int .i64 x.c, .int .i64 x.d] 44)) := (Below.refl _ _).alloc (Nat.le_refl _) _
  replace FB := hide (FB.out.step bA)
  replace FR := hide (FR.out.step bA)
  replace FT := hide (FT.out.step bA)
  have FX := hide (fu_X (BoxN.new w1 #[.int .i64 x.a, .int .i64 x.b, .int .i64 x.c, .int .i64 x.d] 44))
  clear bA
  generalize w1.alloc (.cells #[.int .i64 x.a, .int .i64 x.b, .int .i64 x.c, .int .i64 x.d] 44) = w1a at *
  generalize w1.heap.size = gx at *
  clear HD HB
  have HP := hide fun W => implTicksOfRide_any x W
  have HS := hide fun W => specTicksOfRide_any x W
  have HP2 := hide fun W => implSpeedOf_all x W
  have HS2 := hide fun W => specSpeedOf_all x W
  have LX := hide (lrd_x (x := x))
  have HVI := hide fun W => implValidRide_any x W
  have HVS := hide fun W => specValidRide_any x W
  generalize (ticksOfRide x).1 = tk at *
  generalize (ticksOfRide x).2 = tc at *
  generalize (speedOf x).1.1 = s1 at *
  generalize (speedOf x).1.2 = s2 at *
  generalize (speedOf x).2 = sc at *
  generalize okR x = vx at *
  have k0 := (FX.out.now).cell 0
  have k1 := (FX.out.now).cell 1
  have k2 := (FX.out.now).cell 2
  have k3 := (FX.out.now).cell 3
  go_upto_region 5 with ((go_at_call 16; (with_reducible refine (HP.out _).mono ?_); rintro e w2 ⟨rfl, b2⟩))
  clear k0 k1 k2 k3
  replace FB := hide (FB.out.step b2)
  replace FR := hide (FR.out.step b2)
  replace FT := hide (FT.out.step b2)
  replace FX := hide (FX.out.step b2)
  clear b2
  have k0 := (FX.out.now).cell 0
  have k1 := (FX.out.now).cell 1
  have k2 := (FX.out.now).cell 2
  have k3 := (FX.out.now).cell 3
  go_upto_region 6 with ((go_at_call 17; (with_reducible refine (HS.out _).mono ?_); rintro e w3 ⟨rfl, b3⟩))
  clear k0 k1 k2 k3
  replace FB := hide (FB.out.step b3)
  replace FR := hide (FR.out.step b3)
  replace FT := hide (FT.out.step b3)
  replace FX := hide (FX.out.step b3)
  clear b3
  have k0 := (FX.out.now).cell 0
  have k1 := (FX.out.now).cell 1
  have k2 := (FX.out.now).cell 2
  have k3 := (FX.out.now).cell 3
  go_upto_region 7 with ((go_at_call 18; (with_reducible refine (HP2.out _).mono ?_); rintro e w4 ⟨rfl, b4⟩))
  clear k0 k1 k2 k3
  replace FB := hide (FB.out.step b4)
  replace FR := hide (FR.out.step b4)
  replace FT := hide (FT.out.step b4)
  replace FX := hide (FX.out.step b4)
  clear b4
  have bA : Below w4.heap.size w4 (w4.alloc (.cells #[.int .i64 s1, .int .i64 s2] 48)) := (Below.refl _ _).alloc (Nat.le_refl _) _
  replace FB := hide (FB.out.step bA)
  replace FR := hide (FR.out.step bA)
  replace FT := hide (FT.out.step bA)
  replace FX := hide (FX.out.step bA)
  have FF := hide (fu_X (BoxN.new w4 #[.int .i64 s1, .int .i64 s2] 48))
  clear bA
  generalize w4.alloc (.cells #[.int .i64 s1, .int .i64 s2] 48) = w4a at *
  generalize w4.heap.size = gf at *
  have k0 := (FX.out.now).cell 0
  have k1 := (FX.out.now).cell 1
  have k2 := (FX.out.now).cell 2
  have k3 := (FX.out.now).cell 3
  go_upto_region 8 with ((go_at_call 19; (with_reducible refine (HS2.out _).mono ?_); rintro e w5 ⟨rfl, b5⟩))
  clear k0 k1 k2 k3
  replace FB := hide (FB.out.step b5)
  replace FR := hide (FR.out.step b5)
  replace FT := hide (FT.out.step b5)
  replace FX := hide (FX.out.step b5)
  replace FF := hide (FF.out.step b5)
  clear b5
  have bA : Below w5.heap.size w5 (w5.alloc (.cells #[.int .i64 s1, .int .i64 s2] 48)) := (Below.refl _ _).alloc (Nat.le_refl _) _
  replace FB := hide (FB.out.step bA)
  replace FR := hide (FR.out.step bA)
  replace FT := hide (FT.out.step bA)
  replace FX := hide (FX.out.step bA)
  replace FF := hide (FF.out.step bA)
  have FG := hide (fu_X (BoxN.new w5 #[.int .i64 s1, .int .i64 s2] 48))
  clear bA
  generalize w5.alloc (.cells #[.int .i64 s1, .int .i64 s2] 48) = w5a at *
  generalize w5.heap.size = gg at *
  clear HP HS HP2 HS2
  have HD := hide (drawPressureFor_any bs A c _ HBO.out FR.out.now)
  go_upto_region 9 with ((go_at_call 20; (with_reducible refine (HD.out).mono ?_); rintro e w6 ⟨a, goal, rfl, b6⟩))
  replace FB := hide (FB.out.step b6)
  replace FR := hide (FR.out.step b6)
  replace FT := hide (FT.out.step b6)
  replace FX := hide (FX.out.step b6)
  replace FF := hide (FF.out.step b6)
  replace FG := hide (FG.out.step b6)
  clear b6
  have bA : Below w6.heap.size w6 (w6.alloc (.cells #[.int .i64 a.a, .int .i64 a.b, .int .i64 a.c, .int .i64 a.d] 44)) := (Below.refl _ _).alloc (Nat.le_refl _) _
  replace FB := hide (FB.out.step bA)
  replace FR := hide (FR.out.step bA)
  replace FT := hide (FT.out.step bA)
  replace FX := hide (FX.out.step bA)
  replace FF := hide (FF.out.step bA)
  replace FG := hide (FG.out.step bA)
  have FA := hide (fu_X (BoxN.new w6 #[.int .i64 a.a, .int .i64 a.b, .int .i64 a.c, .int .i64 a.d] 44))
  clear bA
  generalize w6.alloc (.cells #[.int .i64 a.a, .int .i64 a.b, .int .i64 a.c, .int .i64 a.d] 44) = w6a at *
  generalize w6.heap.size = ga at *
  clear HD
  have HP := hide fun W => implPressureFor_any a goal W
  have HS := hide fun W => specPressureFor_any a goal W
  have LP := hide (lrd_p (a := a) (t := goal))
  generalize (pressureFor a goal).1 = pl at *
  generalize (pressureFor a goal).2 = pc at *
  have k0 := (FA.out.now).cell 0
  have k1 := (FA.out.now).cell 1
  have k2 := (FA.out.now).cell 2
  have k3 := (FA.out.now).cell 3
  go_upto_region 10 with ((go_at_call 21; (with_reducible refine (HP.out _).mono ?_); rintro e w7 ⟨rfl, b7⟩))
  clear k0 k1 k2 k3
  replace FB := hide (FB.out.step b7)
  replace FR := hide (FR.out.step b7)
  replace FT := hide (FT.out.step b7)
  replace FX := hide (FX.out.step b7)
  replace FF := hide (FF.out.step b7)
  replace FG := hide (FG.out.step b7)
  replace FA := hide (FA.out.step b7)
  clear b7
  have k0 := (FA.out.now).cell 0
  have k1 := (FA.out.now).cell 1
  have k2 := (FA.out.now).cell 2
  have k3 := (FA.out.now).cell 3
  go_upto_region 11 with ((go_at_call 22; (with_reducible refine (HS.out _).mono ?_); rintro e w8 ⟨rfl, b8⟩))
  clear k0 k1 k2 k3
  replace FB := hide (FB.out.step b8)
  replace FR := hide (FR.out.step b8)
  replace FT := hide (FT.out.step b8)
  replace FX := hide (FX.out.step b8)
  replace FF := hide (FF.out.step b8)
  replace FG := hide (FG.out.step b8)
  replace FA := hide (FA.out.step b8)
  clear b8
  clear HP HS
  have HD := hide (drawHeaviestFor_any bs A c _ HBO.out FR.out.now)
  go_upto_region 12 with ((go_at_call 23; (with_reducible refine (HD.out).mono ?_); rintro e w9 ⟨b, lim, rfl, b9⟩))
  replace FB := hide (FB.out.step b9)
  replace FR := hide (FR.out.step b9)
  replace FT := hide (FT.out.step b9)
  replace FX := hide (FX.out.step b9)
  replace FF := hide (FF.out.step b9)
  replace FG := hide (FG.out.step b9)
  replace FA := hide (FA.out.step b9)
  clear b9
  have bA : Below w9.heap.size w9 (w9.alloc (.cells #[.int .i64 b.a, .int .i64 b.b, .int .i64 b.c, .int .i64 b.d] 44)) := (Below.refl _ _).alloc (Nat.le_refl _) _
  replace FB := hide (FB.out.step bA)
  replace FR := hide (FR.out.step bA)
  replace FT := hide (FT.out.step bA)
  replace FX := hide (FX.out.step bA)
  replace FF := hide (FF.out.step bA)
  replace FG := hide (FG.out.step bA)
  replace FA := hide (FA.out.step bA)
  have FH := hide (fu_X (BoxN.new w9 #[.int .i64 b.a, .int .i64 b.b, .int .i64 b.c, .int .i64 b.d] 44))
  clear bA
  generalize w9.alloc (.cells #[.int .i64 b.a, .int .i64 b.b, .int .i64 b.c, .int .i64 b.d] 44) = w9a at *
  generalize w9.heap.size = gh at *
  clear HD
  have HP := hide fun W => implHeaviestFor_any b lim W
  have HS := hide fun W => specHeaviestFor_any b lim W
  generalize (heaviestFor b lim).1 = hw at *
  generalize (heaviestFor b lim).2 = hc at *
  have k0 := (FH.out.now).cell 0
  have k1 := (FH.out.now).cell 1
  have k2 := (FH.out.now).cell 2
  have k3 := (FH.out.now).cell 3
  go_upto_region 13 with ((go_at_call 24; (with_reducible refine (HP.out _).mono ?_); rintro e w10 ⟨rfl, b10⟩))
  clear k0 k1 k2 k3
  replace FB := hide (FB.out.step b10)
  replace FR := hide (FR.out.step b10)
  replace FT := hide (FT.out.step b10)
  replace FX := hide (FX.out.step b10)
  replace FF := hide (FF.out.step b10)
  replace FG := hide (FG.out.step b10)
  replace FA := hide (FA.out.step b10)
  replace FH := hide (FH.out.step b10)
  clear b10
  have k0 := (FH.out.now).cell 0
  have k1 := (FH.out.now).cell 1
  have k2 := (FH.out.now).cell 2
  have k3 := (FH.out.now).cell 3
  go_upto_region 14 with ((go_at_call 25; (with_reducible refine (HS.out _).mono ?_); rintro e w11 ⟨rfl, b11⟩))
  clear k0 k1 k2 k3
  replace FB := hide (FB.out.step b11)
  replace FR := hide (FR.out.step b11)
  replace FT := hide (FT.out.step b11)
  replace FX := hide (FX.out.step b11)
  replace FF := hide (FF.out.step b11)
  replace FG := hide (FG.out.step b11)
  replace FA := hide (FA.out.step b11)
  replace FH := hide (FH.out.step b11)
  clear b11
  clear HP HS FH
  have HD := hide (drawRideText_any bs A c _ HBO.out FR.out.now)
  go_upto_region 15 with ((go_at_call 26; (with_reducible refine (HD.out).mono ?_); rintro e w12 ⟨t, rfl, b12⟩))
  replace FB := hide (FB.out.step b12)
  replace FR := hide (FR.out.step b12)
  replace FT := hide (FT.out.step b12)
  replace FX := hide (FX.out.step b12)
  replace FF := hide (FF.out.step b12)
  replace FG := hide (FG.out.step b12)
  replace FA := hide (FA.out.step b12)
  clear b12
  have bA : Below w12.heap.size w12 (w12.alloc (.cells #[.int .i64 t.a, .int .i64 t.b, .int .i64 t.c, .int .i64 t.d] 44)) := (Below.refl _ _).alloc (Nat.le_refl _) _
  replace FB := hide (FB.out.step bA)
  replace FR := hide (FR.out.step bA)
  replace FT := hide (FT.out.step bA)
  replace FX := hide (FX.out.step bA)
  replace FF := hide (FF.out.step bA)
  replace FG := hide (FG.out.step bA)
  replace FA := hide (FA.out.step bA)
  have FV := hide (fu_X (BoxN.new w12 #[.int .i64 t.a, .int .i64 t.b, .int .i64 t.c, .int .i64 t.d] 44))
  clear bA
  generalize w12.alloc (.cells #[.int .i64 t.a, .int .i64 t.b, .int .i64 t.c, .int .i64 t.d] 44) = w12a at *
  generalize w12.heap.size = gt at *
  clear HD
  have HP := hide (implRideText_any t _ FT.out.now.tab)
  have HST := hide fun W => specRideText_any t W
  have hrs := rideB_any (x := t)
  have HRD := hide (show ∀ W, TxtW W → Calls Tryz.prog 28 #[.string (rideB t)] W _ from fun W h => implReadRide_any (rideB t) W (by omega) h)
  have LT := hide (show (okR t = true → optR (readB (rideB t)) = t ∧ (readB (rideB t)).isSome = true ∧ ¬ (rideB t).toList = []) ∧ (okR t = false → rideB t = ⟨#[]⟩ ∧ optR (readB (rideB t)) = ⟨0, 0, 0, 0⟩ ∧ (readB (rideB t)).isSome = false) from ⟨fun h => ⟨by rw [readB_text h]; rfl, by rw [readB_text h]; rfl, text_ne h⟩, fun h => by rw [rideB_no h]; exact ⟨rfl, rfl, rfl⟩⟩)
  generalize optR (readB (rideB t)) = bk at *
  generalize (readB (rideB t)).isSome = okb at *
  generalize rideB t = tx at *
  have k0 := (FV.out.now).cell 0
  have k1 := (FV.out.now).cell 1
  have k2 := (FV.out.now).cell 2
  have k3 := (FV.out.now).cell 3
  go_upto_region 16 with ((go_at_call 27; (with_reducible refine (HP.out).mono ?_); rintro e w13 ⟨rfl, b13⟩))
  clear k0 k1 k2 k3
  replace FB := hide (FB.out.step b13)
  replace FR := hide (FR.out.step b13)
  replace FT := hide (FT.out.step b13)
  replace FX := hide (FX.out.step b13)
  replace FF := hide (FF.out.step b13)
  replace FG := hide (FG.out.step b13)
  replace FA := hide (FA.out.step b13)
  replace FV := hide (FV.out.step b13)
  clear b13
  have HP := hide (HRD.out _ FT.out.now)
  go_upto_region 17 with ((go_at_call 28; (with_reducible refine (HP.out).mono ?_); rintro e w14 ⟨rfl, b14⟩))
  replace FB := hide (FB.out.step b14)
  replace FR := hide (FR.out.step b14)
  replace FT := hide (FT.out.step b14)
  replace FX := hide (FX.out.step b14)
  replace FF := hide (FF.out.step b14)
  replace FG := hide (FG.out.step b14)
  replace FA := hide (FA.out.step b14)
  replace FV := hide (FV.out.step b14)
  clear b14
  have bA : Below w14.heap.size w14 (w14.alloc (.cells #[.int .i64 bk.a, .int .i64 bk.b, .int .i64 bk.c, .int .i64 bk.d] 44)) := (Below.refl _ _).alloc (Nat.le_refl _) _
  replace FB := hide (FB.out.step bA)
  replace FR := hide (FR.out.step bA)
  replace FT := hide (FT.out.step bA)
  replace FX := hide (FX.out.step bA)
  replace FF := hide (FF.out.step bA)
  replace FG := hide (FG.out.step bA)
  replace FA := hide (FA.out.step bA)
  replace FV := hide (FV.out.step bA)
  have FK := hide (fu_X (BoxN.new w14 #[.int .i64 bk.a, .int .i64 bk.b, .int .i64 bk.c, .int .i64 bk.d] 44))
  clear bA
  generalize w14.alloc (.cells #[.int .i64 bk.a, .int .i64 bk.b, .int .i64 bk.c, .int .i64 bk.d] 44) = w14a at *
  generalize w14.heap.size = gk at *
  clear HP HRD
  have HD := hide (drawReadRide_any bs A c _ HBO.out FR.out.now)
  go_upto_region 18 with ((go_at_call 29; (with_reducible refine (HD.out).mono ?_); rintro e w15 ⟨s, rfl, hsz, b15⟩))
  replace FB := hide (FB.out.step b15)
  replace FR := hide (FR.out.step b15)
  replace FT := hide (FT.out.step b15)
  replace FX := hide (FX.out.step b15)
  replace FF := hide (FF.out.step b15)
  replace FG := hide (FG.out.step b15)
  replace FA := hide (FA.out.step b15)
  replace FV := hide (FV.out.step b15)
  replace FK := hide (FK.out.step b15)
  clear b15
  clear HD
  have HP := hide (show ∀ W, TxtW W → Calls Tryz.prog 28 #[.string s] W _ from fun W h => implReadRide_any s W (by omega) h)
  have HS := hide fun W => specReadRide_any s W (by omega)
  generalize optR (readB s) = rk at *
  generalize (readB s).isSome = rb at *
  have HQ := hide (HP.out _ FT.out.now)
  go_upto_region 19 with ((go_at_call 28; (with_reducible refine (HQ.out).mono ?_); rintro e w16 ⟨rfl, b16⟩))
  replace FB := hide (FB.out.step b16)
  replace FR := hide (FR.out.step b16)
  replace FT := hide (FT.out.step b16)
  replace FX := hide (FX.out.step b16)
  replace FF := hide (FF.out.step b16)
  replace FG := hide (FG.out.step b16)
  replace FA := hide (FA.out.step b16)
  replace FV := hide (FV.out.step b16)
  replace FK := hide (FK.out.step b16)
  clear b16
  have bA : Below w16.heap.size w16 (w16.alloc (.cells #[.int .i64 rk.a, .int .i64 rk.b, .int .i64 rk.c, .int .i64 rk.d] 44)) := (Below.refl _ _).alloc (Nat.le_refl _) _
  replace FB := hide (FB.out.step bA)
  replace FR := hide (FR.out.step bA)
  replace FT := hide (FT.out.step bA)
  replace FX := hide (FX.out.step bA)
  replace FF := hide (FF.out.step bA)
  replace FG := hide (FG.out.step bA)
  replace FA := hide (FA.out.step bA)
  replace FV := hide (FV.out.step bA)
  replace FK := hide (FK.out.step bA)
  have FU := hide (fu_X (BoxN.new w16 #[.int .i64 rk.a, .int .i64 rk.b, .int .i64 rk.c, .int .i64 rk.d] 44))
  clear bA
  generalize w16.alloc (.cells #[.int .i64 rk.a, .int .i64 rk.b, .int .i64 rk.c, .int .i64 rk.d] 44) = w16a at *
  generalize w16.heap.size = gu at *
  go_upto_region 20 with ((go_at_call 30; (with_reducible refine (HS.out _).mono ?_); rintro e w17 ⟨rfl, b17⟩))
  replace FB := hide (FB.out.step b17)
  replace FR := hide (FR.out.step b17)
  replace FT := hide (FT.out.step b17)
  replace FX := hide (FX.out.step b17)
  replace FF := hide (FF.out.step b17)
  replace FG := hide (FG.out.step b17)
  replace FA := hide (FA.out.step b17)
  replace FV := hide (FV.out.step b17)
  replace FK := hide (FK.out.step b17)
  replace FU := hide (FU.out.step b17)
  clear b17
  have bA : Below w17.heap.size w17 (w17.alloc (.cells #[.int .i64 rk.a, .int .i64 rk.b, .int .i64 rk.c, .int .i64 rk.d] 44)) := (Below.refl _ _).alloc (Nat.le_refl _) _
  replace FB := hide (FB.out.step bA)
  replace FR := hide (FR.out.step bA)
  replace FT := hide (FT.out.step bA)
  replace FX := hide (FX.out.step bA)
  replace FF := hide (FF.out.step bA)
  replace FG := hide (FG.out.step bA)
  replace FA := hide (FA.out.step bA)
  replace FV := hide (FV.out.step bA)
  replace FK := hide (FK.out.step bA)
  replace FU := hide (FU.out.step bA)
  have FW := hide (fu_X (BoxN.new w17 #[.int .i64 rk.a, .int .i64 rk.b, .int .i64 rk.c, .int .i64 rk.d] 44))
  clear bA
  generalize w17.alloc (.cells #[.int .i64 rk.a, .int .i64 rk.b, .int .i64 rk.c, .int .i64 rk.d] 44) = w17a at *
  generalize w17.heap.size = gw at *
  clear HP HS HQ
  go_cut [191] (fun cv wx => cv = .bool false ∧ Hid (Below w17a.heap.size w17a wx))
  case first =>
    clear FB FR FA LX LP HBO
    have Z0 : Hid (Below w17a.heap.size w17a w17a.drew) := (Below.refl _ _).drew
    have q0 : (tc != tc) = false := by simp
    have q1 : (tk != tk) = false := by simp
    have q2 : (sc != sc) = false := by simp
    have q3 : (pc != pc) = false := by simp
    have q4 : (pl != pl) = false := by simp
    have q5 : (hc != hc) = false := by simp
    have q6 : (hw != hw) = false := by simp
    have q7 : (rb != rb) = false := by simp
    have q8 : (vx != vx) = false := by simp
    cases hok : okR t
    · obtain ⟨rfl, rfl, rfl⟩ := LT.out.2 hok
      clear LT hok
      refine wp_region_held_drew (S := fun W => W.cell? ⟨gx, 0, none⟩ = some (.int .i64 x.a) ∧ W.cell? ⟨gx, 1, none⟩ = some (.int .i64 x.b) ∧ W.cell? ⟨gx, 2, none⟩ = some (.int .i64 x.c) ∧ W.cell? ⟨gx, 3, none⟩ = some (.int .i64 x.d) ∧ W.cell? ⟨gf, 0, none⟩ = some (.int .i64 s1) ∧ W.cell? ⟨gf, 1, none⟩ = some (.int .i64 s2) ∧ W.cell? ⟨gg, 0, none⟩ = some (.int .i64 s1) ∧ W.cell? ⟨gg, 1, none⟩ = some (.int .i64 s2) ∧ W.cell? ⟨gt, 0, none⟩ = some (.int .i64 t.a) ∧ W.cell? ⟨gt, 1, none⟩ = some (.int .i64 t.b) ∧ W.cell? ⟨gt, 2, none⟩ = some (.int .i64 t.c) ∧ W.cell? ⟨gt, 3, none⟩ = some (.int .i64 t.d) ∧ W.cell? ⟨gk, 0, none⟩ = some (.int .i64 0) ∧ W.cell? ⟨gk, 1, none⟩ = some (.int .i64 0) ∧ W.cell? ⟨gk, 2, none⟩ = some (.int .i64 0) ∧ W.cell? ⟨gk, 3, none⟩ = some (.int .i64 0) ∧ W.cell? ⟨gu, 0, none⟩ = some (.int .i64 rk.a) ∧ W.cell? ⟨gu, 1, none⟩ = some (.int .i64 rk.b) ∧ W.cell? ⟨gu, 2, none⟩ = some (.int .i64 rk.c) ∧ W.cell? ⟨gu, 3, none⟩ = some (.int .i64 rk.d) ∧ W.cell? ⟨gw, 0, none⟩ = some (.int .i64 rk.a) ∧ W.cell? ⟨gw, 1, none⟩ = some (.int .i64 rk.b) ∧ W.cell? ⟨gw, 2, none⟩ = some (.int .i64 rk.c) ∧ W.cell? ⟨gw, 3, none⟩ = some (.int .i64 rk.d)) (by kernel_rfl) (⟨(FX.out _ Z0.out).cell 0, (FX.out _ Z0.out).cell 1, (FX.out _ Z0.out).cell 2, (FX.out _ Z0.out).cell 3, (FF.out _ Z0.out).cell 0, (FF.out _ Z0.out).cell 1, (FG.out _ Z0.out).cell 0, (FG.out _ Z0.out).cell 1, (FV.out _ Z0.out).cell 0, (FV.out _ Z0.out).cell 1, (FV.out _ Z0.out).cell 2, (FV.out _ Z0.out).cell 3, (FK.out _ Z0.out).cell 0, (FK.out _ Z0.out).cell 1, (FK.out _ Z0.out).cell 2, (FK.out _ Z0.out).cell 3, (FU.out _ Z0.out).cell 0, (FU.out _ Z0.out).cell 1, (FU.out _ Z0.out).cell 2, (FU.out _ Z0.out).cell 3, (FW.out _ Z0.out).cell 0, (FW.out _ Z0.out).cell 1, (FW.out _ Z0.out).cell 2, (FW.out _ Z0.out).cell 3⟩) (fun hHeld => ?_)
      generalize w17a.drew = wd at *
      simp only [List.append]
      change wpAnyH Tryz.prog .any _ _ _ _ ([false, false, false, false, false, false, false, false, false, false, false, false, false, false, false, false, false, false, false, false, false, false, false, false, false, false, false, false, false, false, false, false, false, false, false, false, false, false, false, false, false, false, false, false, false, false, false, false, false, false, false, false, false, false, false, false, false, false, false, false, false, false, false, false, false, false, false, false, false, false, false, false, false, false, false] : List Bool).toArray _ _
      refine wpAnyH_take (i := 0) (v := ?_) rfl (by kernel_rfl) (by kernel_rfl) (by kernel_rfl) (fun _ _ _ h => h) (Or.inl ⟨by kernel_rfl, ?_⟩) (by assumption) ?_
      rotate_left 1
      · (intro w hSw; (try dsimp only at hSw); go_simp; try with_reducible rfl)
      try simp only [Act.put, List.getElem_toArray, List.getElem_cons_succ, List.getElem_cons_zero, List.setIfInBounds_toArray, List.set_cons_zero, List.set_cons_succ]
      refine wpAnyH_take (i := 1) (v := ?_) rfl (by kernel_rfl) (by kernel_rfl) (by kernel_rfl) (fun _ _ _ h => h) (Or.inl ⟨by kernel_rfl, ?_⟩) (by assumption) ?_
      rotate_left 1
      · (intro w hSw; (try dsimp only at hSw); go_simp; try with_reducible rfl)
      try simp only [Act.put, List.getElem_toArray, List.getElem_cons_succ, List.getElem_cons_zero, List.setIfInBounds_toArray, List.set_cons_zero, List.set_cons_succ]
      refine wpAnyH_take (i := 2) (v := ?_) rfl (by kernel_rfl) (by kernel_rfl) (by kernel_rfl) (fun _ _ _ h => h) (Or.inl ⟨by kernel_rfl, ?_⟩) (by assumption) ?_
      rotate_left 1
      · (intro w hSw; (try dsimp only at hSw); go_simp; try with_reducible rfl)
      try simp only [Act.put, List.getElem_toArray, List.getElem_cons_succ, List.getElem_cons_zero, List.setIfInBounds_toArray, List.set_cons_zero, List.set_cons_succ]
      refine wpAnyH_take (i := 3) (v := ?_) rfl (by kernel_rfl) (by kernel_rfl) (by kernel_rfl) (fun _ _ _ h => h) (Or.inl ⟨by kernel_rfl, ?_⟩) (by assumption) ?_
      rotate_left 1
      · (intro w hSw; (try dsimp only at hSw); go_simp; try with_reducible rfl)
      try simp only [Act.put, List.getElem_toArray, List.getElem_cons_succ, List.getElem_cons_zero, List.setIfInBounds_toArray, List.set_cons_zero, List.set_cons_succ]
      refine wpAnyH_take (i := 4) (v := ?_) rfl (by kernel_rfl) (by kernel_rfl) (by kernel_rfl) (fun _ _ _ h => h) (Or.inl ⟨by kernel_rfl, ?_⟩) (by assumption) ?_
      rotate_left 1
      · (intro w hSw; (try dsimp only at hSw); go_simp; try with_reducible rfl)
      try simp only [Act.put, List.getElem_toArray, List.getElem_cons_succ, List.getElem_cons_zero, List.setIfInBounds_toArray, List.set_cons_zero, List.set_cons_succ]
      refine wpAnyH_take (i := 5) (v := ?_) rfl (by kernel_rfl) (by kernel_rfl) (by kernel_rfl) (fun _ _ _ h => h) (Or.inl ⟨by kernel_rfl, ?_⟩) (by assumption) ?_
      rotate_left 1
      · (intro w hSw; (try dsimp only at hSw); go_simp; try with_reducible rfl)
      try simp only [Act.put, List.getElem_toArray, List.getElem_cons_succ, List.getElem_cons_zero, List.setIfInBounds_toArray, List.set_cons_zero, List.set_cons_succ]
      refine wpAnyH_take (i := 6) (v := ?_) rfl (by kernel_rfl) (by kernel_rfl) (by kernel_rfl) (fun _ _ _ h => h) (Or.inl ⟨by kernel_rfl, ?_⟩) (by assumption) ?_
      rotate_left 1
      · (intro w hSw; (try dsimp only at hSw); go_simp; try with_reducible rfl)
      try simp only [Act.put, List.getElem_toArray, List.getElem_cons_succ, List.getElem_cons_zero, List.setIfInBounds_toArray, List.set_cons_zero, List.set_cons_succ]
      refine wpAnyH_take (i := 7) (v := ?_) rfl (by kernel_rfl) (by kernel_rfl) (by kernel_rfl) (fun _ _ _ h => h) (Or.inl ⟨by kernel_rfl, ?_⟩) (by assumption) ?_
      rotate_left 1
      · (intro w hSw; (try dsimp only at hSw); go_simp; try with_reducible rfl)
      try simp only [Act.put, List.getElem_toArray, List.getElem_cons_succ, List.getElem_cons_zero, List.setIfInBounds_toArray, List.set_cons_zero, List.set_cons_succ]
      refine wpAnyH_take (i := 8) (v := ?_) rfl (by kernel_rfl) (by kernel_rfl) (by kernel_rfl) (fun _ _ _ h => h) (Or.inl ⟨by kernel_rfl, ?_⟩) (by assumption) ?_
      rotate_left 1
      · (intro w hSw; (try dsimp only at hSw); go_simp; try with_reducible rfl)
      try simp only [Act.put, List.getElem_toArray, List.getElem_cons_succ, List.getElem_cons_zero, List.setIfInBounds_toArray, List.set_cons_zero, List.set_cons_succ]
      refine wpAnyH_take (i := 9) (v := ?_) rfl (by kernel_rfl) (by kernel_rfl) (by kernel_rfl) (fun _ _ _ h => h) (Or.inl ⟨by kernel_rfl, ?_⟩) (by assumption) ?_
      rotate_left 1
      · (intro w hSw; (try dsimp only at hSw); go_simp; try with_reducible rfl)
      try simp only [Act.put, List.getElem_toArray, List.getElem_cons_succ, List.getElem_cons_zero, List.setIfInBounds_toArray, List.set_cons_zero, List.set_cons_succ]
      refine wpAnyH_take (i := 10) (v := ?_) rfl (by kernel_rfl) (by kernel_rfl) (by kernel_rfl) (fun _ _ _ h => h) (Or.inl ⟨by kernel_rfl, ?_⟩) (by assumption) ?_
      rotate_left 1
      · (intro w hSw; (try dsimp only at hSw); go_simp; try with_reducible rfl)
      try simp only [Act.put, List.getElem_toArray, List.getElem_cons_succ, List.getElem_cons_zero, List.setIfInBounds_toArray, List.set_cons_zero, List.set_cons_succ]
      refine wpAnyH_take (i := 11) (v := ?_) rfl (by kernel_rfl) (by kernel_rfl) (by kernel_rfl) (fun _ _ _ h => h) (Or.inl ⟨by kernel_rfl, ?_⟩) (by assumption) ?_
      rotate_left 1
      · (intro w hSw; (try dsimp only at hSw); go_simp; try with_reducible rfl)
      try simp only [Act.put, List.getElem_toArray, List.getElem_cons_succ, List.getElem_cons_zero, List.setIfInBounds_toArray, List.set_cons_zero, List.set_cons_succ]
      refine wpAnyH_take (i := 12) (v := ?_) rfl (by kernel_rfl) (by kernel_rfl) (by kernel_rfl) (fun _ _ _ h => h) (Or.inl ⟨by kernel_rfl, ?_⟩) (by assumption) ?_
      rotate_left 1
      · (intro w hSw; (try dsimp only at hSw); go_simp; try with_reducible rfl)
      try simp only [Act.put, List.getElem_toArray, List.getElem_cons_succ, List.getElem_cons_zero, List.setIfInBounds_toArray, List.set_cons_zero, List.set_cons_succ]
      refine wpAnyH_take (i := 13) (v := ?_) rfl (by kernel_rfl) (by kernel_rfl) (by kernel_rfl) (fun _ _ _ h => h) (Or.inl ⟨by kernel_rfl, ?_⟩) (by assumption) ?_
      rotate_left 1
      · (intro w hSw; (try dsimp only at hSw); go_simp; try with_reducible rfl)
      try simp only [Act.put, List.getElem_toArray, List.getElem_cons_succ, List.getElem_cons_zero, List.setIfInBounds_toArray, List.set_cons_zero, List.set_cons_succ]
      refine wpAnyH_take (i := 14) (v := ?_) rfl (by kernel_rfl) (by kernel_rfl) (by kernel_rfl) (fun _ _ _ h => h) (Or.inl ⟨by kernel_rfl, ?_⟩) (by assumption) ?_
      rotate_left 1
      · (intro w hSw; (try dsimp only at hSw); go_simp; try with_reducible rfl)
      try simp only [Act.put, List.getElem_toArray, List.getElem_cons_succ, List.getElem_cons_zero, List.setIfInBounds_toArray, List.set_cons_zero, List.set_cons_succ]
      refine wpAnyH_take (i := 15) (v := ?_) rfl (by kernel_rfl) (by kernel_rfl) (by kernel_rfl) (fun _ _ _ h => h) (Or.inl ⟨by kernel_rfl, ?_⟩) (by assumption) ?_
      rotate_left 1
      · (intro w hSw; (try dsimp only at hSw); go_simp; try with_reducible rfl)
      try simp only [Act.put, List.getElem_toArray, List.getElem_cons_succ, List.getElem_cons_zero, List.setIfInBounds_toArray, List.set_cons_zero, List.set_cons_succ]
      refine wpAnyH_take (i := 16) (v := ?_) rfl (by kernel_rfl) (by kernel_rfl) (by kernel_rfl) (fun _ _ _ h => h) (Or.inl ⟨by kernel_rfl, ?_⟩) (by assumption) ?_
      rotate_left 1
      · (intro w hSw; (try dsimp only at hSw); go_simp; try with_reducible rfl)
      try simp only [Act.put, List.getElem_toArray, List.getElem_cons_succ, List.getElem_cons_zero, List.setIfInBounds_toArray, List.set_cons_zero, List.set_cons_succ]
      refine wpAnyH_take (i := 17) (v := ?_) rfl (by kernel_rfl) (by kernel_rfl) (by kernel_rfl) (fun _ _ _ h => h) (Or.inl ⟨by kernel_rfl, ?_⟩) (by assumption) ?_
      rotate_left 1
      · (intro w hSw; (try dsimp only at hSw); go_simp; try with_reducible rfl)
      try simp only [Act.put, List.getElem_toArray, List.getElem_cons_succ, List.getElem_cons_zero, List.setIfInBounds_toArray, List.set_cons_zero, List.set_cons_succ]
      refine wpAnyH_take (i := 18) (v := ?_) rfl (by kernel_rfl) (by kernel_rfl) (by kernel_rfl) (fun _ _ _ h => h) (Or.inl ⟨by kernel_rfl, ?_⟩) (by assumption) ?_
      rotate_left 1
      · (intro w hSw; (try dsimp only at hSw); go_simp; try with_reducible rfl)
      try simp only [Act.put, List.getElem_toArray, List.getElem_cons_succ, List.getElem_cons_zero, List.setIfInBounds_toArray, List.set_cons_zero, List.set_cons_succ]
      refine wpAnyH_take (i := 19) (v := ?_) rfl (by kernel_rfl) (by kernel_rfl) (by kernel_rfl) (fun _ _ _ h => h) (Or.inl ⟨by kernel_rfl, ?_⟩) (by assumption) ?_
      rotate_left 1
      · (intro w hSw; (try dsimp only at hSw); go_simp; try with_reducible rfl)
      try simp only [Act.put, List.getElem_toArray, List.getElem_cons_succ, List.getElem_cons_zero, List.setIfInBounds_toArray, List.set_cons_zero, List.set_cons_succ]
      refine wpAnyH_take (i := 20) (v := ?_) rfl (by kernel_rfl) (by kernel_rfl) (by kernel_rfl) (fun _ _ _ h => h) (Or.inl ⟨by kernel_rfl, ?_⟩) (by assumption) ?_
      rotate_left 1
      · (intro w hSw; (try dsimp only at hSw); go_simp; try with_reducible rfl)
      try simp only [Act.put, List.getElem_toArray, List.getElem_cons_succ, List.getElem_cons_zero, List.setIfInBounds_toArray, List.set_cons_zero, List.set_cons_succ]
      refine wpAnyH_take (i := 21) (v := ?_) rfl (by kernel_rfl) (by kernel_rfl) (by kernel_rfl) (fun _ _ _ h => h) (Or.inl ⟨by kernel_rfl, ?_⟩) (by assumption) ?_
      rotate_left 1
      · (intro w hSw; (try dsimp only at hSw); go_simp; try with_reducible rfl)
      try simp only [Act.put, List.getElem_toArray, List.getElem_cons_succ, List.getElem_cons_zero, List.setIfInBounds_toArray, List.set_cons_zero, List.set_cons_succ]
      refine wpAnyH_take (i := 22) (v := ?_) rfl (by kernel_rfl) (by kernel_rfl) (by kernel_rfl) (fun _ _ _ h => h) (Or.inl ⟨by kernel_rfl, ?_⟩) (by assumption) ?_
      rotate_left 1
      · (intro w hSw; (try dsimp only at hSw); go_simp; try with_reducible rfl)
      try simp only [Act.put, List.getElem_toArray, List.getElem_cons_succ, List.getElem_cons_zero, List.setIfInBounds_toArray, List.set_cons_zero, List.set_cons_succ]
      refine wpAnyH_take (i := 23) (v := ?_) rfl (by kernel_rfl) (by kernel_rfl) (by kernel_rfl) (fun _ _ _ h => h) (Or.inl ⟨by kernel_rfl, ?_⟩) (by assumption) ?_
      rotate_left 1
      · (intro w hSw; (try dsimp only at hSw); go_simp; try with_reducible rfl)
      try simp only [Act.put, List.getElem_toArray, List.getElem_cons_succ, List.getElem_cons_zero, List.setIfInBounds_toArray, List.set_cons_zero, List.set_cons_succ]
      refine wpAnyH_take (i := 24) (v := ?_) rfl (by kernel_rfl) (by kernel_rfl) (by kernel_rfl) (fun _ _ _ h => h) (Or.inl ⟨by kernel_rfl, ?_⟩) (by assumption) ?_
      rotate_left 1
      · (intro w hSw; (try dsimp only at hSw); go_simp; try with_reducible rfl)
      try simp only [Act.put, List.getElem_toArray, List.getElem_cons_succ, List.getElem_cons_zero, List.setIfInBounds_toArray, List.set_cons_zero, List.set_cons_succ]
      refine wpAnyH_take (i := 25) (v := ?_) rfl (by kernel_rfl) (by kernel_rfl) (by kernel_rfl) (fun _ _ _ h => h) (Or.inl ⟨by kernel_rfl, ?_⟩) (by assumption) ?_
      rotate_left 1
      · (intro w hSw; (try dsimp only at hSw); go_simp; try with_reducible rfl)
      try simp only [Act.put, List.getElem_toArray, List.getElem_cons_succ, List.getElem_cons_zero, List.setIfInBounds_toArray, List.set_cons_zero, List.set_cons_succ]
      refine wpAnyH_take (i := 26) (v := ?_) rfl (by kernel_rfl) (by kernel_rfl) (by kernel_rfl) (fun _ _ _ h => h) (Or.inl ⟨by kernel_rfl, ?_⟩) (by assumption) ?_
      rotate_left 1
      · (intro w hSw; (try dsimp only at hSw); go_simp; try with_reducible rfl)
      try simp only [Act.put, List.getElem_toArray, List.getElem_cons_succ, List.getElem_cons_zero, List.setIfInBounds_toArray, List.set_cons_zero, List.set_cons_succ]
      refine wpAnyH_take (i := 27) (v := ?_) rfl (by kernel_rfl) (by kernel_rfl) (by kernel_rfl) (fun _ _ _ h => h) (Or.inl ⟨by kernel_rfl, ?_⟩) (by assumption) ?_
      rotate_left 1
      · (intro w hSw; (try dsimp only at hSw); go_simp; try with_reducible rfl)
      try simp only [Act.put, List.getElem_toArray, List.getElem_cons_succ, List.getElem_cons_zero, List.setIfInBounds_toArray, List.set_cons_zero, List.set_cons_succ]
      refine wpAnyH_take (i := 28) (v := ?_) rfl (by kernel_rfl) (by kernel_rfl) (by kernel_rfl) (fun _ _ _ h => h) (Or.inl ⟨by kernel_rfl, ?_⟩) (by assumption) ?_
      rotate_left 1
      · (intro w hSw; (try dsimp only at hSw); go_simp; try with_reducible rfl)
      try simp only [Act.put, List.getElem_toArray, List.getElem_cons_succ, List.getElem_cons_zero, List.setIfInBounds_toArray, List.set_cons_zero, List.set_cons_succ]
      refine wpAnyH_take (i := 29) (v := ?_) rfl (by kernel_rfl) (by kernel_rfl) (by kernel_rfl) (fun _ _ _ h => h) (Or.inl ⟨by kernel_rfl, ?_⟩) (by assumption) ?_
      rotate_left 1
      · (intro w hSw; (try dsimp only at hSw); go_simp; try with_reducible rfl)
      try simp only [Act.put, List.getElem_toArray, List.getElem_cons_succ, List.getElem_cons_zero, List.setIfInBounds_toArray, List.set_cons_zero, List.set_cons_succ]
      refine wpAnyH_take (i := 30) (v := ?_) rfl (by kernel_rfl) (by kernel_rfl) (by kernel_rfl) (fun _ _ _ h => h) (Or.inl ⟨by kernel_rfl, ?_⟩) (by assumption) ?_
      rotate_left 1
      · (intro w hSw; (try dsimp only at hSw); go_simp; try with_reducible rfl)
      try simp only [Act.put, List.getElem_toArray, List.getElem_cons_succ, List.getElem_cons_zero, List.setIfInBounds_toArray, List.set_cons_zero, List.set_cons_succ]
      refine wpAnyH_take (i := 31) (v := ?_) rfl (by kernel_rfl) (by kernel_rfl) (by kernel_rfl) (fun _ _ _ h => h) (Or.inl ⟨by kernel_rfl, ?_⟩) (by assumption) ?_
      rotate_left 1
      · (intro w hSw; (try dsimp only at hSw); go_simp; try with_reducible rfl)
      try simp only [Act.put, List.getElem_toArray, List.getElem_cons_succ, List.getElem_cons_zero, List.setIfInBounds_toArray, List.set_cons_zero, List.set_cons_succ]
      refine wpAnyH_take (i := 32) (v := ?_) rfl (by kernel_rfl) (by kernel_rfl) (by kernel_rfl) (fun _ _ _ h => h) (Or.inl ⟨by kernel_rfl, ?_⟩) (by assumption) ?_
      rotate_left 1
      · (intro w hSw; (try dsimp only at hSw); go_simp; try with_reducible rfl)
      try simp only [Act.put, List.getElem_toArray, List.getElem_cons_succ, List.getElem_cons_zero, List.setIfInBounds_toArray, List.set_cons_zero, List.set_cons_succ]
      refine wpAnyH_take (i := 33) (v := ?_) rfl (by kernel_rfl) (by kernel_rfl) (by kernel_rfl) (fun _ _ _ h => h) (Or.inl ⟨by kernel_rfl, ?_⟩) (by assumption) ?_
      rotate_left 1
      · (intro w hSw; (try dsimp only at hSw); go_simp; try with_reducible rfl)
      try simp only [Act.put, List.getElem_toArray, List.getElem_cons_succ, List.getElem_cons_zero, List.setIfInBounds_toArray, List.set_cons_zero, List.set_cons_succ]
      refine wpAnyH_take (i := 34) (v := ?_) rfl (by kernel_rfl) (by kernel_rfl) (by kernel_rfl) (fun _ _ _ h => h) (Or.inl ⟨by kernel_rfl, ?_⟩) (by assumption) ?_
      rotate_left 1
      · (intro w hSw; (try dsimp only at hSw); go_simp; try with_reducible rfl)
      try simp only [Act.put, List.getElem_toArray, List.getElem_cons_succ, List.getElem_cons_zero, List.setIfInBounds_toArray, List.set_cons_zero, List.set_cons_succ]
      refine wpAnyH_take (i := 35) (v := ?_) rfl (by kernel_rfl) (by kernel_rfl) (by kernel_rfl) (fun _ _ _ h => h) (Or.inl ⟨by kernel_rfl, ?_⟩) (by assumption) ?_
      rotate_left 1
      · (intro w hSw; (try dsimp only at hSw); go_simp; try with_reducible rfl)
      try simp only [Act.put, List.getElem_toArray, List.getElem_cons_succ, List.getElem_cons_zero, List.setIfInBounds_toArray, List.set_cons_zero, List.set_cons_succ]
      refine wpAnyH_take (i := 36) (v := ?_) rfl (by kernel_rfl) (by kernel_rfl) (by kernel_rfl) (fun _ _ _ h => h) (Or.inl ⟨by kernel_rfl, ?_⟩) (by assumption) ?_
      rotate_left 1
      · (intro w hSw; (try dsimp only at hSw); go_simp; try with_reducible rfl)
      try simp only [Act.put, List.getElem_toArray, List.getElem_cons_succ, List.getElem_cons_zero, List.setIfInBounds_toArray, List.set_cons_zero, List.set_cons_succ]
      refine wpAnyH_take (i := 37) (v := ?_) rfl (by kernel_rfl) (by kernel_rfl) (by kernel_rfl) (fun _ _ _ h => h) (Or.inl ⟨by kernel_rfl, ?_⟩) (by assumption) ?_
      rotate_left 1
      · (intro w hSw; (try dsimp only at hSw); go_simp; try with_reducible rfl)
      try simp only [Act.put, List.getElem_toArray, List.getElem_cons_succ, List.getElem_cons_zero, List.setIfInBounds_toArray, List.set_cons_zero, List.set_cons_succ]
      refine wpAnyH_take (i := 38) (v := ?_) rfl (by kernel_rfl) (by kernel_rfl) (by kernel_rfl) (fun _ _ _ h => h) (Or.inl ⟨by kernel_rfl, ?_⟩) (by assumption) ?_
      rotate_left 1
      · (intro w hSw; (try dsimp only at hSw); go_simp; try with_reducible rfl)
      try simp only [Act.put, List.getElem_toArray, List.getElem_cons_succ, List.getElem_cons_zero, List.setIfInBounds_toArray, List.set_cons_zero, List.set_cons_succ]
      refine wpAnyH_take (i := 39) (v := ?_) rfl (by kernel_rfl) (by kernel_rfl) (by kernel_rfl) (fun _ _ _ h => h) (Or.inl ⟨by kernel_rfl, ?_⟩) (by assumption) ?_
      rotate_left 1
      · (intro w hSw; (try dsimp only at hSw); go_simp; try with_reducible rfl)
      try simp only [Act.put, List.getElem_toArray, List.getElem_cons_succ, List.getElem_cons_zero, List.setIfInBounds_toArray, List.set_cons_zero, List.set_cons_succ]
      refine wpAnyH_take (i := 40) (v := ?_) rfl (by kernel_rfl) (by kernel_rfl) (by kernel_rfl) (fun _ _ _ h => h) (Or.inl ⟨by kernel_rfl, ?_⟩) (by assumption) ?_
      rotate_left 1
      · (intro w hSw; (try dsimp only at hSw); go_simp; try with_reducible rfl)
      try simp only [Act.put, List.getElem_toArray, List.getElem_cons_succ, List.getElem_cons_zero, List.setIfInBounds_toArray, List.set_cons_zero, List.set_cons_succ]
      refine wpAnyH_ready (rs := [41]) (by kernel_rfl) (by simp) ?_
      refine AllReadyH.cons rfl (fun K hK => ?_) AllReadyH.nil
      try simp only [Act.put, List.getElem_toArray, List.getElem_cons_succ, List.getElem_cons_zero, List.setIfInBounds_toArray, List.set_cons_zero, List.set_cons_succ]
      go_simp
      go_at_call 31
      with_reducible refine (HST.out _).mono ?_
      rintro e w20 ⟨rfl, bz⟩
      have Z1 := hide (Z0.out.trans (bz.mono Z0.out.size))
      clear bz Z0
      dsimp only
      refine hK.out _ _ (⟨(FX.out _ Z1.out).cell 0, (FX.out _ Z1.out).cell 1, (FX.out _ Z1.out).cell 2, (FX.out _ Z1.out).cell 3, (FF.out _ Z1.out).cell 0, (FF.out _ Z1.out).cell 1, (FG.out _ Z1.out).cell 0, (FG.out _ Z1.out).cell 1, (FV.out _ Z1.out).cell 0, (FV.out _ Z1.out).cell 1, (FV.out _ Z1.out).cell 2, (FV.out _ Z1.out).cell 3, (FK.out _ Z1.out).cell 0, (FK.out _ Z1.out).cell 1, (FK.out _ Z1.out).cell 2, (FK.out _ Z1.out).cell 3, (FU.out _ Z1.out).cell 0, (FU.out _ Z1.out).cell 1, (FU.out _ Z1.out).cell 2, (FU.out _ Z1.out).cell 3, (FW.out _ Z1.out).cell 0, (FW.out _ Z1.out).cell 1, (FW.out _ Z1.out).cell 2, (FW.out _ Z1.out).cell 3⟩) (fun hHeld => ?_)
      clear hK K
      try simp only [Act.put, List.getElem_toArray, List.getElem_cons_succ, List.getElem_cons_zero, List.setIfInBounds_toArray, List.set_cons_zero, List.set_cons_succ]
      refine wpAnyH_take (i := 42) (v := ?_) rfl (by kernel_rfl) (by kernel_rfl) (by kernel_rfl) (fun _ _ _ h => h) (Or.inl ⟨by kernel_rfl, ?_⟩) (by assumption) ?_
      rotate_left 1
      · (intro w hSw; (try dsimp only at hSw); go_simp; try with_reducible rfl)
      try simp only [Act.put, List.getElem_toArray, List.getElem_cons_succ, List.getElem_cons_zero, List.setIfInBounds_toArray, List.set_cons_zero, List.set_cons_succ]
      refine wpAnyH_take (i := 43) (v := ?_) rfl (by kernel_rfl) (by kernel_rfl) (by kernel_rfl) (fun _ _ _ h => h) (Or.inl ⟨by kernel_rfl, ?_⟩) (by assumption) ?_
      rotate_left 1
      · (intro w hSw; (try dsimp only at hSw); go_simp; try with_reducible rfl)
      try simp only [Act.put, List.getElem_toArray, List.getElem_cons_succ, List.getElem_cons_zero, List.setIfInBounds_toArray, List.set_cons_zero, List.set_cons_succ]
      refine wpAnyH_take (i := 44) (v := ?_) rfl (by kernel_rfl) (by kernel_rfl) (by kernel_rfl) (fun _ _ _ h => h) (Or.inl ⟨by kernel_rfl, ?_⟩) (by assumption) ?_
      rotate_left 1
      · (intro w hSw; (try dsimp only at hSw); go_simp; try with_reducible rfl)
      try simp only [Act.put, List.getElem_toArray, List.getElem_cons_succ, List.getElem_cons_zero, List.setIfInBounds_toArray, List.set_cons_zero, List.set_cons_succ]
      refine wpAnyH_take (i := 45) (v := ?_) rfl (by kernel_rfl) (by kernel_rfl) (by kernel_rfl) (fun _ _ _ h => h) (Or.inl ⟨by kernel_rfl, ?_⟩) (by assumption) ?_
      rotate_left 1
      · (intro w hSw; (try dsimp only at hSw); go_simp; try with_reducible rfl)
      try simp only [Act.put, List.getElem_toArray, List.getElem_cons_succ, List.getElem_cons_zero, List.setIfInBounds_toArray, List.set_cons_zero, List.set_cons_succ]
      refine wpAnyH_take (i := 46) (v := ?_) rfl (by kernel_rfl) (by kernel_rfl) (by kernel_rfl) (fun _ _ _ h => h) (Or.inl ⟨by kernel_rfl, ?_⟩) (by assumption) ?_
      rotate_left 1
      · (intro w hSw; (try dsimp only at hSw); go_simp; try with_reducible rfl)
      try simp only [Act.put, List.getElem_toArray, List.getElem_cons_succ, List.getElem_cons_zero, List.setIfInBounds_toArray, List.set_cons_zero, List.set_cons_succ]
      refine wpAnyH_take (i := 47) (v := ?_) rfl (by kernel_rfl) (by kernel_rfl) (by kernel_rfl) (fun _ _ _ h => h) (Or.inl ⟨by kernel_rfl, ?_⟩) (by assumption) ?_
      rotate_left 1
      · (intro w hSw; (try dsimp only at hSw); go_simp; try with_reducible rfl)
      try simp only [Act.put, List.getElem_toArray, List.getElem_cons_succ, List.getElem_cons_zero, List.setIfInBounds_toArray, List.set_cons_zero, List.set_cons_succ]
      refine wpAnyH_take (i := 48) (v := ?_) rfl (by kernel_rfl) (by kernel_rfl) (by kernel_rfl) (fun _ _ _ h => h) (Or.inl ⟨by kernel_rfl, ?_⟩) (by assumption) ?_
      rotate_left 1
      · (intro w hSw; (try dsimp only at hSw); go_simp; try with_reducible rfl)
      try simp only [Act.put, List.getElem_toArray, List.getElem_cons_succ, List.getElem_cons_zero, List.setIfInBounds_toArray, List.set_cons_zero, List.set_cons_succ]
      refine wpAnyH_take (i := 49) (v := ?_) rfl (by kernel_rfl) (by kernel_rfl) (by kernel_rfl) (fun _ _ _ h => h) (Or.inl ⟨by kernel_rfl, ?_⟩) (by assumption) ?_
      rotate_left 1
      · (intro w hSw; (try dsimp only at hSw); go_simp; try with_reducible rfl)
      try simp only [Act.put, List.getElem_toArray, List.getElem_cons_succ, List.getElem_cons_zero, List.setIfInBounds_toArray, List.set_cons_zero, List.set_cons_succ]
      refine wpAnyH_take (i := 50) (v := ?_) rfl (by kernel_rfl) (by kernel_rfl) (by kernel_rfl) (fun _ _ _ h => h) (Or.inl ⟨by kernel_rfl, ?_⟩) (by assumption) ?_
      rotate_left 1
      · (intro w hSw; (try dsimp only at hSw); go_simp; try with_reducible rfl)
      try simp only [Act.put, List.getElem_toArray, List.getElem_cons_succ, List.getElem_cons_zero, List.setIfInBounds_toArray, List.set_cons_zero, List.set_cons_succ]
      refine wpAnyH_take (i := 51) (v := ?_) rfl (by kernel_rfl) (by kernel_rfl) (by kernel_rfl) (fun _ _ _ h => h) (Or.inl ⟨by kernel_rfl, ?_⟩) (by assumption) ?_
      rotate_left 1
      · (intro w hSw; (try dsimp only at hSw); go_simp; try with_reducible rfl)
      try simp only [Act.put, List.getElem_toArray, List.getElem_cons_succ, List.getElem_cons_zero, List.setIfInBounds_toArray, List.set_cons_zero, List.set_cons_succ]
      refine wpAnyH_take (i := 52) (v := ?_) rfl (by kernel_rfl) (by kernel_rfl) (by kernel_rfl) (fun _ _ _ h => h) (Or.inl ⟨by kernel_rfl, ?_⟩) (by assumption) ?_
      rotate_left 1
      · (intro w hSw; (try dsimp only at hSw); go_simp; try with_reducible rfl)
      try simp only [Act.put, List.getElem_toArray, List.getElem_cons_succ, List.getElem_cons_zero, List.setIfInBounds_toArray, List.set_cons_zero, List.set_cons_succ]
      refine wpAnyH_take (i := 53) (v := undef) rfl (by kernel_rfl) (by kernel_rfl) (by kernel_rfl) (fun _ _ _ h => h) (Or.inr ⟨by kernel_rfl, rfl⟩) (by assumption) ?_
      try simp only [Act.put, List.getElem_toArray, List.getElem_cons_succ, List.getElem_cons_zero, List.setIfInBounds_toArray, List.set_cons_zero, List.set_cons_succ]
      refine wpAnyH_take (i := 54) (v := undef) rfl (by kernel_rfl) (by kernel_rfl) (by kernel_rfl) (fun _ _ _ h => h) (Or.inr ⟨by kernel_rfl, rfl⟩) (by assumption) ?_
      try simp only [Act.put, List.getElem_toArray, List.getElem_cons_succ, List.getElem_cons_zero, List.setIfInBounds_toArray, List.set_cons_zero, List.set_cons_succ]
      refine wpAnyH_take (i := 55) (v := undef) rfl (by kernel_rfl) (by kernel_rfl) (by kernel_rfl) (fun _ _ _ h => h) (Or.inr ⟨by kernel_rfl, rfl⟩) (by assumption) ?_
      try simp only [Act.put, List.getElem_toArray, List.getElem_cons_succ, List.getElem_cons_zero, List.setIfInBounds_toArray, List.set_cons_zero, List.set_cons_succ]
      refine wpAnyH_take (i := 56) (v := ?_) rfl (by kernel_rfl) (by kernel_rfl) (by kernel_rfl) (fun _ _ _ h => h) (Or.inl ⟨by kernel_rfl, ?_⟩) (by assumption) ?_
      rotate_left 1
      · (intro w hSw; (try dsimp only at hSw); go_simp; try with_reducible rfl)
      try simp only [Act.put, List.getElem_toArray, List.getElem_cons_succ, List.getElem_cons_zero, List.setIfInBounds_toArray, List.set_cons_zero, List.set_cons_succ]
      refine wpAnyH_take (i := 57) (v := ?_) rfl (by kernel_rfl) (by kernel_rfl) (by kernel_rfl) (fun _ _ _ h => h) (Or.inl ⟨by kernel_rfl, ?_⟩) (by assumption) ?_
      rotate_left 1
      · (intro w hSw; (try dsimp only at hSw); go_simp; try with_reducible rfl)
      try simp only [Act.put, List.getElem_toArray, List.getElem_cons_succ, List.getElem_cons_zero, List.setIfInBounds_toArray, List.set_cons_zero, List.set_cons_succ]
      refine wpAnyH_take (i := 58) (v := ?_) rfl (by kernel_rfl) (by kernel_rfl) (by kernel_rfl) (fun _ _ _ h => h) (Or.inl ⟨by kernel_rfl, ?_⟩) (by assumption) ?_
      rotate_left 1
      · (intro w hSw; (try dsimp only at hSw); go_simp; try with_reducible rfl)
      try simp only [Act.put, List.getElem_toArray, List.getElem_cons_succ, List.getElem_cons_zero, List.setIfInBounds_toArray, List.set_cons_zero, List.set_cons_succ]
      refine wpAnyH_take (i := 59) (v := ?_) rfl (by kernel_rfl) (by kernel_rfl) (by kernel_rfl) (fun _ _ _ h => h) (Or.inl ⟨by kernel_rfl, ?_⟩) (by assumption) ?_
      rotate_left 1
      · (intro w hSw; (try dsimp only at hSw); go_simp; try with_reducible rfl)
      try simp only [Act.put, List.getElem_toArray, List.getElem_cons_succ, List.getElem_cons_zero, List.setIfInBounds_toArray, List.set_cons_zero, List.set_cons_succ]
      refine wpAnyH_take (i := 60) (v := ?_) rfl (by kernel_rfl) (by kernel_rfl) (by kernel_rfl) (fun _ _ _ h => h) (Or.inl ⟨by kernel_rfl, ?_⟩) (by assumption) ?_
      rotate_left 1
      · (intro w hSw; (try dsimp only at hSw); go_simp; try with_reducible rfl)
      try simp only [Act.put, List.getElem_toArray, List.getElem_cons_succ, List.getElem_cons_zero, List.setIfInBounds_toArray, List.set_cons_zero, List.set_cons_succ]
      refine wpAnyH_take (i := 61) (v := ?_) rfl (by kernel_rfl) (by kernel_rfl) (by kernel_rfl) (fun _ _ _ h => h) (Or.inl ⟨by kernel_rfl, ?_⟩) (by assumption) ?_
      rotate_left 1
      · (intro w hSw; (try dsimp only at hSw); go_simp; try with_reducible rfl)
      try simp only [Act.put, List.getElem_toArray, List.getElem_cons_succ, List.getElem_cons_zero, List.setIfInBounds_toArray, List.set_cons_zero, List.set_cons_succ]
      refine wpAnyH_take (i := 62) (v := ?_) rfl (by kernel_rfl) (by kernel_rfl) (by kernel_rfl) (fun _ _ _ h => h) (Or.inl ⟨by kernel_rfl, ?_⟩) (by assumption) ?_
      rotate_left 1
      · (intro w hSw; (try dsimp only at hSw); go_simp; try with_reducible rfl)
      try simp only [Act.put, List.getElem_toArray, List.getElem_cons_succ, List.getElem_cons_zero, List.setIfInBounds_toArray, List.set_cons_zero, List.set_cons_succ]
      refine wpAnyH_take (i := 63) (v := ?_) rfl (by kernel_rfl) (by kernel_rfl) (by kernel_rfl) (fun _ _ _ h => h) (Or.inl ⟨by kernel_rfl, ?_⟩) (by assumption) ?_
      rotate_left 1
      · (intro w hSw; (try dsimp only at hSw); go_simp; try with_reducible rfl)
      try simp only [Act.put, List.getElem_toArray, List.getElem_cons_succ, List.getElem_cons_zero, List.setIfInBounds_toArray, List.set_cons_zero, List.set_cons_succ]
      refine wpAnyH_take (i := 64) (v := ?_) rfl (by kernel_rfl) (by kernel_rfl) (by kernel_rfl) (fun _ _ _ h => h) (Or.inl ⟨by kernel_rfl, ?_⟩) (by assumption) ?_
      rotate_left 1
      · (intro w hSw; (try dsimp only at hSw); go_simp; try with_reducible rfl)
      try simp only [Act.put, List.getElem_toArray, List.getElem_cons_succ, List.getElem_cons_zero, List.setIfInBounds_toArray, List.set_cons_zero, List.set_cons_succ]
      refine wpAnyH_take (i := 65) (v := ?_) rfl (by kernel_rfl) (by kernel_rfl) (by kernel_rfl) (fun _ _ _ h => h) (Or.inl ⟨by kernel_rfl, ?_⟩) (by assumption) ?_
      rotate_left 1
      · (intro w hSw; (try dsimp only at hSw); go_simp; try with_reducible rfl)
      try simp only [Act.put, List.getElem_toArray, List.getElem_cons_succ, List.getElem_cons_zero, List.setIfInBounds_toArray, List.set_cons_zero, List.set_cons_succ]
      refine wpAnyH_take (i := 66) (v := ?_) rfl (by kernel_rfl) (by kernel_rfl) (by kernel_rfl) (fun _ _ _ h => h) (Or.inl ⟨by kernel_rfl, ?_⟩) (by assumption) ?_
      rotate_left 1
      · (intro w hSw; (try dsimp only at hSw); go_simp; try with_reducible rfl)
      try simp only [Act.put, List.getElem_toArray, List.getElem_cons_succ, List.getElem_cons_zero, List.setIfInBounds_toArray, List.set_cons_zero, List.set_cons_succ]
      refine wpAnyH_take (i := 67) (v := ?_) rfl (by kernel_rfl) (by kernel_rfl) (by kernel_rfl) (fun _ _ _ h => h) (Or.inl ⟨by kernel_rfl, ?_⟩) (by assumption) ?_
      rotate_left 1
      · (intro w hSw; (try dsimp only at hSw); go_simp; try with_reducible rfl)
      try simp only [Act.put, List.getElem_toArray, List.getElem_cons_succ, List.getElem_cons_zero, List.setIfInBounds_toArray, List.set_cons_zero, List.set_cons_succ]
      refine wpAnyH_take (i := 68) (v := ?_) rfl (by kernel_rfl) (by kernel_rfl) (by kernel_rfl) (fun _ _ _ h => h) (Or.inl ⟨by kernel_rfl, ?_⟩) (by assumption) ?_
      rotate_left 1
      · (intro w hSw; (try dsimp only at hSw); go_simp; try with_reducible rfl)
      try simp only [Act.put, List.getElem_toArray, List.getElem_cons_succ, List.getElem_cons_zero, List.setIfInBounds_toArray, List.set_cons_zero, List.set_cons_succ]
      refine wpAnyH_take (i := 69) (v := ?_) rfl (by kernel_rfl) (by kernel_rfl) (by kernel_rfl) (fun _ _ _ h => h) (Or.inl ⟨by kernel_rfl, ?_⟩) (by assumption) ?_
      rotate_left 1
      · (intro w hSw; (try dsimp only at hSw); go_simp; try with_reducible rfl)
      try simp only [Act.put, List.getElem_toArray, List.getElem_cons_succ, List.getElem_cons_zero, List.setIfInBounds_toArray, List.set_cons_zero, List.set_cons_succ]
      refine wpAnyH_take (i := 71) (v := ?_) rfl (by kernel_rfl) (by kernel_rfl) (by kernel_rfl) (fun _ _ _ h => h) (Or.inl ⟨by kernel_rfl, ?_⟩) (by assumption) ?_
      rotate_left 1
      · (intro w hSw; (try dsimp only at hSw); go_simp; try with_reducible rfl)
      try simp only [Act.put, List.getElem_toArray, List.getElem_cons_succ, List.getElem_cons_zero, List.setIfInBounds_toArray, List.set_cons_zero, List.set_cons_succ]
      refine wpAnyH_ready (rs := [70]) (by kernel_rfl) (by simp) ?_
      refine AllReadyH.cons rfl (fun K hK => ?_) AllReadyH.nil
      try simp only [Act.put, List.getElem_toArray, List.getElem_cons_succ, List.getElem_cons_zero, List.setIfInBounds_toArray, List.set_cons_zero, List.set_cons_succ]
      go_simp
      go_at_call 32
      with_reducible refine (HVI.out _).mono ?_
      rintro e w21 ⟨rfl, bz⟩
      have Z2 := hide (Z1.out.trans (bz.mono Z1.out.size))
      clear bz Z1
      dsimp only
      refine hK.out _ _ (⟨(FX.out _ Z2.out).cell 0, (FX.out _ Z2.out).cell 1, (FX.out _ Z2.out).cell 2, (FX.out _ Z2.out).cell 3, (FF.out _ Z2.out).cell 0, (FF.out _ Z2.out).cell 1, (FG.out _ Z2.out).cell 0, (FG.out _ Z2.out).cell 1, (FV.out _ Z2.out).cell 0, (FV.out _ Z2.out).cell 1, (FV.out _ Z2.out).cell 2, (FV.out _ Z2.out).cell 3, (FK.out _ Z2.out).cell 0, (FK.out _ Z2.out).cell 1, (FK.out _ Z2.out).cell 2, (FK.out _ Z2.out).cell 3, (FU.out _ Z2.out).cell 0, (FU.out _ Z2.out).cell 1, (FU.out _ Z2.out).cell 2, (FU.out _ Z2.out).cell 3, (FW.out _ Z2.out).cell 0, (FW.out _ Z2.out).cell 1, (FW.out _ Z2.out).cell 2, (FW.out _ Z2.out).cell 3⟩) (fun hHeld => ?_)
      clear hK K
      try simp only [Act.put, List.getElem_toArray, List.getElem_cons_succ, List.getElem_cons_zero, List.setIfInBounds_toArray, List.set_cons_zero, List.set_cons_succ]
      refine wpAnyH_ready (rs := [72]) (by kernel_rfl) (by simp) ?_
      refine AllReadyH.cons rfl (fun K hK => ?_) AllReadyH.nil
      try simp only [Act.put, List.getElem_toArray, List.getElem_cons_succ, List.getElem_cons_zero, List.setIfInBounds_toArray, List.set_cons_zero, List.set_cons_succ]
      go_simp
      go_at_call 33
      with_reducible refine (HVS.out _).mono ?_
      rintro e w22 ⟨rfl, bz⟩
      have Z3 := hide (Z2.out.trans (bz.mono Z2.out.size))
      clear bz Z2
      dsimp only
      refine hK.out _ _ (⟨(FX.out _ Z3.out).cell 0, (FX.out _ Z3.out).cell 1, (FX.out _ Z3.out).cell 2, (FX.out _ Z3.out).cell 3, (FF.out _ Z3.out).cell 0, (FF.out _ Z3.out).cell 1, (FG.out _ Z3.out).cell 0, (FG.out _ Z3.out).cell 1, (FV.out _ Z3.out).cell 0, (FV.out _ Z3.out).cell 1, (FV.out _ Z3.out).cell 2, (FV.out _ Z3.out).cell 3, (FK.out _ Z3.out).cell 0, (FK.out _ Z3.out).cell 1, (FK.out _ Z3.out).cell 2, (FK.out _ Z3.out).cell 3, (FU.out _ Z3.out).cell 0, (FU.out _ Z3.out).cell 1, (FU.out _ Z3.out).cell 2, (FU.out _ Z3.out).cell 3, (FW.out _ Z3.out).cell 0, (FW.out _ Z3.out).cell 1, (FW.out _ Z3.out).cell 2, (FW.out _ Z3.out).cell 3⟩) (fun hHeld => ?_)
      clear hK K
      try simp only [Act.put, List.getElem_toArray, List.getElem_cons_succ, List.getElem_cons_zero, List.setIfInBounds_toArray, List.set_cons_zero, List.set_cons_succ]
      refine wpAnyH_take (i := 73) (v := ?_) rfl (by kernel_rfl) (by kernel_rfl) (by kernel_rfl) (fun _ _ _ h => h) (Or.inl ⟨by kernel_rfl, ?_⟩) (by assumption) ?_
      rotate_left 1
      · (intro w hSw; (try dsimp only at hSw); go_simp; try with_reducible rfl)
      try simp only [Act.put, List.getElem_toArray, List.getElem_cons_succ, List.getElem_cons_zero, List.setIfInBounds_toArray, List.set_cons_zero, List.set_cons_succ]
      refine wpAnyH_take (i := 74) (v := ?_) rfl (by kernel_rfl) (by kernel_rfl) (by kernel_rfl) (fun _ _ _ h => h) (Or.inl ⟨by kernel_rfl, ?_⟩) (by assumption) ?_
      rotate_left 1
      · (intro w hSw; (try dsimp only at hSw); go_simp; try with_reducible rfl)
      try simp only [Act.put, List.getElem_toArray, List.getElem_cons_succ, List.getElem_cons_zero, List.setIfInBounds_toArray, List.set_cons_zero, List.set_cons_succ]
      refine wpAnyH_done (by kernel_rfl) ?_ _
      go_wp2_with fail
      go_meet
      exact ⟨rfl, Z3.out⟩
    · obtain ⟨rfl, rfl, hne1⟩ := LT.out.1 hok
      have hne2 : tx.toList.isEmpty = false := by cases h : tx.toList with | nil => exact absurd h hne1 | cons a b => rfl
      have hne3 : (tx.toList == tx.toList) = true := by simp
      clear LT hok
      refine wp_region_held_drew (S := fun W => W.cell? ⟨gx, 0, none⟩ = some (.int .i64 x.a) ∧ W.cell? ⟨gx, 1, none⟩ = some (.int .i64 x.b) ∧ W.cell? ⟨gx, 2, none⟩ = some (.int .i64 x.c) ∧ W.cell? ⟨gx, 3, none⟩ = some (.int .i64 x.d) ∧ W.cell? ⟨gf, 0, none⟩ = some (.int .i64 s1) ∧ W.cell? ⟨gf, 1, none⟩ = some (.int .i64 s2) ∧ W.cell? ⟨gg, 0, none⟩ = some (.int .i64 s1) ∧ W.cell? ⟨gg, 1, none⟩ = some (.int .i64 s2) ∧ W.cell? ⟨gt, 0, none⟩ = some (.int .i64 bk.a) ∧ W.cell? ⟨gt, 1, none⟩ = some (.int .i64 bk.b) ∧ W.cell? ⟨gt, 2, none⟩ = some (.int .i64 bk.c) ∧ W.cell? ⟨gt, 3, none⟩ = some (.int .i64 bk.d) ∧ W.cell? ⟨gk, 0, none⟩ = some (.int .i64 bk.a) ∧ W.cell? ⟨gk, 1, none⟩ = some (.int .i64 bk.b) ∧ W.cell? ⟨gk, 2, none⟩ = some (.int .i64 bk.c) ∧ W.cell? ⟨gk, 3, none⟩ = some (.int .i64 bk.d) ∧ W.cell? ⟨gu, 0, none⟩ = some (.int .i64 rk.a) ∧ W.cell? ⟨gu, 1, none⟩ = some (.int .i64 rk.b) ∧ W.cell? ⟨gu, 2, none⟩ = some (.int .i64 rk.c) ∧ W.cell? ⟨gu, 3, none⟩ = some (.int .i64 rk.d) ∧ W.cell? ⟨gw, 0, none⟩ = some (.int .i64 rk.a) ∧ W.cell? ⟨gw, 1, none⟩ = some (.int .i64 rk.b) ∧ W.cell? ⟨gw, 2, none⟩ = some (.int .i64 rk.c) ∧ W.cell? ⟨gw, 3, none⟩ = some (.int .i64 rk.d)) (by kernel_rfl) (⟨(FX.out _ Z0.out).cell 0, (FX.out _ Z0.out).cell 1, (FX.out _ Z0.out).cell 2, (FX.out _ Z0.out).cell 3, (FF.out _ Z0.out).cell 0, (FF.out _ Z0.out).cell 1, (FG.out _ Z0.out).cell 0, (FG.out _ Z0.out).cell 1, (FV.out _ Z0.out).cell 0, (FV.out _ Z0.out).cell 1, (FV.out _ Z0.out).cell 2, (FV.out _ Z0.out).cell 3, (FK.out _ Z0.out).cell 0, (FK.out _ Z0.out).cell 1, (FK.out _ Z0.out).cell 2, (FK.out _ Z0.out).cell 3, (FU.out _ Z0.out).cell 0, (FU.out _ Z0.out).cell 1, (FU.out _ Z0.out).cell 2, (FU.out _ Z0.out).cell 3, (FW.out _ Z0.out).cell 0, (FW.out _ Z0.out).cell 1, (FW.out _ Z0.out).cell 2, (FW.out _ Z0.out).cell 3⟩) (fun hHeld => ?_)
      generalize w17a.drew = wd at *
      simp only [List.append]
      change wpAnyH Tryz.prog .any _ _ _ _ ([false, false, false, false, false, false, false, false, false, false, false, false, false, false, false, false, false, false, false, false, false, false, false, false, false, false, false, false, false, false, false, false, false, false, false, false, false, false, false, false, false, false, false, false, false, false, false, false, false, false, false, false, false, false, false, false, false, false, false, false, false, false, false, false, false, false, false, false, false, false, false, false, false, false, false] : List Bool).toArray _ _
      refine wpAnyH_take (i := 0) (v := ?_) rfl (by kernel_rfl) (by kernel_rfl) (by kernel_rfl) (fun _ _ _ h => h) (Or.inl ⟨by kernel_rfl, ?_⟩) (by assumption) ?_
      rotate_left 1
      · (intro w hSw; (try dsimp only at hSw); go_simp; try with_reducible rfl)
      try simp only [Act.put, List.getElem_toArray, List.getElem_cons_succ, List.getElem_cons_zero, List.setIfInBounds_toArray, List.set_cons_zero, List.set_cons_succ]
      refine wpAnyH_take (i := 1) (v := ?_) rfl (by kernel_rfl) (by kernel_rfl) (by kernel_rfl) (fun _ _ _ h => h) (Or.inl ⟨by kernel_rfl, ?_⟩) (by assumption) ?_
      rotate_left 1
      · (intro w hSw; (try dsimp only at hSw); go_simp; try with_reducible rfl)
      try simp only [Act.put, List.getElem_toArray, List.getElem_cons_succ, List.getElem_cons_zero, List.setIfInBounds_toArray, List.set_cons_zero, List.set_cons_succ]
      refine wpAnyH_take (i := 2) (v := ?_) rfl (by kernel_rfl) (by kernel_rfl) (by kernel_rfl) (fun _ _ _ h => h) (Or.inl ⟨by kernel_rfl, ?_⟩) (by assumption) ?_
      rotate_left 1
      · (intro w hSw; (try dsimp only at hSw); go_simp; try with_reducible rfl)
      try simp only [Act.put, List.getElem_toArray, List.getElem_cons_succ, List.getElem_cons_zero, List.setIfInBounds_toArray, List.set_cons_zero, List.set_cons_succ]
      refine wpAnyH_take (i := 3) (v := ?_) rfl (by kernel_rfl) (by kernel_rfl) (by kernel_rfl) (fun _ _ _ h => h) (Or.inl ⟨by kernel_rfl, ?_⟩) (by assumption) ?_
      rotate_left 1
      · (intro w hSw; (try dsimp only at hSw); go_simp; try with_reducible rfl)
      try simp only [Act.put, List.getElem_toArray, List.getElem_cons_succ, List.getElem_cons_zero, List.setIfInBounds_toArray, List.set_cons_zero, List.set_cons_succ]
      refine wpAnyH_take (i := 4) (v := ?_) rfl (by kernel_rfl) (by kernel_rfl) (by kernel_rfl) (fun _ _ _ h => h) (Or.inl ⟨by kernel_rfl, ?_⟩) (by assumption) ?_
      rotate_left 1
      · (intro w hSw; (try dsimp only at hSw); go_simp; try with_reducible rfl)
      try simp only [Act.put, List.getElem_toArray, List.getElem_cons_succ, List.getElem_cons_zero, List.setIfInBounds_toArray, List.set_cons_zero, List.set_cons_succ]
      refine wpAnyH_take (i := 5) (v := ?_) rfl (by kernel_rfl) (by kernel_rfl) (by kernel_rfl) (fun _ _ _ h => h) (Or.inl ⟨by kernel_rfl, ?_⟩) (by assumption) ?_
      rotate_left 1
      · (intro w hSw; (try dsimp only at hSw); go_simp; try with_reducible rfl)
      try simp only [Act.put, List.getElem_toArray, List.getElem_cons_succ, List.getElem_cons_zero, List.setIfInBounds_toArray, List.set_cons_zero, List.set_cons_succ]
      refine wpAnyH_take (i := 6) (v := ?_) rfl (by kernel_rfl) (by kernel_rfl) (by kernel_rfl) (fun _ _ _ h => h) (Or.inl ⟨by kernel_rfl, ?_⟩) (by assumption) ?_
      rotate_left 1
      · (intro w hSw; (try dsimp only at hSw); go_simp; try with_reducible rfl)
      try simp only [Act.put, List.getElem_toArray, List.getElem_cons_succ, List.getElem_cons_zero, List.setIfInBounds_toArray, List.set_cons_zero, List.set_cons_succ]
      refine wpAnyH_take (i := 7) (v := ?_) rfl (by kernel_rfl) (by kernel_rfl) (by kernel_rfl) (fun _ _ _ h => h) (Or.inl ⟨by kernel_rfl, ?_⟩) (by assumption) ?_
      rotate_left 1
      · (intro w hSw; (try dsimp only at hSw); go_simp; try with_reducible rfl)
      try simp only [Act.put, List.getElem_toArray, List.getElem_cons_succ, List.getElem_cons_zero, List.setIfInBounds_toArray, List.set_cons_zero, List.set_cons_succ]
      refine wpAnyH_take (i := 8) (v := ?_) rfl (by kernel_rfl) (by kernel_rfl) (by kernel_rfl) (fun _ _ _ h => h) (Or.inl ⟨by kernel_rfl, ?_⟩) (by assumption) ?_
      rotate_left 1
      · (intro w hSw; (try dsimp only at hSw); go_simp; try with_reducible rfl)
      try simp only [Act.put, List.getElem_toArray, List.getElem_cons_succ, List.getElem_cons_zero, List.setIfInBounds_toArray, List.set_cons_zero, List.set_cons_succ]
      refine wpAnyH_take (i := 9) (v := ?_) rfl (by kernel_rfl) (by kernel_rfl) (by kernel_rfl) (fun _ _ _ h => h) (Or.inl ⟨by kernel_rfl, ?_⟩) (by assumption) ?_
      rotate_left 1
      · (intro w hSw; (try dsimp only at hSw); go_simp; try with_reducible rfl)
      try simp only [Act.put, List.getElem_toArray, List.getElem_cons_succ, List.getElem_cons_zero, List.setIfInBounds_toArray, List.set_cons_zero, List.set_cons_succ]
      refine wpAnyH_take (i := 10) (v := ?_) rfl (by kernel_rfl) (by kernel_rfl) (by kernel_rfl) (fun _ _ _ h => h) (Or.inl ⟨by kernel_rfl, ?_⟩) (by assumption) ?_
      rotate_left 1
      · (intro w hSw; (try dsimp only at hSw); go_simp; try with_reducible rfl)
      try simp only [Act.put, List.getElem_toArray, List.getElem_cons_succ, List.getElem_cons_zero, List.setIfInBounds_toArray, List.set_cons_zero, List.set_cons_succ]
      refine wpAnyH_take (i := 11) (v := ?_) rfl (by kernel_rfl) (by kernel_rfl) (by kernel_rfl) (fun _ _ _ h => h) (Or.inl ⟨by kernel_rfl, ?_⟩) (by assumption) ?_
      rotate_left 1
      · (intro w hSw; (try dsimp only at hSw); go_simp; try with_reducible rfl)
      try simp only [Act.put, List.getElem_toArray, List.getElem_cons_succ, List.getElem_cons_zero, List.setIfInBounds_toArray, List.set_cons_zero, List.set_cons_succ]
      refine wpAnyH_take (i := 12) (v := ?_) rfl (by kernel_rfl) (by kernel_rfl) (by kernel_rfl) (fun _ _ _ h => h) (Or.inl ⟨by kernel_rfl, ?_⟩) (by assumption) ?_
      rotate_left 1
      · (intro w hSw; (try dsimp only at hSw); go_simp; try with_reducible rfl)
      try simp only [Act.put, List.getElem_toArray, List.getElem_cons_succ, List.getElem_cons_zero, List.setIfInBounds_toArray, List.set_cons_zero, List.set_cons_succ]
      refine wpAnyH_take (i := 13) (v := ?_) rfl (by kernel_rfl) (by kernel_rfl) (by kernel_rfl) (fun _ _ _ h => h) (Or.inl ⟨by kernel_rfl, ?_⟩) (by assumption) ?_
      rotate_left 1
      · (intro w hSw; (try dsimp only at hSw); go_simp; try with_reducible rfl)
      try simp only [Act.put, List.getElem_toArray, List.getElem_cons_succ, List.getElem_cons_zero, List.setIfInBounds_toArray, List.set_cons_zero, List.set_cons_succ]
      refine wpAnyH_take (i := 14) (v := ?_) rfl (by kernel_rfl) (by kernel_rfl) (by kernel_rfl) (fun _ _ _ h => h) (Or.inl ⟨by kernel_rfl, ?_⟩) (by assumption) ?_
      rotate_left 1
      · (intro w hSw; (try dsimp only at hSw); go_simp; try with_reducible rfl)
      try simp only [Act.put, List.getElem_toArray, List.getElem_cons_succ, List.getElem_cons_zero, List.setIfInBounds_toArray, List.set_cons_zero, List.set_cons_succ]
      refine wpAnyH_take (i := 15) (v := ?_) rfl (by kernel_rfl) (by kernel_rfl) (by kernel_rfl) (fun _ _ _ h => h) (Or.inl ⟨by kernel_rfl, ?_⟩) (by assumption) ?_
      rotate_left 1
      · (intro w hSw; (try dsimp only at hSw); go_simp; try with_reducible rfl)
      try simp only [Act.put, List.getElem_toArray, List.getElem_cons_succ, List.getElem_cons_zero, List.setIfInBounds_toArray, List.set_cons_zero, List.set_cons_succ]
      refine wpAnyH_take (i := 16) (v := ?_) rfl (by kernel_rfl) (by kernel_rfl) (by kernel_rfl) (fun _ _ _ h => h) (Or.inl ⟨by kernel_rfl, ?_⟩) (by assumption) ?_
      rotate_left 1
      · (intro w hSw; (try dsimp only at hSw); go_simp; try with_reducible rfl)
      try simp only [Act.put, List.getElem_toArray, List.getElem_cons_succ, List.getElem_cons_zero, List.setIfInBounds_toArray, List.set_cons_zero, List.set_cons_succ]
      refine wpAnyH_take (i := 17) (v := ?_) rfl (by kernel_rfl) (by kernel_rfl) (by kernel_rfl) (fun _ _ _ h => h) (Or.inl ⟨by kernel_rfl, ?_⟩) (by assumption) ?_
      rotate_left 1
      · (intro w hSw; (try dsimp only at hSw); go_simp; try with_reducible rfl)
      try simp only [Act.put, List.getElem_toArray, List.getElem_cons_succ, List.getElem_cons_zero, List.setIfInBounds_toArray, List.set_cons_zero, List.set_cons_succ]
      refine wpAnyH_take (i := 18) (v := ?_) rfl (by kernel_rfl) (by kernel_rfl) (by kernel_rfl) (fun _ _ _ h => h) (Or.inl ⟨by kernel_rfl, ?_⟩) (by assumption) ?_
      rotate_left 1
      · (intro w hSw; (try dsimp only at hSw); go_simp; try with_reducible rfl)
      try simp only [Act.put, List.getElem_toArray, List.getElem_cons_succ, List.getElem_cons_zero, List.setIfInBounds_toArray, List.set_cons_zero, List.set_cons_succ]
      refine wpAnyH_take (i := 19) (v := ?_) rfl (by kernel_rfl) (by kernel_rfl) (by kernel_rfl) (fun _ _ _ h => h) (Or.inl ⟨by kernel_rfl, ?_⟩) (by assumption) ?_
      rotate_left 1
      · (intro w hSw; (try dsimp only at hSw); go_simp; try with_reducible rfl)
      try simp only [Act.put, List.getElem_toArray, List.getElem_cons_succ, List.getElem_cons_zero, List.setIfInBounds_toArray, List.set_cons_zero, List.set_cons_succ]
      refine wpAnyH_take (i := 20) (v := ?_) rfl (by kernel_rfl) (by kernel_rfl) (by kernel_rfl) (fun _ _ _ h => h) (Or.inl ⟨by kernel_rfl, ?_⟩) (by assumption) ?_
      rotate_left 1
      · (intro w hSw; (try dsimp only at hSw); go_simp; try with_reducible rfl)
      try simp only [Act.put, List.getElem_toArray, List.getElem_cons_succ, List.getElem_cons_zero, List.setIfInBounds_toArray, List.set_cons_zero, List.set_cons_succ]
      refine wpAnyH_take (i := 21) (v := ?_) rfl (by kernel_rfl) (by kernel_rfl) (by kernel_rfl) (fun _ _ _ h => h) (Or.inl ⟨by kernel_rfl, ?_⟩) (by assumption) ?_
      rotate_left 1
      · (intro w hSw; (try dsimp only at hSw); go_simp; try with_reducible rfl)
      try simp only [Act.put, List.getElem_toArray, List.getElem_cons_succ, List.getElem_cons_zero, List.setIfInBounds_toArray, List.set_cons_zero, List.set_cons_succ]
      refine wpAnyH_take (i := 22) (v := ?_) rfl (by kernel_rfl) (by kernel_rfl) (by kernel_rfl) (fun _ _ _ h => h) (Or.inl ⟨by kernel_rfl, ?_⟩) (by assumption) ?_
      rotate_left 1
      · (intro w hSw; (try dsimp only at hSw); go_simp; try with_reducible rfl)
      try simp only [Act.put, List.getElem_toArray, List.getElem_cons_succ, List.getElem_cons_zero, List.setIfInBounds_toArray, List.set_cons_zero, List.set_cons_succ]
      refine wpAnyH_take (i := 23) (v := ?_) rfl (by kernel_rfl) (by kernel_rfl) (by kernel_rfl) (fun _ _ _ h => h) (Or.inl ⟨by kernel_rfl, ?_⟩) (by assumption) ?_
      rotate_left 1
      · (intro w hSw; (try dsimp only at hSw); go_simp; try with_reducible rfl)
      try simp only [Act.put, List.getElem_toArray, List.getElem_cons_succ, List.getElem_cons_zero, List.setIfInBounds_toArray, List.set_cons_zero, List.set_cons_succ]
      refine wpAnyH_take (i := 24) (v := ?_) rfl (by kernel_rfl) (by kernel_rfl) (by kernel_rfl) (fun _ _ _ h => h) (Or.inl ⟨by kernel_rfl, ?_⟩) (by assumption) ?_
      rotate_left 1
      · (intro w hSw; (try dsimp only at hSw); go_simp; try with_reducible rfl)
      try simp only [Act.put, List.getElem_toArray, List.getElem_cons_succ, List.getElem_cons_zero, List.setIfInBounds_toArray, List.set_cons_zero, List.set_cons_succ]
      refine wpAnyH_take (i := 25) (v := ?_) rfl (by kernel_rfl) (by kernel_rfl) (by kernel_rfl) (fun _ _ _ h => h) (Or.inl ⟨by kernel_rfl, ?_⟩) (by assumption) ?_
      rotate_left 1
      · (intro w hSw; (try dsimp only at hSw); go_simp; try with_reducible rfl)
      try simp only [Act.put, List.getElem_toArray, List.getElem_cons_succ, List.getElem_cons_zero, List.setIfInBounds_toArray, List.set_cons_zero, List.set_cons_succ]
      refine wpAnyH_take (i := 26) (v := ?_) rfl (by kernel_rfl) (by kernel_rfl) (by kernel_rfl) (fun _ _ _ h => h) (Or.inl ⟨by kernel_rfl, ?_⟩) (by assumption) ?_
      rotate_left 1
      · (intro w hSw; (try dsimp only at hSw); go_simp; try with_reducible rfl)
      try simp only [Act.put, List.getElem_toArray, List.getElem_cons_succ, List.getElem_cons_zero, List.setIfInBounds_toArray, List.set_cons_zero, List.set_cons_succ]
      refine wpAnyH_take (i := 27) (v := ?_) rfl (by kernel_rfl) (by kernel_rfl) (by kernel_rfl) (fun _ _ _ h => h) (Or.inl ⟨by kernel_rfl, ?_⟩) (by assumption) ?_
      rotate_left 1
      · (intro w hSw; (try dsimp only at hSw); go_simp; try with_reducible rfl)
      try simp only [Act.put, List.getElem_toArray, List.getElem_cons_succ, List.getElem_cons_zero, List.setIfInBounds_toArray, List.set_cons_zero, List.set_cons_succ]
      refine wpAnyH_take (i := 28) (v := ?_) rfl (by kernel_rfl) (by kernel_rfl) (by kernel_rfl) (fun _ _ _ h => h) (Or.inl ⟨by kernel_rfl, ?_⟩) (by assumption) ?_
      rotate_left 1
      · (intro w hSw; (try dsimp only at hSw); go_simp; try with_reducible rfl)
      try simp only [Act.put, List.getElem_toArray, List.getElem_cons_succ, List.getElem_cons_zero, List.setIfInBounds_toArray, List.set_cons_zero, List.set_cons_succ]
      refine wpAnyH_take (i := 29) (v := ?_) rfl (by kernel_rfl) (by kernel_rfl) (by kernel_rfl) (fun _ _ _ h => h) (Or.inl ⟨by kernel_rfl, ?_⟩) (by assumption) ?_
      rotate_left 1
      · (intro w hSw; (try dsimp only at hSw); go_simp; try with_reducible rfl)
      try simp only [Act.put, List.getElem_toArray, List.getElem_cons_succ, List.getElem_cons_zero, List.setIfInBounds_toArray, List.set_cons_zero, List.set_cons_succ]
      refine wpAnyH_take (i := 30) (v := ?_) rfl (by kernel_rfl) (by kernel_rfl) (by kernel_rfl) (fun _ _ _ h => h) (Or.inl ⟨by kernel_rfl, ?_⟩) (by assumption) ?_
      rotate_left 1
      · (intro w hSw; (try dsimp only at hSw); go_simp; try with_reducible rfl)
      try simp only [Act.put, List.getElem_toArray, List.getElem_cons_succ, List.getElem_cons_zero, List.setIfInBounds_toArray, List.set_cons_zero, List.set_cons_succ]
      refine wpAnyH_take (i := 31) (v := ?_) rfl (by kernel_rfl) (by kernel_rfl) (by kernel_rfl) (fun _ _ _ h => h) (Or.inl ⟨by kernel_rfl, ?_⟩) (by assumption) ?_
      rotate_left 1
      · (intro w hSw; (try dsimp only at hSw); go_simp; try with_reducible rfl)
      try simp only [Act.put, List.getElem_toArray, List.getElem_cons_succ, List.getElem_cons_zero, List.setIfInBounds_toArray, List.set_cons_zero, List.set_cons_succ]
      refine wpAnyH_take (i := 32) (v := ?_) rfl (by kernel_rfl) (by kernel_rfl) (by kernel_rfl) (fun _ _ _ h => h) (Or.inl ⟨by kernel_rfl, ?_⟩) (by assumption) ?_
      rotate_left 1
      · (intro w hSw; (try dsimp only at hSw); go_simp; try with_reducible rfl)
      try simp only [Act.put, List.getElem_toArray, List.getElem_cons_succ, List.getElem_cons_zero, List.setIfInBounds_toArray, List.set_cons_zero, List.set_cons_succ]
      refine wpAnyH_take (i := 33) (v := ?_) rfl (by kernel_rfl) (by kernel_rfl) (by kernel_rfl) (fun _ _ _ h => h) (Or.inl ⟨by kernel_rfl, ?_⟩) (by assumption) ?_
      rotate_left 1
      · (intro w hSw; (try dsimp only at hSw); go_simp; try with_reducible rfl)
      try simp only [Act.put, List.getElem_toArray, List.getElem_cons_succ, List.getElem_cons_zero, List.setIfInBounds_toArray, List.set_cons_zero, List.set_cons_succ]
      refine wpAnyH_take (i := 34) (v := ?_) rfl (by kernel_rfl) (by kernel_rfl) (by kernel_rfl) (fun _ _ _ h => h) (Or.inl ⟨by kernel_rfl, ?_⟩) (by assumption) ?_
      rotate_left 1
      · (intro w hSw; (try dsimp only at hSw); go_simp; try with_reducible rfl)
      try simp only [Act.put, List.getElem_toArray, List.getElem_cons_succ, List.getElem_cons_zero, List.setIfInBounds_toArray, List.set_cons_zero, List.set_cons_succ]
      refine wpAnyH_take (i := 35) (v := ?_) rfl (by kernel_rfl) (by kernel_rfl) (by kernel_rfl) (fun _ _ _ h => h) (Or.inl ⟨by kernel_rfl, ?_⟩) (by assumption) ?_
      rotate_left 1
      · (intro w hSw; (try dsimp only at hSw); go_simp; try with_reducible rfl)
      try simp only [Act.put, List.getElem_toArray, List.getElem_cons_succ, List.getElem_cons_zero, List.setIfInBounds_toArray, List.set_cons_zero, List.set_cons_succ]
      refine wpAnyH_take (i := 36) (v := ?_) rfl (by kernel_rfl) (by kernel_rfl) (by kernel_rfl) (fun _ _ _ h => h) (Or.inl ⟨by kernel_rfl, ?_⟩) (by assumption) ?_
      rotate_left 1
      · (intro w hSw; (try dsimp only at hSw); go_simp; try with_reducible rfl)
      try simp only [Act.put, List.getElem_toArray, List.getElem_cons_succ, List.getElem_cons_zero, List.setIfInBounds_toArray, List.set_cons_zero, List.set_cons_succ]
      refine wpAnyH_take (i := 37) (v := ?_) rfl (by kernel_rfl) (by kernel_rfl) (by kernel_rfl) (fun _ _ _ h => h) (Or.inl ⟨by kernel_rfl, ?_⟩) (by assumption) ?_
      rotate_left 1
      · (intro w hSw; (try dsimp only at hSw); go_simp; try with_reducible rfl)
      try simp only [Act.put, List.getElem_toArray, List.getElem_cons_succ, List.getElem_cons_zero, List.setIfInBounds_toArray, List.set_cons_zero, List.set_cons_succ]
      refine wpAnyH_take (i := 38) (v := ?_) rfl (by kernel_rfl) (by kernel_rfl) (by kernel_rfl) (fun _ _ _ h => h) (Or.inl ⟨by kernel_rfl, ?_⟩) (by assumption) ?_
      rotate_left 1
      · (intro w hSw; (try dsimp only at hSw); go_simp; try with_reducible rfl)
      try simp only [Act.put, List.getElem_toArray, List.getElem_cons_succ, List.getElem_cons_zero, List.setIfInBounds_toArray, List.set_cons_zero, List.set_cons_succ]
      refine wpAnyH_take (i := 39) (v := ?_) rfl (by kernel_rfl) (by kernel_rfl) (by kernel_rfl) (fun _ _ _ h => h) (Or.inl ⟨by kernel_rfl, ?_⟩) (by assumption) ?_
      rotate_left 1
      · (intro w hSw; (try dsimp only at hSw); go_simp; try with_reducible rfl)
      try simp only [Act.put, List.getElem_toArray, List.getElem_cons_succ, List.getElem_cons_zero, List.setIfInBounds_toArray, List.set_cons_zero, List.set_cons_succ]
      refine wpAnyH_take (i := 40) (v := ?_) rfl (by kernel_rfl) (by kernel_rfl) (by kernel_rfl) (fun _ _ _ h => h) (Or.inl ⟨by kernel_rfl, ?_⟩) (by assumption) ?_
      rotate_left 1
      · (intro w hSw; (try dsimp only at hSw); go_simp; try with_reducible rfl)
      try simp only [Act.put, List.getElem_toArray, List.getElem_cons_succ, List.getElem_cons_zero, List.setIfInBounds_toArray, List.set_cons_zero, List.set_cons_succ]
      refine wpAnyH_ready (rs := [41]) (by kernel_rfl) (by simp) ?_
      refine AllReadyH.cons rfl (fun K hK => ?_) AllReadyH.nil
      try simp only [Act.put, List.getElem_toArray, List.getElem_cons_succ, List.getElem_cons_zero, List.setIfInBounds_toArray, List.set_cons_zero, List.set_cons_succ]
      go_simp
      go_at_call 31
      with_reducible refine (HST.out _).mono ?_
      rintro e w20 ⟨rfl, bz⟩
      have Z1 := hide (Z0.out.trans (bz.mono Z0.out.size))
      clear bz Z0
      dsimp only
      refine hK.out _ _ (⟨(FX.out _ Z1.out).cell 0, (FX.out _ Z1.out).cell 1, (FX.out _ Z1.out).cell 2, (FX.out _ Z1.out).cell 3, (FF.out _ Z1.out).cell 0, (FF.out _ Z1.out).cell 1, (FG.out _ Z1.out).cell 0, (FG.out _ Z1.out).cell 1, (FV.out _ Z1.out).cell 0, (FV.out _ Z1.out).cell 1, (FV.out _ Z1.out).cell 2, (FV.out _ Z1.out).cell 3, (FK.out _ Z1.out).cell 0, (FK.out _ Z1.out).cell 1, (FK.out _ Z1.out).cell 2, (FK.out _ Z1.out).cell 3, (FU.out _ Z1.out).cell 0, (FU.out _ Z1.out).cell 1, (FU.out _ Z1.out).cell 2, (FU.out _ Z1.out).cell 3, (FW.out _ Z1.out).cell 0, (FW.out _ Z1.out).cell 1, (FW.out _ Z1.out).cell 2, (FW.out _ Z1.out).cell 3⟩) (fun hHeld => ?_)
      clear hK K
      try simp only [Act.put, List.getElem_toArray, List.getElem_cons_succ, List.getElem_cons_zero, List.setIfInBounds_toArray, List.set_cons_zero, List.set_cons_succ]
      refine wpAnyH_take (i := 42) (v := ?_) rfl (by kernel_rfl) (by kernel_rfl) (by kernel_rfl) (fun _ _ _ h => h) (Or.inl ⟨by kernel_rfl, ?_⟩) (by assumption) ?_
      rotate_left 1
      · (intro w hSw; (try dsimp only at hSw); go_simp; try with_reducible rfl)
      try simp only [Act.put, List.getElem_toArray, List.getElem_cons_succ, List.getElem_cons_zero, List.setIfInBounds_toArray, List.set_cons_zero, List.set_cons_succ]
      refine wpAnyH_take (i := 43) (v := ?_) rfl (by kernel_rfl) (by kernel_rfl) (by kernel_rfl) (fun _ _ _ h => h) (Or.inl ⟨by kernel_rfl, ?_⟩) (by assumption) ?_
      rotate_left 1
      · (intro w hSw; (try dsimp only at hSw); go_simp; try with_reducible rfl)
      try simp only [Act.put, List.getElem_toArray, List.getElem_cons_succ, List.getElem_cons_zero, List.setIfInBounds_toArray, List.set_cons_zero, List.set_cons_succ]
      refine wpAnyH_take (i := 44) (v := ?_) rfl (by kernel_rfl) (by kernel_rfl) (by kernel_rfl) (fun _ _ _ h => h) (Or.inl ⟨by kernel_rfl, ?_⟩) (by assumption) ?_
      rotate_left 1
      · (intro w hSw; (try dsimp only at hSw); go_simp; try with_reducible rfl)
      try simp only [Act.put, List.getElem_toArray, List.getElem_cons_succ, List.getElem_cons_zero, List.setIfInBounds_toArray, List.set_cons_zero, List.set_cons_succ]
      refine wpAnyH_take (i := 45) (v := ?_) rfl (by kernel_rfl) (by kernel_rfl) (by kernel_rfl) (fun _ _ _ h => h) (Or.inl ⟨by kernel_rfl, ?_⟩) (by assumption) ?_
      rotate_left 1
      · (intro w hSw; (try dsimp only at hSw); go_simp; try with_reducible rfl)
      try simp only [Act.put, List.getElem_toArray, List.getElem_cons_succ, List.getElem_cons_zero, List.setIfInBounds_toArray, List.set_cons_zero, List.set_cons_succ]
      refine wpAnyH_take (i := 46) (v := ?_) rfl (by kernel_rfl) (by kernel_rfl) (by kernel_rfl) (fun _ _ _ h => h) (Or.inl ⟨by kernel_rfl, ?_⟩) (by assumption) ?_
      rotate_left 1
      · (intro w hSw; (try dsimp only at hSw); go_simp; try with_reducible rfl)
      try simp only [Act.put, List.getElem_toArray, List.getElem_cons_succ, List.getElem_cons_zero, List.setIfInBounds_toArray, List.set_cons_zero, List.set_cons_succ]
      refine wpAnyH_take (i := 47) (v := ?_) rfl (by kernel_rfl) (by kernel_rfl) (by kernel_rfl) (fun _ _ _ h => h) (Or.inl ⟨by kernel_rfl, ?_⟩) (by assumption) ?_
      rotate_left 1
      · (intro w hSw; (try dsimp only at hSw); go_simp; try with_reducible rfl)
      try simp only [Act.put, List.getElem_toArray, List.getElem_cons_succ, List.getElem_cons_zero, List.setIfInBounds_toArray, List.set_cons_zero, List.set_cons_succ]
      refine wpAnyH_take (i := 48) (v := ?_) rfl (by kernel_rfl) (by kernel_rfl) (by kernel_rfl) (fun _ _ _ h => h) (Or.inl ⟨by kernel_rfl, ?_⟩) (by assumption) ?_
      rotate_left 1
      · (intro w hSw; (try dsimp only at hSw); go_simp; try with_reducible rfl)
      try simp only [Act.put, List.getElem_toArray, List.getElem_cons_succ, List.getElem_cons_zero, List.setIfInBounds_toArray, List.set_cons_zero, List.set_cons_succ]
      refine wpAnyH_take (i := 49) (v := ?_) rfl (by kernel_rfl) (by kernel_rfl) (by kernel_rfl) (fun _ _ _ h => h) (Or.inl ⟨by kernel_rfl, ?_⟩) (by assumption) ?_
      rotate_left 1
      · (intro w hSw; (try dsimp only at hSw); go_simp; try with_reducible rfl)
      try simp only [Act.put, List.getElem_toArray, List.getElem_cons_succ, List.getElem_cons_zero, List.setIfInBounds_toArray, List.set_cons_zero, List.set_cons_succ]
      refine wpAnyH_take (i := 50) (v := ?_) rfl (by kernel_rfl) (by kernel_rfl) (by kernel_rfl) (fun _ _ _ h => h) (Or.inl ⟨by kernel_rfl, ?_⟩) (by assumption) ?_
      rotate_left 1
      · (intro w hSw; (try dsimp only at hSw); go_simp; try with_reducible rfl)
      try simp only [Act.put, List.getElem_toArray, List.getElem_cons_succ, List.getElem_cons_zero, List.setIfInBounds_toArray, List.set_cons_zero, List.set_cons_succ]
      refine wpAnyH_take (i := 51) (v := ?_) rfl (by kernel_rfl) (by kernel_rfl) (by kernel_rfl) (fun _ _ _ h => h) (Or.inl ⟨by kernel_rfl, ?_⟩) (by assumption) ?_
      rotate_left 1
      · (intro w hSw; (try dsimp only at hSw); go_simp; try with_reducible rfl)
      try simp only [Act.put, List.getElem_toArray, List.getElem_cons_succ, List.getElem_cons_zero, List.setIfInBounds_toArray, List.set_cons_zero, List.set_cons_succ]
      refine wpAnyH_take (i := 52) (v := ?_) rfl (by kernel_rfl) (by kernel_rfl) (by kernel_rfl) (fun _ _ _ h => h) (Or.inl ⟨by kernel_rfl, ?_⟩) (by assumption) ?_
      rotate_left 1
      · (intro w hSw; (try dsimp only at hSw); go_simp; try with_reducible rfl)
      try simp only [Act.put, List.getElem_toArray, List.getElem_cons_succ, List.getElem_cons_zero, List.setIfInBounds_toArray, List.set_cons_zero, List.set_cons_succ]
      refine wpAnyH_take (i := 53) (v := ?_) rfl (by kernel_rfl) (by kernel_rfl) (by kernel_rfl) (fun _ _ _ h => h) (Or.inl ⟨by kernel_rfl, ?_⟩) (by assumption) ?_
      rotate_left 1
      · (intro w hSw; (try dsimp only at hSw); go_simp; try with_reducible rfl)
      try simp only [Act.put, List.getElem_toArray, List.getElem_cons_succ, List.getElem_cons_zero, List.setIfInBounds_toArray, List.set_cons_zero, List.set_cons_succ]
      refine wpAnyH_take (i := 54) (v := ?_) rfl (by kernel_rfl) (by kernel_rfl) (by kernel_rfl) (fun _ _ _ h => h) (Or.inl ⟨by kernel_rfl, ?_⟩) (by assumption) ?_
      rotate_left 1
      · (intro w hSw; (try dsimp only at hSw); go_simp; try with_reducible rfl)
      try simp only [Act.put, List.getElem_toArray, List.getElem_cons_succ, List.getElem_cons_zero, List.setIfInBounds_toArray, List.set_cons_zero, List.set_cons_succ]
      refine wpAnyH_take (i := 55) (v := ?_) rfl (by kernel_rfl) (by kernel_rfl) (by kernel_rfl) (fun _ _ _ h => h) (Or.inl ⟨by kernel_rfl, ?_⟩) (by assumption) ?_
      rotate_left 1
      · (intro w hSw; (try dsimp only at hSw); go_simp; try with_reducible rfl)
      try simp only [Act.put, List.getElem_toArray, List.getElem_cons_succ, List.getElem_cons_zero, List.setIfInBounds_toArray, List.set_cons_zero, List.set_cons_succ]
      refine wpAnyH_take (i := 56) (v := ?_) rfl (by kernel_rfl) (by kernel_rfl) (by kernel_rfl) (fun _ _ _ h => h) (Or.inl ⟨by kernel_rfl, ?_⟩) (by assumption) ?_
      rotate_left 1
      · (intro w hSw; (try dsimp only at hSw); go_simp; try with_reducible rfl)
      try simp only [Act.put, List.getElem_toArray, List.getElem_cons_succ, List.getElem_cons_zero, List.setIfInBounds_toArray, List.set_cons_zero, List.set_cons_succ]
      refine wpAnyH_take (i := 57) (v := ?_) rfl (by kernel_rfl) (by kernel_rfl) (by kernel_rfl) (fun _ _ _ h => h) (Or.inl ⟨by kernel_rfl, ?_⟩) (by assumption) ?_
      rotate_left 1
      · (intro w hSw; (try dsimp only at hSw); go_simp; try with_reducible rfl)
      try simp only [Act.put, List.getElem_toArray, List.getElem_cons_succ, List.getElem_cons_zero, List.setIfInBounds_toArray, List.set_cons_zero, List.set_cons_succ]
      refine wpAnyH_take (i := 58) (v := ?_) rfl (by kernel_rfl) (by kernel_rfl) (by kernel_rfl) (fun _ _ _ h => h) (Or.inl ⟨by kernel_rfl, ?_⟩) (by assumption) ?_
      rotate_left 1
      · (intro w hSw; (try dsimp only at hSw); go_simp; try with_reducible rfl)
      try simp only [Act.put, List.getElem_toArray, List.getElem_cons_succ, List.getElem_cons_zero, List.setIfInBounds_toArray, List.set_cons_zero, List.set_cons_succ]
      refine wpAnyH_take (i := 59) (v := ?_) rfl (by kernel_rfl) (by kernel_rfl) (by kernel_rfl) (fun _ _ _ h => h) (Or.inl ⟨by kernel_rfl, ?_⟩) (by assumption) ?_
      rotate_left 1
      · (intro w hSw; (try dsimp only at hSw); go_simp; try with_reducible rfl)
      try simp only [Act.put, List.getElem_toArray, List.getElem_cons_succ, List.getElem_cons_zero, List.setIfInBounds_toArray, List.set_cons_zero, List.set_cons_succ]
      refine wpAnyH_take (i := 60) (v := ?_) rfl (by kernel_rfl) (by kernel_rfl) (by kernel_rfl) (fun _ _ _ h => h) (Or.inl ⟨by kernel_rfl, ?_⟩) (by assumption) ?_
      rotate_left 1
      · (intro w hSw; (try dsimp only at hSw); go_simp; try with_reducible rfl)
      try simp only [Act.put, List.getElem_toArray, List.getElem_cons_succ, List.getElem_cons_zero, List.setIfInBounds_toArray, List.set_cons_zero, List.set_cons_succ]
      refine wpAnyH_take (i := 61) (v := ?_) rfl (by kernel_rfl) (by kernel_rfl) (by kernel_rfl) (fun _ _ _ h => h) (Or.inl ⟨by kernel_rfl, ?_⟩) (by assumption) ?_
      rotate_left 1
      · (intro w hSw; (try dsimp only at hSw); go_simp; try with_reducible rfl)
      try simp only [Act.put, List.getElem_toArray, List.getElem_cons_succ, List.getElem_cons_zero, List.setIfInBounds_toArray, List.set_cons_zero, List.set_cons_succ]
      refine wpAnyH_take (i := 62) (v := ?_) rfl (by kernel_rfl) (by kernel_rfl) (by kernel_rfl) (fun _ _ _ h => h) (Or.inl ⟨by kernel_rfl, ?_⟩) (by assumption) ?_
      rotate_left 1
      · (intro w hSw; (try dsimp only at hSw); go_simp; try with_reducible rfl)
      try simp only [Act.put, List.getElem_toArray, List.getElem_cons_succ, List.getElem_cons_zero, List.setIfInBounds_toArray, List.set_cons_zero, List.set_cons_succ]
      refine wpAnyH_take (i := 63) (v := ?_) rfl (by kernel_rfl) (by kernel_rfl) (by kernel_rfl) (fun _ _ _ h => h) (Or.inl ⟨by kernel_rfl, ?_⟩) (by assumption) ?_
      rotate_left 1
      · (intro w hSw; (try dsimp only at hSw); go_simp; try with_reducible rfl)
      try simp only [Act.put, List.getElem_toArray, List.getElem_cons_succ, List.getElem_cons_zero, List.setIfInBounds_toArray, List.set_cons_zero, List.set_cons_succ]
      refine wpAnyH_take (i := 64) (v := ?_) rfl (by kernel_rfl) (by kernel_rfl) (by kernel_rfl) (fun _ _ _ h => h) (Or.inl ⟨by kernel_rfl, ?_⟩) (by assumption) ?_
      rotate_left 1
      · (intro w hSw; (try dsimp only at hSw); go_simp; try with_reducible rfl)
      try simp only [Act.put, List.getElem_toArray, List.getElem_cons_succ, List.getElem_cons_zero, List.setIfInBounds_toArray, List.set_cons_zero, List.set_cons_succ]
      refine wpAnyH_take (i := 65) (v := ?_) rfl (by kernel_rfl) (by kernel_rfl) (by kernel_rfl) (fun _ _ _ h => h) (Or.inl ⟨by kernel_rfl, ?_⟩) (by assumption) ?_
      rotate_left 1
      · (intro w hSw; (try dsimp only at hSw); go_simp; try with_reducible rfl)
      try simp only [Act.put, List.getElem_toArray, List.getElem_cons_succ, List.getElem_cons_zero, List.setIfInBounds_toArray, List.set_cons_zero, List.set_cons_succ]
      refine wpAnyH_take (i := 66) (v := ?_) rfl (by kernel_rfl) (by kernel_rfl) (by kernel_rfl) (fun _ _ _ h => h) (Or.inl ⟨by kernel_rfl, ?_⟩) (by assumption) ?_
      rotate_left 1
      · (intro w hSw; (try dsimp only at hSw); go_simp; try with_reducible rfl)
      try simp only [Act.put, List.getElem_toArray, List.getElem_cons_succ, List.getElem_cons_zero, List.setIfInBounds_toArray, List.set_cons_zero, List.set_cons_succ]
      refine wpAnyH_take (i := 67) (v := ?_) rfl (by kernel_rfl) (by kernel_rfl) (by kernel_rfl) (fun _ _ _ h => h) (Or.inl ⟨by kernel_rfl, ?_⟩) (by assumption) ?_
      rotate_left 1
      · (intro w hSw; (try dsimp only at hSw); go_simp; try with_reducible rfl)
      try simp only [Act.put, List.getElem_toArray, List.getElem_cons_succ, List.getElem_cons_zero, List.setIfInBounds_toArray, List.set_cons_zero, List.set_cons_succ]
      refine wpAnyH_take (i := 68) (v := ?_) rfl (by kernel_rfl) (by kernel_rfl) (by kernel_rfl) (fun _ _ _ h => h) (Or.inl ⟨by kernel_rfl, ?_⟩) (by assumption) ?_
      rotate_left 1
      · (intro w hSw; (try dsimp only at hSw); go_simp; try with_reducible rfl)
      try simp only [Act.put, List.getElem_toArray, List.getElem_cons_succ, List.getElem_cons_zero, List.setIfInBounds_toArray, List.set_cons_zero, List.set_cons_succ]
      refine wpAnyH_take (i := 69) (v := ?_) rfl (by kernel_rfl) (by kernel_rfl) (by kernel_rfl) (fun _ _ _ h => h) (Or.inl ⟨by kernel_rfl, ?_⟩) (by assumption) ?_
      rotate_left 1
      · (intro w hSw; (try dsimp only at hSw); go_simp; try with_reducible rfl)
      try simp only [Act.put, List.getElem_toArray, List.getElem_cons_succ, List.getElem_cons_zero, List.setIfInBounds_toArray, List.set_cons_zero, List.set_cons_succ]
      refine wpAnyH_take (i := 71) (v := ?_) rfl (by kernel_rfl) (by kernel_rfl) (by kernel_rfl) (fun _ _ _ h => h) (Or.inl ⟨by kernel_rfl, ?_⟩) (by assumption) ?_
      rotate_left 1
      · (intro w hSw; (try dsimp only at hSw); go_simp; try with_reducible rfl)
      try simp only [Act.put, List.getElem_toArray, List.getElem_cons_succ, List.getElem_cons_zero, List.setIfInBounds_toArray, List.set_cons_zero, List.set_cons_succ]
      refine wpAnyH_ready (rs := [70]) (by kernel_rfl) (by simp) ?_
      refine AllReadyH.cons rfl (fun K hK => ?_) AllReadyH.nil
      try simp only [Act.put, List.getElem_toArray, List.getElem_cons_succ, List.getElem_cons_zero, List.setIfInBounds_toArray, List.set_cons_zero, List.set_cons_succ]
      go_simp
      go_at_call 32
      with_reducible refine (HVI.out _).mono ?_
      rintro e w21 ⟨rfl, bz⟩
      have Z2 := hide (Z1.out.trans (bz.mono Z1.out.size))
      clear bz Z1
      dsimp only
      refine hK.out _ _ (⟨(FX.out _ Z2.out).cell 0, (FX.out _ Z2.out).cell 1, (FX.out _ Z2.out).cell 2, (FX.out _ Z2.out).cell 3, (FF.out _ Z2.out).cell 0, (FF.out _ Z2.out).cell 1, (FG.out _ Z2.out).cell 0, (FG.out _ Z2.out).cell 1, (FV.out _ Z2.out).cell 0, (FV.out _ Z2.out).cell 1, (FV.out _ Z2.out).cell 2, (FV.out _ Z2.out).cell 3, (FK.out _ Z2.out).cell 0, (FK.out _ Z2.out).cell 1, (FK.out _ Z2.out).cell 2, (FK.out _ Z2.out).cell 3, (FU.out _ Z2.out).cell 0, (FU.out _ Z2.out).cell 1, (FU.out _ Z2.out).cell 2, (FU.out _ Z2.out).cell 3, (FW.out _ Z2.out).cell 0, (FW.out _ Z2.out).cell 1, (FW.out _ Z2.out).cell 2, (FW.out _ Z2.out).cell 3⟩) (fun hHeld => ?_)
      clear hK K
      try simp only [Act.put, List.getElem_toArray, List.getElem_cons_succ, List.getElem_cons_zero, List.setIfInBounds_toArray, List.set_cons_zero, List.set_cons_succ]
      refine wpAnyH_ready (rs := [72]) (by kernel_rfl) (by simp) ?_
      refine AllReadyH.cons rfl (fun K hK => ?_) AllReadyH.nil
      try simp only [Act.put, List.getElem_toArray, List.getElem_cons_succ, List.getElem_cons_zero, List.setIfInBounds_toArray, List.set_cons_zero, List.set_cons_succ]
      go_simp
      go_at_call 33
      with_reducible refine (HVS.out _).mono ?_
      rintro e w22 ⟨rfl, bz⟩
      have Z3 := hide (Z2.out.trans (bz.mono Z2.out.size))
      clear bz Z2
      dsimp only
      refine hK.out _ _ (⟨(FX.out _ Z3.out).cell 0, (FX.out _ Z3.out).cell 1, (FX.out _ Z3.out).cell 2, (FX.out _ Z3.out).cell 3, (FF.out _ Z3.out).cell 0, (FF.out _ Z3.out).cell 1, (FG.out _ Z3.out).cell 0, (FG.out _ Z3.out).cell 1, (FV.out _ Z3.out).cell 0, (FV.out _ Z3.out).cell 1, (FV.out _ Z3.out).cell 2, (FV.out _ Z3.out).cell 3, (FK.out _ Z3.out).cell 0, (FK.out _ Z3.out).cell 1, (FK.out _ Z3.out).cell 2, (FK.out _ Z3.out).cell 3, (FU.out _ Z3.out).cell 0, (FU.out _ Z3.out).cell 1, (FU.out _ Z3.out).cell 2, (FU.out _ Z3.out).cell 3, (FW.out _ Z3.out).cell 0, (FW.out _ Z3.out).cell 1, (FW.out _ Z3.out).cell 2, (FW.out _ Z3.out).cell 3⟩) (fun hHeld => ?_)
      clear hK K
      try simp only [Act.put, List.getElem_toArray, List.getElem_cons_succ, List.getElem_cons_zero, List.setIfInBounds_toArray, List.set_cons_zero, List.set_cons_succ]
      refine wpAnyH_take (i := 73) (v := ?_) rfl (by kernel_rfl) (by kernel_rfl) (by kernel_rfl) (fun _ _ _ h => h) (Or.inl ⟨by kernel_rfl, ?_⟩) (by assumption) ?_
      rotate_left 1
      · (intro w hSw; (try dsimp only at hSw); go_simp; try with_reducible rfl)
      try simp only [Act.put, List.getElem_toArray, List.getElem_cons_succ, List.getElem_cons_zero, List.setIfInBounds_toArray, List.set_cons_zero, List.set_cons_succ]
      refine wpAnyH_take (i := 74) (v := ?_) rfl (by kernel_rfl) (by kernel_rfl) (by kernel_rfl) (fun _ _ _ h => h) (Or.inl ⟨by kernel_rfl, ?_⟩) (by assumption) ?_
      rotate_left 1
      · (intro w hSw; (try dsimp only at hSw); go_simp; try with_reducible rfl)
      try simp only [Act.put, List.getElem_toArray, List.getElem_cons_succ, List.getElem_cons_zero, List.setIfInBounds_toArray, List.set_cons_zero, List.set_cons_succ]
      refine wpAnyH_done (by kernel_rfl) ?_ _
      go_wp2_with fail
      go_meet
      exact ⟨rfl, Z3.out⟩
  case rest =>
    as_aux_lemma =>
      obtain ⟨rfl, Z1⟩ := hcut
      clear FF FV FK FU FW FT FR HVI HVS HST LT HBO
      go_upto_if 193 with fail
      go_cut [] (fun wx => Hid (Below w17a.heap.size w17a wx))
      case first =>
        as_aux_lemma =>
          by_cases hpc : pc = 0
          case neg =>
            have hB : (pc == 0) = false := by simp [hpc]
            have HPC := hide hpc
            clear hpc
            go_wp2_with fail
            go_meet
            exact Z1.out
          obtain ⟨⟨l1, l2⟩, ⟨l3, l4⟩, l5⟩ := LP.out hpc
          have k0 : wc.cell? ⟨ga, 0, none⟩ = some (.int .i64 a.a) := (FA.out _ Z1.out).cell 0
          have k1 : wc.cell? ⟨ga, 1, none⟩ = some (.int .i64 a.b) := (FA.out _ Z1.out).cell 1
          have k2 : wc.cell? ⟨ga, 2, none⟩ = some (.int .i64 a.c) := (FA.out _ Z1.out).cell 2
          have k3 : wc.cell? ⟨ga, 3, none⟩ = some (.int .i64 a.d) := (FA.out _ Z1.out).cell 3
          have HT1 := hide fun W => (show Calls Tryz.prog 16 #[.agg #[.int .i64 a.a, .int .i64 a.b, .int .i64 pl, .int .i64 a.d]] W fun e w' => e = .returned (.tuple #[.int .i64 (ticksOfRide (setC a pl)).1, .int .i64 (ticksOfRide (setC a pl)).2]) ∧ Below W.heap.size W w' from implTicksOfRide_any (setC a pl) W)
          have HT2 := hide fun W => (show Calls Tryz.prog 16 #[.agg #[.int .i64 a.a, .int .i64 a.b, .int .i64 (pl - 1), .int .i64 a.d]] W fun e w' => e = .returned (.tuple #[.int .i64 (ticksOfRide (setC a (pl - 1))).1, .int .i64 (ticksOfRide (setC a (pl - 1))).2]) ∧ Below W.heap.size W w' from implTicksOfRide_any (setC a (pl - 1)) W)
          rw [l3] at HT1
          generalize (ticksOfRide (setC a pl)).1 = q1 at *
          generalize (ticksOfRide (setC a (pl - 1))).1 = q2 at *
          generalize (ticksOfRide (setC a (pl - 1))).2 = q3 at *
          have hG1 : decide (goal < q1) = false := decide_eq_false (by omega)
          have L5 := hide l5
          clear LP LX FB FX FG l3 l5 FA
          subst hpc
          go_upto_region 25 with fail
          have Y1 := hide (BoxN.new wc #[.int .i64 a.a, .int .i64 a.b, .int .i64 pl, .int .i64 a.d] 44)
          have Z2 := hide (Z1.out.alloc Z1.out.size (.cells #[.int .i64 a.a, .int .i64 a.b, .int .i64 pl, .int .i64 a.d] 44))
          have hgy := Z1.out.size
          clear k0 k1 k2 k3 Z1
          generalize wc.alloc (.cells #[.int .i64 a.a, .int .i64 a.b, .int .i64 pl, .int .i64 a.d] 44) = wy at *
          generalize wc.heap.size = gy at *
          have k0 : wy.cell? ⟨gy, 0, none⟩ = some (.int .i64 a.a) := Y1.out.cell 0
          have k1 : wy.cell? ⟨gy, 1, none⟩ = some (.int .i64 a.b) := Y1.out.cell 1
          have k2 : wy.cell? ⟨gy, 2, none⟩ = some (.int .i64 pl) := Y1.out.cell 2
          have k3 : wy.cell? ⟨gy, 3, none⟩ = some (.int .i64 a.d) := Y1.out.cell 3
          go_upto_region 28 with (go_at_call 16; (with_reducible refine (HT1.out _).mono ?_); rintro e w30 ⟨rfl, bz⟩)
          have Y2 := hide (Y1.out.below bz Y1.out.lt)
          have Z3 := hide (Z2.out.trans (bz.mono Z2.out.size))
          clear k0 k1 k2 k3 bz Y1 Z2 HT1
          by_cases hl : 1 < pl
          case neg =>
            have hB1 : decide (1 < pl) = false := decide_eq_false hl
            clear hl L5
            go_wp2_with fail
            go_meet
            exact Z3.out
          obtain ⟨rfl, l6⟩ := L5.out hl
          have hB1 : decide (1 < pl) = true := decide_eq_true hl
          have hw : IntKind.i64.wrap (pl - 1) = pl - 1 := by rw [IntKind.wrap_i64] <;> omega
          have hG2 : decide (q2 ≤ goal) = false := decide_eq_false (by omega)
          have m2 : w30.cell? ⟨gy, 2, none⟩ = some (.int .i64 pl) := Y2.out.cell 2
          have n2 := Y2.out.fro 2
          have Y3 := hide (show BoxN (w30.setCell ⟨gy, 2, none⟩ (.int .i64 (pl - 1))) gy #[.int .i64 a.a, .int .i64 a.b, .int .i64 (pl - 1), .int .i64 a.d] 44 from Y2.out.set 2 (.int .i64 (pl - 1)))
          have Z4 := hide (Z3.out.setCell (p := ⟨gy, 2, none⟩) hgy (.int .i64 (pl - 1)))
          clear hl L5
          go_upto_region 30 with fail
          clear m2 n2 Y2 Z3
          generalize w30.setCell ⟨gy, 2, none⟩ (.int .i64 (pl - 1)) = w31 at *
          have k0 : w31.cell? ⟨gy, 0, none⟩ = some (.int .i64 a.a) := Y3.out.cell 0
          have k1 : w31.cell? ⟨gy, 1, none⟩ = some (.int .i64 a.b) := Y3.out.cell 1
          have k2 : w31.cell? ⟨gy, 2, none⟩ = some (.int .i64 (pl - 1)) := Y3.out.cell 2
          have k3 : w31.cell? ⟨gy, 3, none⟩ = some (.int .i64 a.d) := Y3.out.cell 3
          go_wp2_with (go_at_call 16; (with_reducible refine (HT2.out _).mono ?_); rintro e w32 ⟨rfl, bz⟩)
          go_meet
          exact Z4.out.trans (bz.mono Z4.out.size)
      case rest =>
        as_aux_lemma =>
          have Z2 : Hid (Below w17a.heap.size w17a wc) := hcut
          clear Z1 hcut LP FA
          by_cases htc : tc = 0
          case neg =>
            have hB : (tc != 0) = true := by simp [htc]
            have HTC := hide htc
            clear htc LX
            go_wp2_with fail
            go_ret
            exact ⟨rfl, FB.out _ Z2.out⟩
          obtain ⟨⟨⟨a1, a2⟩, ⟨a3, a4⟩, ⟨a5, a6⟩, a7, a8⟩, a9, a10⟩ := LX.out htc
          obtain ⟨e1, e2⟩ := mul_bd (a := s1) (b := tk) (m := 10000) (n := 2010000) (by omega) (by omega) (by omega) (by omega)
          obtain ⟨e3, e4⟩ := mul_bd (a := x.a) (b := s2) (m := 2000) (n := 1000) (by omega) (by omega) (by omega) (by omega)
          obtain ⟨e5, e6⟩ := mul_bd (a := s1) (b := tk - 1) (m := 10000) (n := 2010000) (by omega) (by omega) (by omega) (by omega)
          have w1_ : IntKind.i64.wrap (s1 * tk) = s1 * tk := wrap_in (by omega) (by omega)
          have w2_ : IntKind.i64.wrap (x.a * s2) = x.a * s2 := wrap_in (by omega) (by omega)
          have w3_ : IntKind.i64.wrap (tk - 1) = tk - 1 := wrap_in (by omega) (by omega)
          have w4_ : IntKind.i64.wrap (s1 * (tk - 1)) = s1 * (tk - 1) := wrap_in (by omega) (by omega)
          have d1 : decide (1 ≤ tk) = true := decide_eq_true a1
          have d2 : decide (x.a * s2 ≤ s1 * tk) = true := decide_eq_true a9
          have d3 : decide (s1 * (tk - 1) < x.a * s2) = true := decide_eq_true a10
          have c0 : wc.cell? ⟨gg, 0, none⟩ = some (.int .i64 s1) := (FG.out _ Z2.out).cell 0
          have c1 : wc.cell? ⟨gg, 1, none⟩ = some (.int .i64 s2) := (FG.out _ Z2.out).cell 1
          have c2 : wc.cell? ⟨gx, 0, none⟩ = some (.int .i64 x.a) := (FX.out _ Z2.out).cell 0
          clear LX FG FX a9 a10 e1 e2 e3 e4 e5 e6
          subst htc
          go_upto_region 35 with fail
          go_wp2_with fail
          go_ret
          exact ⟨by simp, FB.out _ Z2.out⟩
end Go.Proofs.YtaajkmjilcamgaaGreatDoor
