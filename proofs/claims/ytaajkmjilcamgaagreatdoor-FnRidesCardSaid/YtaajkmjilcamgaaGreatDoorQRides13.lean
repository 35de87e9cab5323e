/-
  Ticks of any ride, speeds of rides that are not valid, the least pressure and the greatest weight of a ride, in both packages; and the plain laws on them.
  Draws of carriers: a fleet and which of them runs; lists of numbers compared.
-/
import Derived.Test.YtaajkmjilcamgaaGreatDoorQRides5
import Derived.Test.YtaajkmjilcamgaaGreatDoorQRides1
import Derived.Deep.DeepCutAuto
import Derived.Test.YtaajkmjilcamgaaGreatDoorQRides10
namespace Go.Proofs.YtaajkmjilcamgaaGreatDoor
open Go.RowKit
def setB4 (x : T4) (b : Int) : T4 := ⟨x.a, b, x.c, x.d⟩
def presGo (x : T4) (t : Int) : Nat → Int → Int × Int
  | 0, _ => (0, 3)
  | n + 1, p => if ticksR (setC x p) ≤ t then (p, 0) else presGo x t n (p + 1)
def pressureFor (x : T4) (t : Int) : Int × Int := if tickCode (okR x) t = 0 then presGo x t 100 1 else (0, tickCode (okR x) t)
def heavGo (x : T4) (t : Int) : Nat → Int × Int
  | 0 => (0, 3)
  | n + 1 => if ticksR (setB4 x n) ≤ t then (n, 0) else heavGo x t n
def heaviestFor (x : T4) (t : Int) : Int × Int := if tickCode (okR x) t = 0 then heavGo x t 501 else (0, tickCode (okR x) t)
def ticksOfRide (x : T4) : Int × Int := if okR x = true then (ticksR x, 0) else (0, 1)
theorem okR_setC {x : T4} {p : Int} (h : okR x = true) (hp : 1 ≤ p ∧ p ≤ 100) : okR (setC x p) = true := by
  obtain ⟨h1, h2, _, h4⟩ := okR_iff.1 h
  exact okR_iff.2 ⟨h1, h2, hp, h4⟩
theorem okR_setB {x : T4} {p : Int} (h : okR x = true) (hp : 0 ≤ p ∧ p ≤ 500) : okR (setB4 x p) = true := by
  obtain ⟨h1, _, h3, h4⟩ := okR_iff.1 h
  exact okR_iff.2 ⟨h1, hp, h3, h4⟩
theorem tickCode_ok {b : Bool} {t : Int} (h : tickCode b t = 0) : b = true ∧ 0 ≤ t ∧ t ≤ 1000000 := by
  unfold tickCode at h
  split at h
  · cases h
  · rename_i hb
    split at h
    · cases h
    · rename_i hi
      simp only [inB, Bool.and_eq_false_iff, decide_eq_false_iff_not, not_or] at hi
      refine ⟨by simpa using hb, by omega, by omega⟩
theorem presGo_law {x : T4} {t : Int} : ∀ (n : Nat) (p : Int), (presGo x t n p).2 = 0 → p ≤ (presGo x t n p).1 ∧ (presGo x t n p).1 < p + n ∧ ticksR (setC x (presGo x t n p).1) ≤ t ∧ (p < (presGo x t n p).1 → t < ticksR (setC x ((presGo x t n p).1 - 1)))
  | 0, p, h => by cases h
  | n + 1, p, h => by
    rw [presGo] at h ⊢
    by_cases hc : ticksR (setC x p) ≤ t
    · rw [if_pos hc]
      exact ⟨Int.le_refl _, by show p < p + _; omega, hc, fun h2 => absurd h2 (Int.lt_irrefl _)⟩
    · rw [if_neg hc] at h ⊢
      obtain ⟨h1, h2, h3, h4⟩ := presGo_law n (p + 1) h
      refine ⟨by omega, by omega, h3, fun hlt => ?_⟩
      by_cases he : (presGo x t n (p + 1)).1 = p + 1
      · rw [he, show p + 1 - 1 = p by omega]; omega
      · exact h4 (by omega)
theorem pressure_law {x : T4} {t : Int} (h : (pressureFor x t).2 = 0) : okR x = true ∧ (1 ≤ (pressureFor x t).1 ∧ (pressureFor x t).1 ≤ 100) ∧ ticksR (setC x (pressureFor x t).1) ≤ t ∧ (1 < (pressureFor x t).1 → t < ticksR (setC x ((pressureFor x t).1 - 1))) := by
  unfold pressureFor at h ⊢
  split at h
  · rename_i hk
    rw [if_pos hk]
    obtain ⟨h1, h2, h3, h4⟩ := presGo_law 100 1 h
    exact ⟨(tickCode_ok hk).1, ⟨h1, by omega⟩, h3, h4⟩
  · rename_i hk
    exact absurd h hk
/-- The ticks of a ride by its speed in lowest terms. -/
theorem ride_law {x : T4} (h : okR x = true) : 1 ≤ ticksR x ∧ x.a * (speedOf x).1.2 ≤ (speedOf x).1.1 * ticksR x ∧ (speedOf x).1.1 * (ticksR x - 1) < x.a * (speedOf x).1.2 := by
  obtain ⟨⟨a1, a2⟩, ⟨b1, b2⟩, ⟨c1, c2⟩, d1, d2⟩ := okR_iff.1 h
  obtain ⟨n1, n2⟩ := denR_pos h
  have hs : speedOf x = (lowF (100 * x.c) (denR x), 0) := by unfold speedOf; rw [if_neg (by simp [h])]
  rw [hs]
  unfold lowF
  dsimp only
  have hg : 0 < (Int.gcd (100 * x.c) (denR x) : Int) := by
    have : Int.gcd (100 * x.c) (denR x) ≠ 0 := by
      intro e
      have := (Int.gcd_eq_zero_iff.1 e).2
      omega
    omega
  have hA : (Int.gcd (100 * x.c) (denR x) : Int) * ((100 * x.c) / (Int.gcd (100 * x.c) (denR x) : Int)) = 100 * x.c := Int.mul_ediv_cancel' (Int.gcd_dvd_left ..)
  have hB : (Int.gcd (100 * x.c) (denR x) : Int) * (denR x / (Int.gcd (100 * x.c) (denR x) : Int)) = denR x := Int.mul_ediv_cancel' (Int.gcd_dvd_right ..)
  generalize (Int.gcd (100 * x.c) (denR x) : Int) = g at *
  generalize (100 * x.c) / g = N at *
  generalize hD : denR x / g = D at *
  have hT := ticksR_pos h
  have hdef : ticksR x = (x.a * denR x + 100 * x.c - 1) / (100 * x.c) := rfl
  have e1 := Int.mul_ediv_add_emod (x.a * denR x + 100 * x.c - 1) (100 * x.c)
  rw [← hdef] at e1
  have e2 := Int.emod_nonneg (x.a * denR x + 100 * x.c - 1) (show 100 * x.c ≠ 0 by omega)
  have e3 := Int.emod_lt_of_pos (x.a * denR x + 100 * x.c - 1) (show 0 < 100 * x.c by omega)
  generalize (x.a * denR x + 100 * x.c - 1) % (100 * x.c) = r at *
  generalize ticksR x = T at *
  generalize denR x = d at *
  have f1 : x.a * d ≤ 100 * x.c * T := by omega
  have f2 : 100 * x.c * T < x.a * d + 100 * x.c := by omega
  refine ⟨hT, ?_, ?_⟩
  · have : g * (x.a * D) ≤ g * (N * T) := by
      have k1 : g * (x.a * D) = x.a * (g * D) := by rw [← Int.mul_assoc, Int.mul_comm g x.a, Int.mul_assoc]
      have k2 : g * (N * T) = (g * N) * T := by rw [Int.mul_assoc]
      rw [k1, k2, hB, hA]; exact f1
    exact Int.le_of_mul_le_mul_left this hg
  · have : g * (N * (T - 1)) < g * (x.a * D) := by
      have k1 : g * (x.a * D) = x.a * (g * D) := by rw [← Int.mul_assoc, Int.mul_comm g x.a, Int.mul_assoc]
      have k2 : g * (N * (T - 1)) = (g * N) * (T - 1) := by rw [Int.mul_assoc]
      rw [k1, k2, hB, hA, Int.mul_sub, Int.mul_one]; omega
    exact Int.lt_of_mul_lt_mul_left this (Int.le_of_lt hg)
theorem speed_bd {x : T4} (h : okR x = true) : 0 ≤ (speedOf x).1.1 ∧ (speedOf x).1.1 ≤ 10000 ∧ 1 ≤ (speedOf x).1.2 ∧ (speedOf x).1.2 ≤ 1000 := by
  obtain ⟨_, _, ⟨c1, c2⟩, _⟩ := okR_iff.1 h
  obtain ⟨n1, n2⟩ := denR_pos h
  have hs : speedOf x = (lowF (100 * x.c) (denR x), 0) := by unfold speedOf; rw [if_neg (by simp [h])]
  rw [hs]
  have h1 := lowF_num (n := 100 * x.c) (d := denR x) (by omega) (by omega)
  have h2 := lowF_den (n := 100 * x.c) (d := denR x) (by omega)
  dsimp only
  omega
theorem implTicksOfRide_any (x : T4) (w : World) :
    Calls Tryz.prog 16 #[.agg #[.int .i64 x.a, .int .i64 x.b, .int .i64 x.c, .int .i64 x.d]] w fun e w' => e = .returned (.tuple #[.int .i64 (ticksOfRide x).1, .int .i64 (ticksOfRide x).2]) ∧ Below w.heap.size w w' := by
  have X0 := hide (BoxN.new w #[.int .i64 x.a, .int .i64 x.b, .int .i64 x.c, .int .i64 x.d] 44)
  have B0 := hide (show Below w.heap.size w (w.alloc (.cells #[.int .i64 x.a, .int .i64 x.b, .int .i64 x.c, .int .i64 x.d] 44)) from (Below.refl _ _).alloc (Nat.le_refl _) _)
  have HV := hide fun W => implValidRide_any x W
  have HT := hide fun W => ticks_any x W
  cases hok : okR x
  · have HE := hide (show ticksOfRide x = (0, 1) by unfold ticksOfRide; rw [if_neg (by simp [hok])])
    rw [hok] at HV
    clear hok HT
    go_enter Tryz.func16, Tryz.ntmps16
    go_upto_region 1 with fail
    generalize w.alloc (.cells #[.int .i64 x.a, .int .i64 x.b, .int .i64 x.c, .int .i64 x.d] 44) = w1 at *
    have k0 := X0.out.cell 0
    have k1 := X0.out.cell 1
    have k2 := X0.out.cell 2
    have k3 := X0.out.cell 3
    go_wp2_with (go_at_call 32; (with_reducible refine (HV.out _).mono ?_); rintro e w2 ⟨rfl, b2⟩)
    go_ret2
    exact ⟨by rw [HE.out]; rfl, B0.out.trans (b2.mono B0.out.size)⟩
  · have HE := hide (show ticksOfRide x = (ticksR x, 0) by unfold ticksOfRide; rw [if_pos hok])
    have HT2 := hide fun W => HT.out W hok
    rw [hok] at HV
    clear hok HT
    go_enter Tryz.func16, Tryz.ntmps16
    go_upto_region 1 with fail
    generalize w.alloc (.cells #[.int .i64 x.a, .int .i64 x.b, .int .i64 x.c, .int .i64 x.d] 44) = w1 at *
    have k0 := X0.out.cell 0
    have k1 := X0.out.cell 1
    have k2 := X0.out.cell 2
    have k3 := X0.out.cell 3
    have hlt := X0.out.lt
    go_wp2_with (first | (go_at_call 32; (with_reducible refine (HV.out _).mono ?_); rintro e w2 ⟨rfl, b2⟩; have X2 := hide (X0.out.below b2 hlt); have l0 := X2.out.cell 0; have l1 := X2.out.cell 1; have l2 := X2.out.cell 2; have l3 := X2.out.cell 3) | (go_at_call 49; (with_reducible refine (HT2.out _).mono ?_); rintro e w3 ⟨rfl, b3⟩))
    go_ret2
    exact ⟨by rw [HE.out]; rfl, (B0.out.trans (b2.mono B0.out.size)).trans (b3.mono (B0.out.trans (b2.mono B0.out.size)).size)⟩
theorem specTicksOfRide_any (x : T4) (w : World) :
    Calls Tryz.prog 17 #[.agg #[.int .i64 x.a, .int .i64 x.b, .int .i64 x.c, .int .i64 x.d]] w fun e w' => e = .returned (.tuple #[.int .i64 (ticksOfRide x).1, .int .i64 (ticksOfRide x).2]) ∧ Below w.heap.size w w' := by
  have X0 := hide (BoxN.new w #[.int .i64 x.a, .int .i64 x.b, .int .i64 x.c, .int .i64 x.d] 44)
  have B0 := hide (show Below w.heap.size w (w.alloc (.cells #[.int .i64 x.a, .int .i64 x.b, .int .i64 x.c, .int .i64 x.d] 44)) from (Below.refl _ _).alloc (Nat.le_refl _) _)
  have HR : RAt (w.alloc (.cells #[.int .i64 x.a, .int .i64 x.b, .int .i64 x.c, .int .i64 x.d] 44)) w.heap.size 0 x := ⟨X0.out.cell 0, X0.out.cell 1, X0.out.cell 2, X0.out.cell 3⟩
  have HV := hide (specOk_any x w.heap.size 0 _ HR)
  have HT := hide fun h => specTicks_b x w.heap.size 0 _ h HR
  clear HR
  cases hok : okR x
  · have HE := hide (show ticksOfRide x = (0, 1) by unfold ticksOfRide; rw [if_neg (by simp [hok])])
    rw [hok] at HV
    clear hok HT
    go_enter Tryz.func17, Tryz.ntmps17
    go_upto_region 1 with fail
    generalize w.alloc (.cells #[.int .i64 x.a, .int .i64 x.b, .int .i64 x.c, .int .i64 x.d] 44) = w1 at *
    go_wp2_with (go_at_call 50; (with_reducible refine (HV.out).mono ?_); rintro e w2 ⟨rfl, rfl⟩)
    go_ret2
    exact ⟨by rw [HE.out]; rfl, B0.out⟩
  · have HE := hide (show ticksOfRide x = (ticksR x, 0) by unfold ticksOfRide; rw [if_pos hok])
    have HT2 := hide (HT.out hok)
    rw [hok] at HV
    clear hok HT
    go_enter Tryz.func17, Tryz.ntmps17
    go_upto_region 1 with fail
    generalize w.alloc (.cells #[.int .i64 x.a, .int .i64 x.b, .int .i64 x.c, .int .i64 x.d] 44) = w1 at *
    go_wp2_with (first | (go_at_call 50; (with_reducible refine (HV.out).mono ?_); rintro e w2 ⟨rfl, rfl⟩) | (go_at_call 51; (with_reducible refine (HT2.out).mono ?_); rintro e w3 ⟨rfl, b3⟩))
    go_ret2
    exact ⟨by rw [HE.out]; rfl, B0.out.trans (b3.mono B0.out.size)⟩
theorem implSpeedOf_no (x : T4) (w : World) (h : okR x = false) :
    Calls Tryz.prog 18 #[.agg #[.int .i64 x.a, .int .i64 x.b, .int .i64 x.c, .int .i64 x.d]] w fun e w' => e = .returned (.tuple #[.agg #[.int .i64 (speedOf x).1.1, .int .i64 (speedOf x).1.2], .int .i64 (speedOf x).2]) ∧ Below w.heap.size w w' := by
  have HE := hide (show speedOf x = ((0, 0), 1) by unfold speedOf; rw [if_pos h])
  have X0 := hide (show BoxN ((w.alloc (.cells #[.int .i64 x.a, .int .i64 x.b, .int .i64 x.c, .int .i64 x.d] 44)).alloc (.cells #[.int .i64 0, .int .i64 0] 48)) w.heap.size #[.int .i64 x.a, .int .i64 x.b, .int .i64 x.c, .int .i64 x.d] 44 from (BoxN.new w _ _).alloc _)
  have Y0 := hide (show BoxN ((w.alloc (.cells #[.int .i64 x.a, .int .i64 x.b, .int .i64 x.c, .int .i64 x.d] 44)).alloc (.cells #[.int .i64 0, .int .i64 0] 48)) (w.heap.size + 1) #[.int .i64 0, .int .i64 0] 48 by have h := BoxN.new (w.alloc (.cells #[.int .i64 x.a, .int .i64 x.b, .int .i64 x.c, .int .i64 x.d] 44)) #[.int .i64 0, .int .i64 0] 48; simpa using h)
  have b0 : Below w.heap.size w ((w.alloc (.cells #[.int .i64 x.a, .int .i64 x.b, .int .i64 x.c, .int .i64 x.d] 44)).alloc (.cells #[.int .i64 0, .int .i64 0] 48)) := (by repeat (first | exact Below.refl _ _ | assumption | (refine Below.alloc ?_ (by simp <;> omega) _) | refine Below.drew ?_ | refine bdn ?_ _))
  have B0 := hide b0
  have z0 := Y0.out.lt
  have HV := hide fun W (hX : BoxN W w.heap.size #[.int .i64 x.a, .int .i64 x.b, .int .i64 x.c, .int .i64 x.d] 44) => implValidRide_any x W
  rw [h] at HV
  clear h b0
  go_enter Tryz.func18, Tryz.ntmps18
  go_upto_region 1 with fail
  generalize ((w.alloc (.cells #[.int .i64 x.a, .int .i64 x.b, .int .i64 x.c, .int .i64 x.d] 44)).alloc (.cells #[.int .i64 0, .int .i64 0] 48)) = w1 at *
  have k0 := X0.out.cell 0
  have k1 := X0.out.cell 1
  have k2 := X0.out.cell 2
  have k3 := X0.out.cell 3
  go_wp2_with (go_at_call 32; (with_reducible refine (HV.out _ X0.out).mono ?_); rintro e w5 ⟨rfl, s5⟩; have Y5 := hide (Y0.out.below s5 (by omega)); have B5 := hide (B0.out.trans (s5.mono B0.out.size)); have T0 := hide (Y5.out.set 0 (.int .i64 0)); have T1 := hide (T0.out.set 1 (.int .i64 0)); have m0 : w5.cell? ⟨w.heap.size + 1, 0, none⟩ = some (.int .i64 0) := Y5.out.cell 0; have n0 := Y5.out.fro 0; have m1 : (w5.setCell ⟨w.heap.size + 1, 0, none⟩ (.int .i64 0)).cell? ⟨w.heap.size + 1, 1, none⟩ = some (.int .i64 0) := T0.out.cell 1; have n1' := T0.out.fro 1)
  have q0 : ((w5.setCell ⟨w.heap.size + 1, 0, none⟩ (.int .i64 0)).setCell ⟨w.heap.size + 1, 1, none⟩ (.int .i64 0)).cell? ⟨w.heap.size + 1, 0, none⟩ = some (.int .i64 0) := T1.out.cell 0
  have q1 : ((w5.setCell ⟨w.heap.size + 1, 0, none⟩ (.int .i64 0)).setCell ⟨w.heap.size + 1, 1, none⟩ (.int .i64 0)).cell? ⟨w.heap.size + 1, 1, none⟩ = some (.int .i64 0) := T1.out.cell 1
  refine bodyPost_ret (v := .tuple #[.agg #[.int .i64 0, .int .i64 0], .int .i64 1]) (by simp [results, Tryz.results18, go_sem, q0, q1]) rfl ⟨by rw [HE.out], ?_⟩
  exact (B5.out.setCell (p := ⟨w.heap.size + 1, 0, none⟩) (by dsimp only; omega) _).setCell (p := ⟨w.heap.size + 1, 1, none⟩) (by dsimp only; omega) _
theorem implSpeedOf_all (x : T4) (w : World) :
    Calls Tryz.prog 18 #[.agg #[.int .i64 x.a, .int .i64 x.b, .int .i64 x.c, .int .i64 x.d]] w fun e w' => e = .returned (.tuple #[.agg #[.int .i64 (speedOf x).1.1, .int .i64 (speedOf x).1.2], .int .i64 (speedOf x).2]) ∧ Below w.heap.size w w' := by
  cases h : okR x
  · exact implSpeedOf_no x w h
  · exact implSpeedOf_any x w h
theorem specSpeedOf_no (x : T4) (w : World) (h : okR x = false) :
    Calls Tryz.prog 19 #[.agg #[.int .i64 x.a, .int .i64 x.b, .int .i64 x.c, .int .i64 x.d]] w fun e w' => e = .returned (.tuple #[.agg #[.int .i64 (speedOf x).1.1, .int .i64 (speedOf x).1.2], .int .i64 (speedOf x).2]) ∧ Below w.heap.size w w' := by
  have HE := hide (show speedOf x = ((0, 0), 1) by unfold speedOf; rw [if_pos h])
  have X0 := hide (show BoxN ((w.alloc (.cells #[.int .i64 x.a, .int .i64 x.b, .int .i64 x.c, .int .i64 x.d] 44)).alloc (.cells #[.int .i64 0, .int .i64 0] 48)) w.heap.size #[.int .i64 x.a, .int .i64 x.b, .int .i64 x.c, .int .i64 x.d] 44 from (BoxN.new w _ _).alloc _)
  have Y0 := hide (show BoxN ((w.alloc (.cells #[.int .i64 x.a, .int .i64 x.b, .int .i64 x.c, .int .i64 x.d] 44)).alloc (.cells #[.int .i64 0, .int .i64 0] 48)) (w.heap.size + 1) #[.int .i64 0, .int .i64 0] 48 by have h := BoxN.new (w.alloc (.cells #[.int .i64 x.a, .int .i64 x.b, .int .i64 x.c, .int .i64 x.d] 44)) #[.int .i64 0, .int .i64 0] 48; simpa using h)
  have b0 : Below w.heap.size w ((w.alloc (.cells #[.int .i64 x.a, .int .i64 x.b, .int .i64 x.c, .int .i64 x.d] 44)).alloc (.cells #[.int .i64 0, .int .i64 0] 48)) := (by repeat (first | exact Below.refl _ _ | assumption | (refine Below.alloc ?_ (by simp <;> omega) _) | refine Below.drew ?_ | refine bdn ?_ _))
  have B0 := hide b0
  have z0 := Y0.out.lt
  have HV := hide fun W (hX : BoxN W w.heap.size #[.int .i64 x.a, .int .i64 x.b, .int .i64 x.c, .int .i64 x.d] 44) => (specOk_any x w.heap.size 0 W ⟨hX.cell 0, hX.cell 1, hX.cell 2, hX.cell 3⟩).mono fun e w' (h : _ ∧ W = w') => (⟨h.1, h.2 ▸ Below.refl _ _⟩ : e = .returned (.bool (okR x)) ∧ Below W.heap.size W w')
  rw [h] at HV
  clear h b0
  go_enter Tryz.func19, Tryz.ntmps19
  go_upto_region 1 with fail
  generalize ((w.alloc (.cells #[.int .i64 x.a, .int .i64 x.b, .int .i64 x.c, .int .i64 x.d] 44)).alloc (.cells #[.int .i64 0, .int .i64 0] 48)) = w1 at *
  have k0 := X0.out.cell 0
  have k1 := X0.out.cell 1
  have k2 := X0.out.cell 2
  have k3 := X0.out.cell 3
  go_wp2_with (go_at_call 50; (with_reducible refine (HV.out _ X0.out).mono ?_); rintro e w5 ⟨rfl, s5⟩; have Y5 := hide (Y0.out.below s5 (by omega)); have B5 := hide (B0.out.trans (s5.mono B0.out.size)); have T0 := hide (Y5.out.set 0 (.int .i64 0)); have T1 := hide (T0.out.set 1 (.int .i64 0)); have m0 : w5.cell? ⟨w.heap.size + 1, 0, none⟩ = some (.int .i64 0) := Y5.out.cell 0; have n0 := Y5.out.fro 0; have m1 : (w5.setCell ⟨w.heap.size + 1, 0, none⟩ (.int .i64 0)).cell? ⟨w.heap.size + 1, 1, none⟩ = some (.int .i64 0) := T0.out.cell 1; have n1' := T0.out.fro 1)
  have q0 : ((w5.setCell ⟨w.heap.size + 1, 0, none⟩ (.int .i64 0)).setCell ⟨w.heap.size + 1, 1, none⟩ (.int .i64 0)).cell? ⟨w.heap.size + 1, 0, none⟩ = some (.int .i64 0) := T1.out.cell 0
  have q1 : ((w5.setCell ⟨w.heap.size + 1, 0, none⟩ (.int .i64 0)).setCell ⟨w.heap.size + 1, 1, none⟩ (.int .i64 0)).cell? ⟨w.heap.size + 1, 1, none⟩ = some (.int .i64 0) := T1.out.cell 1
  refine bodyPost_ret (v := .tuple #[.agg #[.int .i64 0, .int .i64 0], .int .i64 1]) (by simp [results, Tryz.results19, go_sem, q0, q1]) rfl ⟨by rw [HE.out], ?_⟩
  exact (B5.out.setCell (p := ⟨w.heap.size + 1, 0, none⟩) (by dsimp only; omega) _).setCell (p := ⟨w.heap.size + 1, 1, none⟩) (by dsimp only; omega) _
theorem specSpeedOf_all (x : T4) (w : World) :
    Calls Tryz.prog 19 #[.agg #[.int .i64 x.a, .int .i64 x.b, .int .i64 x.c, .int .i64 x.d]] w fun e w' => e = .returned (.tuple #[.agg #[.int .i64 (speedOf x).1.1, .int .i64 (speedOf x).1.2], .int .i64 (speedOf x).2]) ∧ Below w.heap.size w w' := by
  cases h : okR x
  · exact specSpeedOf_no x w h
  · exact specSpeedOf_any x w h
theorem specGoal_any (x : T4) (t : Int) (b o : Nat) (w : World) (h : RAt w b o x) :
    Calls Tryz.prog 59 #[.pointer (some ⟨b, o, none⟩), .int .i64 t] w fun e w' => e = .returned (.int .i64 (tickCode (okR x) t)) ∧ w = w' := by
  have HV := hide (specOk_any x b o w h)
  clear h
  cases hok : okR x
  · rw [hok] at HV
    clear hok
    go_enter Tryz.func59, Tryz.ntmps59
    go_wp2_with (go_at_call 50; (with_reducible refine (HV.out).mono ?_); rintro e w2 ⟨rfl, rfl⟩)
    go_ret
    exact ⟨rfl, rfl⟩
  · rw [hok] at HV
    clear hok
    by_cases h : 0 ≤ t ∧ t ≤ 1000000
    · have HK := hide (show tickCode true t = 0 by unfold tickCode; rw [inB_t h]; rfl)
      obtain ⟨h1, h2⟩ := h
      go_enter Tryz.func59, Tryz.ntmps59
      go_wp2_with (first | (go_at_call 50; (with_reducible refine (HV.out).mono ?_); rintro e w2 ⟨rfl, rfl⟩) | (go_at_call 86; first | (refine (l00In_t _ _ _ _ (by omega)).mono ?_; rintro e w' ⟨rfl, rfl⟩) | (refine (l00In_f _ _ _ _ (by omega)).mono ?_; rintro e w' ⟨rfl, rfl⟩)))
      go_ret
      exact ⟨ret_i HK.out.symm, rfl⟩
    · have h' : t < 0 ∨ 1000000 < t := by omega
      have HK := hide (show tickCode true t = 2 by unfold tickCode; rw [inB_f h']; rfl)
      clear h
      go_enter Tryz.func59, Tryz.ntmps59
      go_wp2_with (first | (go_at_call 50; (with_reducible refine (HV.out).mono ?_); rintro e w2 ⟨rfl, rfl⟩) | (go_at_call 86; first | (refine (l00In_t _ _ _ _ (by omega)).mono ?_; rintro e w' ⟨rfl, rfl⟩) | (refine (l00In_f _ _ _ _ (by omega)).mono ?_; rintro e w' ⟨rfl, rfl⟩)))
      go_ret
      exact ⟨ret_i HK.out.symm, rfl⟩
set_option maxRecDepth 100000 in
set_option maxHeartbeats 4000000 in
theorem implPressureFor_any (x : T4) (t : Int) (w : World) :
    Calls Tryz.prog 21 #[.agg #[.int .i64 x.a, .int .i64 x.b, .int .i64 x.c, .int .i64 x.d], .int .i64 t] w fun e w' => e = .returned (.tuple #[.int .i64 (pressureFor x t).1, .int .i64 (pressureFor x t).2]) ∧ Below w.heap.size w w' := by
  have X0 := hide (BoxN.new w #[.int .i64 x.a, .int .i64 x.b, .int .i64 x.c, .int .i64 x.d] 44)
  have B0 := hide (show Below w.heap.size w (w.alloc (.cells #[.int .i64 x.a, .int .i64 x.b, .int .i64 x.c, .int .i64 x.d] 44)) from (Below.refl _ _).alloc (Nat.le_refl _) _)
  have HV := hide fun W => implValidRide_any x W
  have HC := hide fun W => implTicksCode_any (okR x) t W
  by_cases hk : tickCode (okR x) t = 0
  case neg =>
    have HE := hide (show pressureFor x t = (0, tickCode (okR x) t) by unfold pressureFor; rw [if_neg hk])
    have hB : (tickCode (okR x) t != 0) = true := by rw [bne_iff_ne]; exact hk
    have HK := hide hk
    clear hk
    generalize tickCode (okR x) t = tc at *
    go_enter Tryz.func21, Tryz.ntmps21
    go_upto_region 1 with fail
    generalize w.alloc (.cells #[.int .i64 x.a, .int .i64 x.b, .int .i64 x.c, .int .i64 x.d] 44) = w1 at *
    have k0 := X0.out.cell 0
    have k1 := X0.out.cell 1
    have k2 := X0.out.cell 2
    have k3 := X0.out.cell 3
    go_wp2_with (first | (go_at_call 32; (with_reducible refine (HV.out _).mono ?_); rintro e w2 ⟨rfl, b2⟩) | (go_at_call 58; (with_reducible refine (HC.out _).mono ?_); rintro e w3 ⟨rfl, rfl⟩))
    go_ret2
    exact ⟨by rw [HE.out]; rfl, B0.out.trans (b2.mono B0.out.size)⟩
  obtain ⟨hok, ht0, ht1⟩ := tickCode_ok hk
  have HE := hide (show pressureFor x t = presGo x t 100 1 by unfold pressureFor; rw [if_pos hk])
  rw [hk] at HC
  have HTK := hide fun (p : Int) (hp : 1 ≤ p ∧ p ≤ 100) => (show okR (setC x p) = true from okR_setC hok hp)
  clear hk hok
  go_enter Tryz.func21, Tryz.ntmps21
  go_upto_region 1 with fail
  generalize w.alloc (.cells #[.int .i64 x.a, .int .i64 x.b, .int .i64 x.c, .int .i64 x.d] 44) = w1 at *
  have k0 := X0.out.cell 0
  have k1 := X0.out.cell 1
  have k2 := X0.out.cell 2
  have k3 := X0.out.cell 3
  go_upto_region 4 with (first | (go_at_call 32; (with_reducible refine (HV.out _).mono ?_); rintro e w2 ⟨rfl, b2⟩) | (go_at_call 58; (with_reducible refine (HC.out _).mono ?_); rintro e w3 ⟨rfl, rfl⟩))
  have hlt := X0.out.lt
  have X2 := hide (X0.out.below b2 hlt)
  have B2 := hide (B0.out.trans (b2.mono B0.out.size))
  clear k0 k1 k2 k3 b2 X0 B0 HV HC hlt
  have m2 : w2.cell? ⟨w.heap.size, 2, none⟩ = some (.int .i64 x.c) := X2.out.cell 2
  have n2 := X2.out.fro 2
  have X3 := hide (show BoxN (w2.setCell ⟨w.heap.size, 2, none⟩ (.int .i64 1)) w.heap.size #[.int .i64 x.a, .int .i64 x.b, .int .i64 1, .int .i64 x.d] 44 from X2.out.set 2 (.int .i64 1))
  have B3 := hide (B2.out.setCell (p := ⟨w.heap.size, 2, none⟩) (Nat.le_refl _) (.int .i64 1))
  go_upto_region 5 with fail
  go_loopg [] 100 (fun g wr => ∃ (n : Nat) (p : Int), n ≤ 100 ∧ Hid (g = n) ∧ (p + (n : Int) ≤ 101 ∧ 101 ≤ p + (n : Int)) ∧ Hid (pressureFor x t = presGo x t n p) ∧ Hid (BoxN wr w.heap.size #[.int .i64 x.a, .int .i64 x.b, .int .i64 p, .int .i64 x.d] 44) ∧ Hid (Below w.heap.size w wr))
  case atStart => exact ⟨100, 1, by omega, rfl, ⟨by decide, by decide⟩, HE, X3, B3⟩
  case round =>
    obtain ⟨n, p, hn, hg, ⟨hp, hp2⟩, HG, HX, HB⟩ := hrel
    clear X3 B3 HE m2 n2
    have k0 : wr.cell? ⟨w.heap.size, 0, none⟩ = some (.int .i64 x.a) := HX.out.cell 0
    have k1 : wr.cell? ⟨w.heap.size, 1, none⟩ = some (.int .i64 x.b) := HX.out.cell 1
    have k2 : wr.cell? ⟨w.heap.size, 2, none⟩ = some (.int .i64 p) := HX.out.cell 2
    have k3 : wr.cell? ⟨w.heap.size, 3, none⟩ = some (.int .i64 x.d) := HX.out.cell 3
    have hxl := HX.out.lt
    cases n with
    | zero =>
      have HR := hide (show pressureFor x t = (0, 3) from HG.out)
      have hD : decide (p ≤ 100) = false := decide_eq_false (by omega)
      go_wp2_with fail
      go_ret2
      exact ⟨by rw [HR.out]; rfl, HB.out⟩
    | succ n =>
      have hD : decide (p ≤ 100) = true := decide_eq_true (by omega)
      have hpp : 1 ≤ p ∧ p ≤ 100 := by omega
      have HT := hide fun W => (show Calls Tryz.prog 49 #[.agg #[.int .i64 x.a, .int .i64 x.b, .int .i64 p, .int .i64 x.d]] W fun e w' => e = .returned (.int .i64 (ticksR (setC x p))) ∧ Below W.heap.size W w' from ticks_any (setC x p) W (HTK.out p hpp))
      have HG2 := hide (show pressureFor x t = if ticksR (setC x p) ≤ t then (p, 0) else presGo x t n (p + 1) from HG.out.trans (by rw [presGo]))
      clear HG
      generalize ticksR (setC x p) = tk at *
      by_cases hc : tk ≤ t
      · have HR := hide (show pressureFor x t = (p, 0) by rw [HG2.out, if_pos hc])
        have hC : decide (tk ≤ t) = true := decide_eq_true hc
        clear HG2 hc
        go_wp2_with (go_at_call 49; (with_reducible refine (HT.out _).mono ?_); rintro e w4 ⟨rfl, b4⟩; have l2 := ((b4.cell (p := ⟨w.heap.size, 2, none⟩) hxl).trans k2))
        go_ret2
        exact ⟨by rw [HR.out]; rfl, HB.out.trans (b4.mono HB.out.size)⟩
      · have HR := hide (show pressureFor x t = presGo x t n (p + 1) by rw [HG2.out, if_neg hc])
        have hC : decide (tk ≤ t) = false := decide_eq_false hc
        have hw : IntKind.i64.wrap (p + 1) = p + 1 := by rw [IntKind.wrap_i64] <;> omega
        clear HG2 hc
        go_upto_region 6 with (go_at_call 49; (with_reducible refine (HT.out _).mono ?_); rintro e w4 ⟨rfl, b4⟩)
        have X4 := hide (HX.out.below b4 hxl)
        have B4 := hide (HB.out.trans (b4.mono HB.out.size))
        clear k0 k1 k2 k3 b4 HX HB HT
        have m2 : w4.cell? ⟨w.heap.size, 2, none⟩ = some (.int .i64 p) := X4.out.cell 2
        have n2 := X4.out.fro 2
        have X5 := hide (show BoxN (w4.setCell ⟨w.heap.size, 2, none⟩ (.int .i64 (p + 1))) w.heap.size #[.int .i64 x.a, .int .i64 x.b, .int .i64 (p + 1), .int .i64 x.d] 44 from X4.out.set 2 (.int .i64 (p + 1)))
        have B5 := hide (B4.out.setCell (p := ⟨w.heap.size, 2, none⟩) (Nat.le_refl _) (.int .i64 (p + 1)))
        go_wp2_with fail
        go_roundg n
        case measure => have := hg.out; omega
        case rel => exact ⟨n, p + 1, by omega, rfl, ⟨by omega, by omega⟩, HR, X5, B5⟩
set_option maxRecDepth 100000 in
set_option maxHeartbeats 4000000 in
theorem specPressureFor_any (x : T4) (t : Int) (w : World) :
    Calls Tryz.prog 22 #[.agg #[.int .i64 x.a, .int .i64 x.b, .int .i64 x.c, .int .i64 x.d], .int .i64 t] w fun e w' => e = .returned (.tuple #[.int .i64 (pressureFor x t).1, .int .i64 (pressureFor x t).2]) ∧ Below w.heap.size w w' := by
  have X0 := hide (BoxN.new w #[.int .i64 x.a, .int .i64 x.b, .int .i64 x.c, .int .i64 x.d] 44)
  have B0 := hide (show Below w.heap.size w (w.alloc (.cells #[.int .i64 x.a, .int .i64 x.b, .int .i64 x.c, .int .i64 x.d] 44)) from (Below.refl _ _).alloc (Nat.le_refl _) _)
  have HC := hide (specGoal_any x t w.heap.size 0 (w.alloc (.cells #[.int .i64 x.a, .int .i64 x.b, .int .i64 x.c, .int .i64 x.d] 44)) ⟨X0.out.cell 0, X0.out.cell 1, X0.out.cell 2, X0.out.cell 3⟩)
  by_cases hk : tickCode (okR x) t = 0
  case neg =>
    have HE := hide (show pressureFor x t = (0, tickCode (okR x) t) by unfold pressureFor; rw [if_neg hk])
    have hB : (tickCode (okR x) t != 0) = true := by rw [bne_iff_ne]; exact hk
    have HK := hide hk
    clear hk
    generalize tickCode (okR x) t = tc at *
    go_enter Tryz.func22, Tryz.ntmps22
    go_upto_region 1 with fail
    generalize w.alloc (.cells #[.int .i64 x.a, .int .i64 x.b, .int .i64 x.c, .int .i64 x.d] 44) = w1 at *
    go_wp2_with (go_at_call 59; (with_reducible refine (HC.out).mono ?_); rintro e w3 ⟨rfl, rfl⟩)
    go_ret2
    exact ⟨by rw [HE.out]; rfl, B0.out⟩
  obtain ⟨hok, ht0, ht1⟩ := tickCode_ok hk
  have HE := hide (show pressureFor x t = presGo x t 100 1 by unfold pressureFor; rw [if_pos hk])
  rw [hk] at HC
  have HTK := hide fun (p : Int) (hp : 1 ≤ p ∧ p ≤ 100) => (show okR (setC x p) = true from okR_setC hok hp)
  clear hk hok
  go_enter Tryz.func22, Tryz.ntmps22
  go_upto_region 1 with fail
  generalize w.alloc (.cells #[.int .i64 x.a, .int .i64 x.b, .int .i64 x.c, .int .i64 x.d] 44) = w1 at *
  go_upto_region 5 with (go_at_call 59; (with_reducible refine (HC.out).mono ?_); rintro e w3 ⟨rfl, rfl⟩)
  clear HC
  go_loopg [7] 100 (fun g pv wr => ∃ (n : Nat) (p : Int), pv = .int .i64 p ∧ n ≤ 100 ∧ Hid (g = n) ∧ (p + (n : Int) ≤ 101 ∧ 101 ≤ p + (n : Int)) ∧ Hid (pressureFor x t = presGo x t n p) ∧ Hid (BoxN wr w.heap.size #[.int .i64 x.a, .int .i64 x.b, .int .i64 x.c, .int .i64 x.d] 44) ∧ Hid (Below w.heap.size w wr))
  case atStart => exact ⟨100, 1, rfl, by omega, rfl, ⟨by decide, by decide⟩, HE, X0, B0⟩
  case round =>
    obtain ⟨n, p, rfl, hn, hg, ⟨hp, hp2⟩, HG, HX, HB⟩ := hrel
    clear X0 B0 HE
    have k0 : wr.cell? ⟨w.heap.size, 0, none⟩ = some (.int .i64 x.a) := HX.out.cell 0
    have k1 : wr.cell? ⟨w.heap.size, 1, none⟩ = some (.int .i64 x.b) := HX.out.cell 1
    have k2 : wr.cell? ⟨w.heap.size, 2, none⟩ = some (.int .i64 x.c) := HX.out.cell 2
    have k3 : wr.cell? ⟨w.heap.size, 3, none⟩ = some (.int .i64 x.d) := HX.out.cell 3
    cases n with
    | zero =>
      have HR := hide (show pressureFor x t = (0, 3) from HG.out)
      have hD : decide (p ≤ 100) = false := decide_eq_false (by omega)
      go_wp2_with fail
      go_ret2
      exact ⟨by rw [HR.out]; rfl, HB.out⟩
    | succ n =>
      have hD : decide (p ≤ 100) = true := decide_eq_true (by omega)
      have hpp : 1 ≤ p ∧ p ≤ 100 := by omega
      have XA := hide (BoxN.new wr #[.int .i64 x.a, .int .i64 x.b, .int .i64 p, .int .i64 x.d] 44)
      have XO := hide (HX.out.alloc (.cells #[.int .i64 x.a, .int .i64 x.b, .int .i64 p, .int .i64 x.d] 44))
      have BO := hide (HB.out.alloc HB.out.size (.cells #[.int .i64 x.a, .int .i64 x.b, .int .i64 p, .int .i64 x.d] 44))
      have HT := hide (specTicks_b (setC x p) wr.heap.size 0 (wr.alloc (.cells #[.int .i64 x.a, .int .i64 x.b, .int .i64 p, .int .i64 x.d] 44)) (HTK.out p hpp) ⟨XA.out.cell 0, XA.out.cell 1, XA.out.cell 2, XA.out.cell 3⟩)
      have HG2 := hide (show pressureFor x t = if ticksR (setC x p) ≤ t then (p, 0) else presGo x t n (p + 1) from HG.out.trans (by rw [presGo]))
      clear HG XA
      generalize ticksR (setC x p) = tk at *
      go_upto_region 9 with fail
      generalize wr.alloc (.cells #[.int .i64 x.a, .int .i64 x.b, .int .i64 p, .int .i64 x.d] 44) = wq at *
      have hxl := XO.out.lt
      by_cases hc : tk ≤ t
      · have HR := hide (show pressureFor x t = (p, 0) by rw [HG2.out, if_pos hc])
        have hC : decide (tk ≤ t) = true := decide_eq_true hc
        clear HG2 hc
        go_wp2_with (go_at_call 51; (with_reducible refine (HT.out).mono ?_); rintro e w4 ⟨rfl, b4⟩)
        go_ret2
        exact ⟨by rw [HR.out]; rfl, BO.out.trans (b4.mono BO.out.size)⟩
      · have HR := hide (show pressureFor x t = presGo x t n (p + 1) by rw [HG2.out, if_neg hc])
        have hC : decide (tk ≤ t) = false := decide_eq_false hc
        have hw : IntKind.i64.wrap (p + 1) = p + 1 := by rw [IntKind.wrap_i64] <;> omega
        clear HG2 hc
        go_wp2_with (go_at_call 51; (with_reducible refine (HT.out).mono ?_); rintro e w4 ⟨rfl, b4⟩)
        go_roundg n
        case measure => have := hg.out; omega
        case rel => exact ⟨n, p + 1, rfl, by omega, rfl, ⟨by omega, by omega⟩, HR, hide (XO.out.below b4 hxl), hide (BO.out.trans (b4.mono BO.out.size))⟩
set_option maxRecDepth 100000 in
set_option maxHeartbeats 4000000 in
theorem implHeaviestFor_any (x : T4) (t : Int) (w : World) :
    Calls Tryz.prog 24 #[.agg #[.int .i64 x.a, .int .i64 x.b, .int .i64 x.c, .int .i64 x.d], .int .i64 t] w fun e w' => e = .returned (.tuple #[.int .i64 (heaviestFor x t).1, .int .i64 (heaviestFor x t).2]) ∧ Below w.heap.size w w' := by
  have X0 := hide (BoxN.new w #[.int .i64 x.a, .int .i64 x.b, .int .i64 x.c, .int .i64 x.d] 44)
  have B0 := hide (show Below w.heap.size w (w.alloc (.cells #[.int .i64 x.a, .int .i64 x.b, .int .i64 x.c, .int .i64 x.d] 44)) from (Below.refl _ _).alloc (Nat.le_refl _) _)
  have HV := hide fun W => implValidRide_any x W
  have HC := hide fun W => implTicksCode_any (okR x) t W
  by_cases hk : tickCode (okR x) t = 0
  case neg =>
    have HE := hide (show heaviestFor x t = (0, tickCode (okR x) t) by unfold heaviestFor; rw [if_neg hk])
    have hB : (tickCode (okR x) t != 0) = true := by rw [bne_iff_ne]; exact hk
    have HK := hide hk
    clear hk
    generalize tickCode (okR x) t = tc at *
    go_enter Tryz.func24, Tryz.ntmps24
    go_upto_region 1 with fail
    generalize w.alloc (.cells #[.int .i64 x.a, .int .i64 x.b, .int .i64 x.c, .int .i64 x.d] 44) = w1 at *
    have k0 := X0.out.cell 0
    have k1 := X0.out.cell 1
    have k2 := X0.out.cell 2
    have k3 := X0.out.cell 3
    go_wp2_with (first | (go_at_call 32; (with_reducible refine (HV.out _).mono ?_); rintro e w2 ⟨rfl, b2⟩) | (go_at_call 58; (with_reducible refine (HC.out _).mono ?_); rintro e w3 ⟨rfl, rfl⟩))
    go_ret2
    exact ⟨by rw [HE.out]; rfl, B0.out.trans (b2.mono B0.out.size)⟩
  obtain ⟨hok, ht0, ht1⟩ := tickCode_ok hk
  have HE := hide (show heaviestFor x t = heavGo x t 501 by unfold heaviestFor; rw [if_pos hk])
  rw [hk] at HC
  have HTK := hide fun (p : Int) (hp : 0 ≤ p ∧ p ≤ 500) => (show okR (setB4 x p) = true from okR_setB hok hp)
  clear hk hok
  go_enter Tryz.func24, Tryz.ntmps24
  go_upto_region 1 with fail
  generalize w.alloc (.cells #[.int .i64 x.a, .int .i64 x.b, .int .i64 x.c, .int .i64 x.d] 44) = w1 at *
  have k0 := X0.out.cell 0
  have k1 := X0.out.cell 1
  have k2 := X0.out.cell 2
  have k3 := X0.out.cell 3
  go_upto_region 4 with (first | (go_at_call 32; (with_reducible refine (HV.out _).mono ?_); rintro e w2 ⟨rfl, b2⟩) | (go_at_call 58; (with_reducible refine (HC.out _).mono ?_); rintro e w3 ⟨rfl, rfl⟩))
  have hlt := X0.out.lt
  have X2 := hide (X0.out.below b2 hlt)
  have B2 := hide (B0.out.trans (b2.mono B0.out.size))
  clear k0 k1 k2 k3 b2 X0 B0 HV HC hlt
  have m1 : w2.cell? ⟨w.heap.size, 1, none⟩ = some (.int .i64 x.b) := X2.out.cell 1
  have n1 := X2.out.fro 1
  have X3 := hide (show BoxN (w2.setCell ⟨w.heap.size, 1, none⟩ (.int .i64 500)) w.heap.size #[.int .i64 x.a, .int .i64 500, .int .i64 x.c, .int .i64 x.d] 44 from X2.out.set 1 (.int .i64 500))
  have B3 := hide (B2.out.setCell (p := ⟨w.heap.size, 1, none⟩) (Nat.le_refl _) (.int .i64 500))
  go_upto_region 5 with fail
  go_loopg [] 501 (fun g wr => ∃ (n : Nat) (p : Int), n ≤ 501 ∧ Hid (g = n) ∧ (p + 1 ≤ (n : Int) ∧ (n : Int) ≤ p + 1) ∧ Hid (heaviestFor x t = heavGo x t n) ∧ Hid (BoxN wr w.heap.size #[.int .i64 x.a, .int .i64 p, .int .i64 x.c, .int .i64 x.d] 44) ∧ Hid (Below w.heap.size w wr))
  case atStart => exact ⟨501, 500, by omega, rfl, ⟨by decide, by decide⟩, HE, X3, B3⟩
  case round =>
    obtain ⟨n, p, hn, hg, ⟨hp, hp2⟩, HG, HX, HB⟩ := hrel
    clear X3 B3 HE m1 n1
    have k0 : wr.cell? ⟨w.heap.size, 0, none⟩ = some (.int .i64 x.a) := HX.out.cell 0
    have k1 : wr.cell? ⟨w.heap.size, 1, none⟩ = some (.int .i64 p) := HX.out.cell 1
    have k2 : wr.cell? ⟨w.heap.size, 2, none⟩ = some (.int .i64 x.c) := HX.out.cell 2
    have k3 : wr.cell? ⟨w.heap.size, 3, none⟩ = some (.int .i64 x.d) := HX.out.cell 3
    have hxl := HX.out.lt
    cases n with
    | zero =>
      have HR := hide (show heaviestFor x t = (0, 3) from HG.out)
      have hD : decide (0 ≤ p) = false := decide_eq_false (by omega)
      go_wp2_with fail
      go_ret2
      exact ⟨by rw [HR.out]; rfl, HB.out⟩
    | succ n =>
      have hD : decide (0 ≤ p) = true := decide_eq_true (by omega)
      have hpp : 0 ≤ p ∧ p ≤ 500 := by omega
      have HT := hide fun W => (show Calls Tryz.prog 49 #[.agg #[.int .i64 x.a, .int .i64 p, .int .i64 x.c, .int .i64 x.d]] W fun e w' => e = .returned (.int .i64 (ticksR (setB4 x p))) ∧ Below W.heap.size W w' from ticks_any (setB4 x p) W (HTK.out p hpp))
      have HG2 := hide (show heaviestFor x t = if ticksR (setB4 x p) ≤ t then (p, 0) else heavGo x t n from HG.out.trans (by rw [heavGo]; rw [show (n : Int) = p by omega]))
      clear HG
      generalize ticksR (setB4 x p) = tk at *
      by_cases hc : tk ≤ t
      · have HR := hide (show heaviestFor x t = (p, 0) by rw [HG2.out, if_pos hc])
        have hC : decide (tk ≤ t) = true := decide_eq_true hc
        clear HG2 hc
        go_wp2_with (go_at_call 49; (with_reducible refine (HT.out _).mono ?_); rintro e w4 ⟨rfl, b4⟩; have l1 := ((b4.cell (p := ⟨w.heap.size, 1, none⟩) hxl).trans k1))
        go_ret2
        exact ⟨by rw [HR.out]; rfl, HB.out.trans (b4.mono HB.out.size)⟩
      · have HR := hide (show heaviestFor x t = heavGo x t n by rw [HG2.out, if_neg hc])
        have hC : decide (tk ≤ t) = false := decide_eq_false hc
        have hw : IntKind.i64.wrap (p - 1) = p - 1 := by rw [IntKind.wrap_i64] <;> omega
        clear HG2 hc
        go_upto_region 6 with (go_at_call 49; (with_reducible refine (HT.out _).mono ?_); rintro e w4 ⟨rfl, b4⟩)
        have X4 := hide (HX.out.below b4 hxl)
        have B4 := hide (HB.out.trans (b4.mono HB.out.size))
        clear k0 k1 k2 k3 b4 HX HB HT
        have m1 : w4.cell? ⟨w.heap.size, 1, none⟩ = some (.int .i64 p) := X4.out.cell 1
        have n1 := X4.out.fro 1
        have X5 := hide (show BoxN (w4.setCell ⟨w.heap.size, 1, none⟩ (.int .i64 (p - 1))) w.heap.size #[.int .i64 x.a, .int .i64 (p - 1), .int .i64 x.c, .int .i64 x.d] 44 from X4.out.set 1 (.int .i64 (p - 1)))
        have B5 := hide (B4.out.setCell (p := ⟨w.heap.size, 1, none⟩) (Nat.le_refl _) (.int .i64 (p - 1)))
        go_wp2_with fail
        go_roundg n
        case measure => have := hg.out; omega
        case rel => exact ⟨n, p - 1, by omega, rfl, ⟨by omega, by omega⟩, HR, X5, B5⟩
set_option maxRecDepth 100000 in
set_option maxHeartbeats 4000000 in
theorem specHeaviestFor_any (x : T4) (t : Int) (w : World) :
    Calls Tryz.prog 25 #[.agg #[.int .i64 x.a, .int .i64 x.b, .int .i64 x.c, .int .i64 x.d], .int .i64 t] w fun e w' => e = .returned (.tuple #[.int .i64 (heaviestFor x t).1, .int .i64 (heaviestFor x t).2]) ∧ Below w.heap.size w w' := by
  have X0 := hide (BoxN.new w #[.int .i64 x.a, .int .i64 x.b, .int .i64 x.c, .int .i64 x.d] 44)
  have B0 := hide (show Below w.heap.size w (w.alloc (.cells #[.int .i64 x.a, .int .i64 x.b, .int .i64 x.c, .int .i64 x.d] 44)) from (Below.refl _ _).alloc (Nat.le_refl _) _)
  have HC := hide (specGoal_any x t w.heap.size 0 (w.alloc (.cells #[.int .i64 x.a, .int .i64 x.b, .int .i64 x.c, .int .i64 x.d] 44)) ⟨X0.out.cell 0, X0.out.cell 1, X0.out.cell 2, X0.out.cell 3⟩)
  by_cases hk : tickCode (okR x) t = 0
  case neg =>
    have HE := hide (show heaviestFor x t = (0, tickCode (okR x) t) by unfold heaviestFor; rw [if_neg hk])
    have hB : (tickCode (okR x) t != 0) = true := by rw [bne_iff_ne]; exact hk
    have HK := hide hk
    clear hk
    generalize tickCode (okR x) t = tc at *
    go_enter Tryz.func25, Tryz.ntmps25
    go_upto_region 1 with fail
    generalize w.alloc (.cells #[.int .i64 x.a, .int .i64 x.b, .int .i64 x.c, .int .i64 x.d] 44) = w1 at *
    go_wp2_with (go_at_call 59; (with_reducible refine (HC.out).mono ?_); rintro e w3 ⟨rfl, rfl⟩)
    go_ret2
    exact ⟨by rw [HE.out]; rfl, B0.out⟩
  obtain ⟨hok, ht0, ht1⟩ := tickCode_ok hk
  have HE := hide (show heaviestFor x t = heavGo x t 501 by unfold heaviestFor; rw [if_pos hk])
  rw [hk] at HC
  have HTK := hide fun (p : Int) (hp : 0 ≤ p ∧ p ≤ 500) => (show okR (setB4 x p) = true from okR_setB hok hp)
  clear hk hok
  go_enter Tryz.func25, Tryz.ntmps25
  go_upto_region 1 with fail
  generalize w.alloc (.cells #[.int .i64 x.a, .int .i64 x.b, .int .i64 x.c, .int .i64 x.d] 44) = w1 at *
  go_upto_region 5 with (go_at_call 59; (with_reducible refine (HC.out).mono ?_); rintro e w3 ⟨rfl, rfl⟩)
  clear HC
  go_loopg [7] 501 (fun g pv wr => ∃ (n : Nat) (p : Int), pv = .int .i64 p ∧ n ≤ 501 ∧ Hid (g = n) ∧ (p + 1 ≤ (n : Int) ∧ (n : Int) ≤ p + 1) ∧ Hid (heaviestFor x t = heavGo x t n) ∧ Hid (BoxN wr w.heap.size #[.int .i64 x.a, .int .i64 x.b, .int .i64 x.c, .int .i64 x.d] 44) ∧ Hid (Below w.heap.size w wr))
  case atStart => exact ⟨501, 500, rfl, by omega, rfl, ⟨by decide, by decide⟩, HE, X0, B0⟩
  case round =>
    obtain ⟨n, p, rfl, hn, hg, ⟨hp, hp2⟩, HG, HX, HB⟩ := hrel
    clear X0 B0 HE
    have k0 : wr.cell? ⟨w.heap.size, 0, none⟩ = some (.int .i64 x.a) := HX.out.cell 0
    have k1 : wr.cell? ⟨w.heap.size, 1, none⟩ = some (.int .i64 x.b) := HX.out.cell 1
    have k2 : wr.cell? ⟨w.heap.size, 2, none⟩ = some (.int .i64 x.c) := HX.out.cell 2
    have k3 : wr.cell? ⟨w.heap.size, 3, none⟩ = some (.int .i64 x.d) := HX.out.cell 3
    cases n with
    | zero =>
      have HR := hide (show heaviestFor x t = (0, 3) from HG.out)
      have hD : decide (0 ≤ p) = false := decide_eq_false (by omega)
      go_wp2_with fail
      go_ret2
      exact ⟨by rw [HR.out]; rfl, HB.out⟩
    | succ n =>
      have hD : decide (0 ≤ p) = true := decide_eq_true (by omega)
      have hpp : 0 ≤ p ∧ p ≤ 500 := by omega
      have XA := hide (BoxN.new wr #[.int .i64 x.a, .int .i64 p, .int .i64 x.c, .int .i64 x.d] 44)
      have XO := hide (HX.out.alloc (.cells #[.int .i64 x.a, .int .i64 p, .int .i64 x.c, .int .i64 x.d] 44))
      have BO := hide (HB.out.alloc HB.out.size (.cells #[.int .i64 x.a, .int .i64 p, .int .i64 x.c, .int .i64 x.d] 44))
      have HT := hide (specTicks_b (setB4 x p) wr.heap.size 0 (wr.alloc (.cells #[.int .i64 x.a, .int .i64 p, .int .i64 x.c, .int .i64 x.d] 44)) (HTK.out p hpp) ⟨XA.out.cell 0, XA.out.cell 1, XA.out.cell 2, XA.out.cell 3⟩)
      have HG2 := hide (show heaviestFor x t = if ticksR (setB4 x p) ≤ t then (p, 0) else heavGo x t n from HG.out.trans (by rw [heavGo]; rw [show (n : Int) = p by omega]))
      clear HG XA
      generalize ticksR (setB4 x p) = tk at *
      go_upto_region 9 with fail
      generalize wr.alloc (.cells #[.int .i64 x.a, .int .i64 p, .int .i64 x.c, .int .i64 x.d] 44) = wq at *
      have hxl := XO.out.lt
      by_cases hc : tk ≤ t
      · have HR := hide (show heaviestFor x t = (p, 0) by rw [HG2.out, if_pos hc])
        have hC : decide (tk ≤ t) = true := decide_eq_true hc
        clear HG2 hc
        go_wp2_with (go_at_call 51; (with_reducible refine (HT.out).mono ?_); rintro e w4 ⟨rfl, b4⟩)
        go_ret2
        exact ⟨by rw [HR.out]; rfl, BO.out.trans (b4.mono BO.out.size)⟩
      · have HR := hide (show heaviestFor x t = heavGo x t n by rw [HG2.out, if_neg hc])
        have hC : decide (tk ≤ t) = false := decide_eq_false hc
        have hw : IntKind.i64.wrap (p - 1) = p - 1 := by rw [IntKind.wrap_i64] <;> omega
        clear HG2 hc
        go_wp2_with (go_at_call 51; (with_reducible refine (HT.out).mono ?_); rintro e w4 ⟨rfl, b4⟩)
        go_roundg n
        case measure => have := hg.out; omega
        case rel => exact ⟨n, p - 1, rfl, by omega, rfl, ⟨by omega, by omega⟩, HR, hide (XO.out.below b4 hxl), hide (BO.out.trans (b4.mono BO.out.size))⟩
end Go.Proofs.YtaajkmjilcamgaaGreatDoor
namespace Go.Proofs.YtaajkmjilcamgaaGreatDoor
open Go.RowKit

theorem f6big_any (A : Option Addr) (n c : Nat) (w : World) (hn : n ≤ 4096) :
    Calls Tryz.prog 14 #[.slice A n c] w fun e w' => e = .returned (.bool false) ∧ w = w' := by
  have hD : decide ((4096 : Int) < (n : Int)) = false := decide_eq_false (by omega)
  go_enter Tryz.func14, Tryz.ntmps14
  go_wp2_with fail
  go_ret
  exact ⟨rfl, rfl⟩
theorem below_src' {w w1 w2 : World} (h : Below w.heap.size w w1) (k : Only w.heap.size (w.heap.size + 1) w1 w2) : Below w.heap.size w w2 := h.trans (k.below (Nat.le_refl _) h.size)
end Go.Proofs.YtaajkmjilcamgaaGreatDoor
