/-
  Drawn wishes.
  A drawn move.
  Drawn rides. Printed by gen_plai.py.
-/
import Derived.Test.YtaajkmjilcamgaaGreatDoorQRides9
import Derived.Test.YtaajkmjilcamgaaGreatDoorQRides13
import Derived.Test.YtaajkmjilcamgaaGreatDoorQRides5
import Derived.Test.YtaajkmjilcamgaaGreatDoorQRides4
import Derived.Deep.DeepCutAuto
import Derived.Deep.RegionHeld3
namespace Go.Proofs.YtaajkmjilcamgaaGreatDoor
open Go.RowKit

theorem BoxN.only {w w' : World} {b lo hi : Nat} {cs : Array Value} {e : TypeId} (h : BoxN w b cs e) (k : Only lo hi w w') (hd : b < lo ∨ hi ≤ b) : BoxN w' b cs e := (k.2.2.2.2 b h.lt hd).trans h
theorem only_setNew {lo hi : Nat} {w0 w : World} (h : Only lo hi w0 w) (a : Addr) (v : Value) (hB : w0.heap.size ≤ a.block) : Only lo hi w0 (w.setCell a v) :=
  ⟨h.1, h.2.1, h.2.2.1, by have := h.size; simpa [World.setCell] using this, fun k hk ho => (Below.heap_setCell _ _ _ _ (by omega)).trans (h.2.2.2.2 k hk ho)⟩
theorem grown_setCell (w : World) (a : Addr) (v : Value) : w.grownBy (w.setCell a v) (some a.block) :=
  ⟨rfl, rfl, rfl, by simp [World.setCell], fun k _ hn => Below.heap_setCell _ _ _ _ (fun e => hn (by rw [e]))⟩
theorem SrcAt.set {b : Nat} {bs : List Int} {N : Int} {W : World} (h : SrcAt b bs N W) (a : Addr) (v : Value) (hb : b < a.block) : SrcAt b bs N (W.setCell a v) :=
  h.below (B := b + 1) ⟨rfl, rfl, rfl, by simp [World.setCell], fun k hk => Below.heap_setCell _ _ _ _ (by omega)⟩ (Nat.lt_succ_self b)
/-- A drawn wish, for n tubes. -/
def WDrawn (n : Nat) (e : TN) : Prop := ((1 ≤ e.way.length ∧ e.way.length ≤ 4) ∧ ∀ z ∈ e.way, 0 ≤ z ∧ z ≤ (n : Int) - 1) ∧ (0 ≤ e.p ∧ e.p ≤ 19) ∧ (0 ≤ e.q ∧ e.q ≤ 78)
end Go.Proofs.YtaajkmjilcamgaaGreatDoor
namespace Go.Proofs.YtaajkmjilcamgaaGreatDoor
open Go.RowKit
end Go.Proofs.YtaajkmjilcamgaaGreatDoor
namespace Go.Proofs.YtaajkmjilcamgaaGreatDoor
open Go.RowKit
theorem only_in {lo hi : Nat} {w w1 : World} {a : Addr} {v : Value} (h : Only lo hi w w1) (hb : w.heap.size ≤ a.block) : Only lo hi w (w1.setCell a v) := only_setNew h a v hb
set_option maxRecDepth 100000 in
set_option maxHeartbeats 4000000 in
theorem newRideOk_any (b : Nat) (bs : List Int) (N : Int) (w : World) (hbs : BsOk bs) (hN : N ≤ 1099510000000) (h : SrcAt b bs N w) :
    Calls Tryz.prog 61 #[.pointer (some ⟨b, 0, none⟩)] w fun e w' => ∃ x : T4, e = .returned (.agg #[.int .i64 x.a, .int .i64 x.b, .int .i64 x.c, .int .i64 x.d]) ∧ SrcAt b bs (N + 10) w' ∧ Only b (b + 1) w w' ∧ okR x = true := by
  have hbl := h.lt
  have HP := hide fun M n W (hM : M ≤ 1099511000000) (hW : SrcAt b bs M W) => pick_any b bs M n W hbs hM hW
  have X0 := hide (BoxN.new w #[.int .i64 0, .int .i64 0, .int .i64 0, .int .i64 0] 44)
  have S0 := hide (h.alloc (.cells #[.int .i64 0, .int .i64 0, .int .i64 0, .int .i64 0] 44))
  have O0 : Hid (Only b (b + 1) w (w.alloc (.cells #[.int .i64 0, .int .i64 0, .int .i64 0, .int .i64 0] 44))) := only_of_below ((Below.refl _ _).alloc (Nat.le_refl _) _)
  have z0 : w.heap.size + 1 ≤ (w.alloc (.cells #[.int .i64 0, .int .i64 0, .int .i64 0, .int .i64 0] 44)).heap.size := by simp
  clear h
  go_enter Tryz.func61, Tryz.ntmps61
  go_upto_region 1 with fail
  generalize w.alloc (.cells #[.int .i64 0, .int .i64 0, .int .i64 0, .int .i64 0] 44) = w0 at *
  have C0 := hide (HP.out N 60 w0 (by omega) S0.out)
  go_upto_region 2 with (go_at_call 68; (with_reducible refine (C0.out).mono ?_); rintro e w1 ⟨z, rfl, ⟨hz0, hz1', _⟩, hs1, ho1⟩; have hz1 := hz1' (by omega); have X1 := hide (X0.out.only ho1 (.inr (by omega))); have z1 := ho1.size; have O1 := hide (only_trans O0.out ho1); have S1 := hide hs1; clear hs1 ho1 C0 X0 S0 O0 hz1')
  have e1 : (10 : Int) + 5 * z = 10 + 5 * z := rfl
  have X2 := hide (X1.out.alloc (.cells #[.int .i64 (10 + 5 * z), .int .i64 0, .int .i64 0, .int .i64 0] 44))
  have Y2 := hide (BoxN.new w1 #[.int .i64 (10 + 5 * z), .int .i64 0, .int .i64 0, .int .i64 0] 44)
  have S2 := hide (S1.out.alloc (.cells #[.int .i64 (10 + 5 * z), .int .i64 0, .int .i64 0, .int .i64 0] 44))
  have O2 := hide (only_alloc O1.out (.cells #[.int .i64 (10 + 5 * z), .int .i64 0, .int .i64 0, .int .i64 0] 44))
  have z2 : w1.heap.size + 1 ≤ (w1.alloc (.cells #[.int .i64 (10 + 5 * z), .int .i64 0, .int .i64 0, .int .i64 0] 44)).heap.size := by simp
  have zz : w.heap.size < w1.heap.size := by omega
  clear X1 S1 O1 e1
  generalize hgt : w1.heap.size = gt at *
  generalize w1.alloc (.cells #[.int .i64 (10 + 5 * z), .int .i64 0, .int .i64 0, .int .i64 0] 44) = w2 at *
  clear hgt
  obtain ⟨a0, ha0⟩ : ∃ a0, a0 = 10 + 5 * z := ⟨_, rfl⟩
  rw [← ha0] at Y2
  have HA0 := hide (show 1 ≤ a0 ∧ a0 ≤ 2000 by omega)
  clear ha0
  have C1 := hide (HP.out (N + 2) 40 w2 (by omega) (S2.out.more (by omega)))
  go_upto_region 3 with (go_at_call 68; (with_reducible refine (C1.out).mono ?_); rintro e u1_ ⟨p1, rfl, ⟨hp1a, hp1b', _⟩, hs1, ho1⟩; have hp1b := hp1b' (by omega); have XX1 := hide (X2.out.only ho1 (.inr (by omega))); have YY1 := hide (Y2.out.only ho1 (.inr (by omega))); have OO1 := hide (only_trans O2.out ho1); have SS1 := hide hs1; have zs1 := ho1.size; have mm1 : u1_.cell? ⟨gt, 1, none⟩ = some (.int .i64 0) := YY1.out.cell 1; have ff1 := YY1.out.fro 1; clear hs1 ho1 C1 X2 Y2 S2 O2 hp1b')
  have XN1 := hide (XX1.out.other (b' := gt) (by omega) 1 (.int .i64 (10 * p1)))
  have YN1 : Hid (BoxN (u1_.setCell ⟨gt, 1, none⟩ (.int .i64 (10 * p1))) gt #[.int .i64 a0, .int .i64 (10 * p1), .int .i64 0, .int .i64 0] 44) := hide (YY1.out.set 1 (.int .i64 (10 * p1)))
  have SN1 := hide (SS1.out.set ⟨gt, 1, none⟩ (.int .i64 (10 * p1)) (by dsimp only; omega))
  have ON1 := hide (only_in (a := ⟨gt, 1, none⟩) (v := .int .i64 (10 * p1)) OO1.out (by dsimp only; omega))
  have zn1 : gt + 1 ≤ (u1_.setCell ⟨gt, 1, none⟩ (.int .i64 (10 * p1))).heap.size := by simp [World.setCell]; omega
  clear XX1 YY1 SS1 OO1 mm1 ff1
  generalize u1_.setCell ⟨gt, 1, none⟩ (.int .i64 (10 * p1)) = v1 at *
  clear zs1
  obtain ⟨b1, hb1⟩ : ∃ q, q = 10 * p1 := ⟨_, rfl⟩
  rw [← hb1] at YN1
  have HB1 := hide (show 0 ≤ b1 ∧ b1 ≤ 500 by omega)
  clear hb1
  have C2 := hide (HP.out (N + 4) 30 v1 (by omega) (SN1.out.more (by omega)))
  go_upto_region 4 with (go_at_call 68; (with_reducible refine (C2.out).mono ?_); rintro e u2_ ⟨p2, rfl, ⟨hp2a, hp2b', _⟩, hs2, ho2⟩; have hp2b := hp2b' (by omega); have XX2 := hide (XN1.out.only ho2 (.inr (by omega))); have YY2 := hide (YN1.out.only ho2 (.inr (by omega))); have OO2 := hide (only_trans ON1.out ho2); have SS2 := hide hs2; have zs2 := ho2.size; have mm2 : u2_.cell? ⟨gt, 2, none⟩ = some (.int .i64 0) := YY2.out.cell 2; have ff2 := YY2.out.fro 2; clear hs2 ho2 C2 XN1 YN1 SN1 ON1 hp2b')
  have XN2 := hide (XX2.out.other (b' := gt) (by omega) 2 (.int .i64 (1 + p2)))
  have YN2 : Hid (BoxN (u2_.setCell ⟨gt, 2, none⟩ (.int .i64 (1 + p2))) gt #[.int .i64 a0, .int .i64 b1, .int .i64 (1 + p2), .int .i64 0] 44) := hide (YY2.out.set 2 (.int .i64 (1 + p2)))
  have SN2 := hide (SS2.out.set ⟨gt, 2, none⟩ (.int .i64 (1 + p2)) (by dsimp only; omega))
  have ON2 := hide (only_in (a := ⟨gt, 2, none⟩) (v := .int .i64 (1 + p2)) OO2.out (by dsimp only; omega))
  have zn2 : gt + 1 ≤ (u2_.setCell ⟨gt, 2, none⟩ (.int .i64 (1 + p2))).heap.size := by simp [World.setCell]; omega
  clear XX2 YY2 SS2 OO2 mm2 ff2
  generalize u2_.setCell ⟨gt, 2, none⟩ (.int .i64 (1 + p2)) = v2 at *
  clear zs2
  obtain ⟨b2, hb2⟩ : ∃ q, q = 1 + p2 := ⟨_, rfl⟩
  rw [← hb2] at YN2
  have HB2 := hide (show 1 ≤ b2 ∧ b2 ≤ 100 by omega)
  clear hb2
  have C3 := hide (HP.out (N + 6) 9 v2 (by omega) (SN2.out.more (by omega)))
  go_upto_region 5 with (go_at_call 68; (with_reducible refine (C3.out).mono ?_); rintro e u3_ ⟨p3, rfl, ⟨hp3a, hp3b', _⟩, hs3, ho3⟩; have hp3b := hp3b' (by omega); have XX3 := hide (XN2.out.only ho3 (.inr (by omega))); have YY3 := hide (YN2.out.only ho3 (.inr (by omega))); have OO3 := hide (only_trans ON2.out ho3); have SS3 := hide hs3; have zs3 := ho3.size; have mm3 : u3_.cell? ⟨gt, 3, none⟩ = some (.int .i64 0) := YY3.out.cell 3; have ff3 := YY3.out.fro 3; clear hs3 ho3 C3 XN2 YN2 SN2 ON2 hp3b')
  have XN3 := hide (XX3.out.other (b' := gt) (by omega) 3 (.int .i64 (p3)))
  have YN3 : Hid (BoxN (u3_.setCell ⟨gt, 3, none⟩ (.int .i64 (p3))) gt #[.int .i64 a0, .int .i64 b1, .int .i64 b2, .int .i64 (p3)] 44) := hide (YY3.out.set 3 (.int .i64 (p3)))
  have SN3 := hide (SS3.out.set ⟨gt, 3, none⟩ (.int .i64 (p3)) (by dsimp only; omega))
  have ON3 := hide (only_in (a := ⟨gt, 3, none⟩) (v := .int .i64 (p3)) OO3.out (by dsimp only; omega))
  have zn3 : gt + 1 ≤ (u3_.setCell ⟨gt, 3, none⟩ (.int .i64 (p3))).heap.size := by simp [World.setCell]; omega
  clear XX3 YY3 SS3 OO3 mm3 ff3
  generalize u3_.setCell ⟨gt, 3, none⟩ (.int .i64 (p3)) = v3 at *
  clear zs3
  obtain ⟨b3, hb3⟩ : ∃ q, q = p3 := ⟨_, rfl⟩
  rw [← hb3] at YN3
  have HB3 := hide (show 0 ≤ b3 ∧ b3 ≤ 40 by omega)
  clear hb3
  have y0 : v3.cell? ⟨gt, 0, none⟩ = some (.int .i64 a0) := YN3.out.cell 0
  have y1 : v3.cell? ⟨gt, 1, none⟩ = some (.int .i64 b1) := YN3.out.cell 1
  have y2 : v3.cell? ⟨gt, 2, none⟩ = some (.int .i64 b2) := YN3.out.cell 2
  have y3 : v3.cell? ⟨gt, 3, none⟩ = some (.int .i64 b3) := YN3.out.cell 3
  have m0 : v3.cell? ⟨w.heap.size, 0, none⟩ = some (.int .i64 0) := XN3.out.cell 0
  have n0 := XN3.out.fro 0
  have T0 := hide (XN3.out.set 0 (.int .i64 a0))
  have m1 : (v3.setCell ⟨w.heap.size, 0, none⟩ (.int .i64 a0)).cell? ⟨w.heap.size, 1, none⟩ = some (.int .i64 0) := T0.out.cell 1
  have n1 := T0.out.fro 1
  have T1 := hide (T0.out.set 1 (.int .i64 b1))
  have m2 : ((v3.setCell ⟨w.heap.size, 0, none⟩ (.int .i64 a0)).setCell ⟨w.heap.size, 1, none⟩ (.int .i64 b1)).cell? ⟨w.heap.size, 2, none⟩ = some (.int .i64 0) := T1.out.cell 2
  have n2 := T1.out.fro 2
  have T2 := hide (T1.out.set 2 (.int .i64 b2))
  have m3 : (((v3.setCell ⟨w.heap.size, 0, none⟩ (.int .i64 a0)).setCell ⟨w.heap.size, 1, none⟩ (.int .i64 b1)).setCell ⟨w.heap.size, 2, none⟩ (.int .i64 b2)).cell? ⟨w.heap.size, 3, none⟩ = some (.int .i64 0) := T2.out.cell 3
  have n3 := T2.out.fro 3
  have T3 := hide (T2.out.set 3 (.int .i64 b3))
  go_wp2_with fail
  have q0 : ((((v3.setCell ⟨w.heap.size, 0, none⟩ (.int .i64 a0)).setCell ⟨w.heap.size, 1, none⟩ (.int .i64 b1)).setCell ⟨w.heap.size, 2, none⟩ (.int .i64 b2)).setCell ⟨w.heap.size, 3, none⟩ (.int .i64 b3)).cell? ⟨w.heap.size, 0, none⟩ = some (.int .i64 a0) := T3.out.cell 0
  have q1 : ((((v3.setCell ⟨w.heap.size, 0, none⟩ (.int .i64 a0)).setCell ⟨w.heap.size, 1, none⟩ (.int .i64 b1)).setCell ⟨w.heap.size, 2, none⟩ (.int .i64 b2)).setCell ⟨w.heap.size, 3, none⟩ (.int .i64 b3)).cell? ⟨w.heap.size, 1, none⟩ = some (.int .i64 b1) := T3.out.cell 1
  have q2 : ((((v3.setCell ⟨w.heap.size, 0, none⟩ (.int .i64 a0)).setCell ⟨w.heap.size, 1, none⟩ (.int .i64 b1)).setCell ⟨w.heap.size, 2, none⟩ (.int .i64 b2)).setCell ⟨w.heap.size, 3, none⟩ (.int .i64 b3)).cell? ⟨w.heap.size, 2, none⟩ = some (.int .i64 b2) := T3.out.cell 2
  have q3 : ((((v3.setCell ⟨w.heap.size, 0, none⟩ (.int .i64 a0)).setCell ⟨w.heap.size, 1, none⟩ (.int .i64 b1)).setCell ⟨w.heap.size, 2, none⟩ (.int .i64 b2)).setCell ⟨w.heap.size, 3, none⟩ (.int .i64 b3)).cell? ⟨w.heap.size, 3, none⟩ = some (.int .i64 b3) := T3.out.cell 3
  refine bodyPost_ret (v := .agg #[.int .i64 a0, .int .i64 b1, .int .i64 b2, .int .i64 b3]) (by simp [results, Tryz.results61, go_sem, q0, q1, q2, q3]) rfl ⟨⟨a0, b1, b2, b3⟩, rfl, ?_, ?_, okR_iff.2 ⟨HA0.out, HB1.out, HB2.out, HB3.out⟩⟩
  · exact ((((SN3.out.set ⟨w.heap.size, 0, none⟩ (.int .i64 a0) (by dsimp only; omega)).set ⟨w.heap.size, 1, none⟩ (.int .i64 b1) (by dsimp only; omega)).set ⟨w.heap.size, 2, none⟩ (.int .i64 b2) (by dsimp only; omega)).set ⟨w.heap.size, 3, none⟩ (.int .i64 b3) (by dsimp only; omega)).more (by omega)
  · exact (only_in (a := ⟨w.heap.size, 3, none⟩) (v := .int .i64 b3) (only_in (a := ⟨w.heap.size, 2, none⟩) (v := .int .i64 b2) (only_in (a := ⟨w.heap.size, 1, none⟩) (v := .int .i64 b1) (only_in (a := ⟨w.heap.size, 0, none⟩) (v := .int .i64 a0) ON3.out (Nat.le_refl _)) (Nat.le_refl _)) (Nat.le_refl _)) (Nat.le_refl _))
theorem newRide_any (b : Nat) (bs : List Int) (N : Int) (w : World) (hbs : BsOk bs) (hN : N ≤ 1099510000000) (h : SrcAt b bs N w) :
    Calls Tryz.prog 61 #[.pointer (some ⟨b, 0, none⟩)] w fun e w' => ∃ x : T4, e = .returned (.agg #[.int .i64 x.a, .int .i64 x.b, .int .i64 x.c, .int .i64 x.d]) ∧ SrcAt b bs (N + 10) w' ∧ Only b (b + 1) w w' :=
  (newRideOk_any b bs N w hbs hN h).mono fun _ _ ⟨x, he, hs, ho, _⟩ => ⟨x, he, hs, ho⟩
theorem spoil_any (b : Nat) (bs : List Int) (N : Int) (g o : Nat) (cs : Array Value) (e : TypeId) (w : World) (hbs : BsOk bs) (hN : N ≤ 1099510000000) (h : SrcAt b bs N w) (X : BoxN w g cs e) (hg : g ≠ b) (hc : ∀ j, j < 4 → ∃ v, cs.toList[o + j]? = some v) :
    Calls Tryz.prog 84 #[.pointer (some ⟨b, 0, none⟩), .pointer (some ⟨g, o, none⟩)] w fun e w' => ∃ (j : Nat) (z : Int) (w1 : World), e = .returned (.tuple #[]) ∧ j < 4 ∧ w' = w1.setCell ⟨g, o + j, none⟩ (.int .i64 z) ∧ SrcAt b bs (N + 10) w1 ∧ Only b (b + 1) w w1 := by
  have hbl := h.lt
  have hgl := X.lt
  have HP := hide (pick_any b bs N 4 w hbs (by omega) h)
  have HAM := hide fun M g o c xs W (hM : M ≤ 1099511000000) (hW : SrcAt b bs M W) => among_any b bs M g o c xs W hbs hM hW
  have XH := hide X
  have HC := hide hc
  clear X hc
  go_enter Tryz.func84, Tryz.ntmps84
  go_upto_region 1 with (go_at_call 68; (with_reducible refine (HP.out).mono ?_); rintro e w1 ⟨z, rfl, ⟨hz0, hz1', _⟩, hs1, ho1⟩)
  have hz4 := hz1' (by omega)
  have X1 := hide (XH.out.only ho1 (by omega))
  have S1 := hide hs1
  have O1 := hide ho1
  have hzs := ho1.size
  have h4 : z = 0 ∨ z = 1 ∨ z = 2 ∨ z = 3 := by omega
  clear hs1 ho1 hz1' XH HP hz0 hz4
  rcases h4 with rfl | rfl | rfl | rfl
  · have S2 := hide (S1.out.alloc (.cells #[.int .i64 (-1), .int .i64 0, .int .i64 1, .int .i64 2000, .int .i64 2001, .int .i64 (-9223372036854775808)] 2))
    have X2 := hide (X1.out.alloc (.cells #[.int .i64 (-1), .int .i64 0, .int .i64 1, .int .i64 2000, .int .i64 2001, .int .i64 (-9223372036854775808)] 2))
    have O2 := hide (only_alloc O1.out (.cells #[.int .i64 (-1), .int .i64 0, .int .i64 1, .int .i64 2000, .int .i64 2001, .int .i64 (-9223372036854775808)] 2))
    have ham : Calls Tryz.prog 111 #[.pointer (some ⟨b, 0, none⟩), .slice (some ⟨w1.heap.size, 0, none⟩) 6 6] (w1.alloc (.cells #[.int .i64 (-1), .int .i64 0, .int .i64 1, .int .i64 2000, .int .i64 2001, .int .i64 (-9223372036854775808)] 2)) fun e w' => ∃ z, e = .returned (.int .i64 z) ∧ z ∈ ([(-1), 0, 1, 2000, 2001, (-9223372036854775808)] : List Int) ∧ SrcAt b bs (N + 2 + 2) w' ∧ Only b (b + 1) (w1.alloc (.cells #[.int .i64 (-1), .int .i64 0, .int .i64 1, .int .i64 2000, .int .i64 2001, .int .i64 (-9223372036854775808)] 2)) w' := HAM.out (N + 2) w1.heap.size 0 6 ([(-1), 0, 1, 2000, 2001, (-9223372036854775808)] : List Int) _ (by omega) S2.out (by omega) (by simp) (by simp) (by simp) (fun j z hj => by
        match j, hj with
        | 0, hj => simp at hj; subst hj; simp [go_sem]
        | 1, hj => simp at hj; subst hj; simp [go_sem]
        | 2, hj => simp at hj; subst hj; simp [go_sem]
        | 3, hj => simp at hj; subst hj; simp [go_sem]
        | 4, hj => simp at hj; subst hj; simp [go_sem]
        | 5, hj => simp at hj; subst hj; simp [go_sem]
        | j + 6, hj => simp at hj)
    have H2 := hide ham
    clear ham
    obtain ⟨ov, hov⟩ := HC.out 0 (by omega)
    go_wp2_with (go_at_call 111; (with_reducible refine (H2.out).mono ?_); rintro e w2 ⟨z, rfl, hz, hs2, ho2⟩; have X3 := hide (X2.out.only ho2 (by omega)); have k0 : w2.cell? ⟨g, o, none⟩ = some ov := (X3.out.cell (o)).trans hov; have f0 := X3.out.fro (o))
    (try simp only [Exit.inBlock, Exit.then]); refine bodyPost_end (results_none rfl _ _ _) rfl ⟨0, z, w2, rfl, by omega, rfl, hs2.more (by omega), only_trans O2.out ho2⟩
  · have S2 := hide (S1.out.alloc (.cells #[.int .i64 (-1), .int .i64 0, .int .i64 500, .int .i64 501] 2))
    have X2 := hide (X1.out.alloc (.cells #[.int .i64 (-1), .int .i64 0, .int .i64 500, .int .i64 501] 2))
    have O2 := hide (only_alloc O1.out (.cells #[.int .i64 (-1), .int .i64 0, .int .i64 500, .int .i64 501] 2))
    have ham : Calls Tryz.prog 111 #[.pointer (some ⟨b, 0, none⟩), .slice (some ⟨w1.heap.size, 0, none⟩) 4 4] (w1.alloc (.cells #[.int .i64 (-1), .int .i64 0, .int .i64 500, .int .i64 501] 2)) fun e w' => ∃ z, e = .returned (.int .i64 z) ∧ z ∈ ([(-1), 0, 500, 501] : List Int) ∧ SrcAt b bs (N + 2 + 2) w' ∧ Only b (b + 1) (w1.alloc (.cells #[.int .i64 (-1), .int .i64 0, .int .i64 500, .int .i64 501] 2)) w' := HAM.out (N + 2) w1.heap.size 0 4 ([(-1), 0, 500, 501] : List Int) _ (by omega) S2.out (by omega) (by simp) (by simp) (by simp) (fun j z hj => by
        match j, hj with
        | 0, hj => simp at hj; subst hj; simp [go_sem]
        | 1, hj => simp at hj; subst hj; simp [go_sem]
        | 2, hj => simp at hj; subst hj; simp [go_sem]
        | 3, hj => simp at hj; subst hj; simp [go_sem]
        | j + 4, hj => simp at hj)
    have H2 := hide ham
    clear ham
    obtain ⟨ov, hov⟩ := HC.out 1 (by omega)
    go_wp2_with (go_at_call 111; (with_reducible refine (H2.out).mono ?_); rintro e w2 ⟨z, rfl, hz, hs2, ho2⟩; have X3 := hide (X2.out.only ho2 (by omega)); have k0 : w2.cell? ⟨g, o + 1, none⟩ = some ov := (X3.out.cell (o + 1)).trans hov; have f0 := X3.out.fro (o + 1))
    (try simp only [Exit.inBlock, Exit.then]); refine bodyPost_end (results_none rfl _ _ _) rfl ⟨1, z, w2, rfl, by omega, rfl, hs2.more (by omega), only_trans O2.out ho2⟩
  · have S2 := hide (S1.out.alloc (.cells #[.int .i64 (-1), .int .i64 0, .int .i64 1, .int .i64 100, .int .i64 101] 2))
    have X2 := hide (X1.out.alloc (.cells #[.int .i64 (-1), .int .i64 0, .int .i64 1, .int .i64 100, .int .i64 101] 2))
    have O2 := hide (only_alloc O1.out (.cells #[.int .i64 (-1), .int .i64 0, .int .i64 1, .int .i64 100, .int .i64 101] 2))
    have ham : Calls Tryz.prog 111 #[.pointer (some ⟨b, 0, none⟩), .slice (some ⟨w1.heap.size, 0, none⟩) 5 5] (w1.alloc (.cells #[.int .i64 (-1), .int .i64 0, .int .i64 1, .int .i64 100, .int .i64 101] 2)) fun e w' => ∃ z, e = .returned (.int .i64 z) ∧ z ∈ ([(-1), 0, 1, 100, 101] : List Int) ∧ SrcAt b bs (N + 2 + 2) w' ∧ Only b (b + 1) (w1.alloc (.cells #[.int .i64 (-1), .int .i64 0, .int .i64 1, .int .i64 100, .int .i64 101] 2)) w' := HAM.out (N + 2) w1.heap.size 0 5 ([(-1), 0, 1, 100, 101] : List Int) _ (by omega) S2.out (by omega) (by simp) (by simp) (by simp) (fun j z hj => by
        match j, hj with
        | 0, hj => simp at hj; subst hj; simp [go_sem]
        | 1, hj => simp at hj; subst hj; simp [go_sem]
        | 2, hj => simp at hj; subst hj; simp [go_sem]
        | 3, hj => simp at hj; subst hj; simp [go_sem]
        | 4, hj => simp at hj; subst hj; simp [go_sem]
        | j + 5, hj => simp at hj)
    have H2 := hide ham
    clear ham
    obtain ⟨ov, hov⟩ := HC.out 2 (by omega)
    go_wp2_with (go_at_call 111; (with_reducible refine (H2.out).mono ?_); rintro e w2 ⟨z, rfl, hz, hs2, ho2⟩; have X3 := hide (X2.out.only ho2 (by omega)); have k0 : w2.cell? ⟨g, o + 2, none⟩ = some ov := (X3.out.cell (o + 2)).trans hov; have f0 := X3.out.fro (o + 2))
    (try simp only [Exit.inBlock, Exit.then]); refine bodyPost_end (results_none rfl _ _ _) rfl ⟨2, z, w2, rfl, by omega, rfl, hs2.more (by omega), only_trans O2.out ho2⟩
  · have S2 := hide (S1.out.alloc (.cells #[.int .i64 (-1), .int .i64 0, .int .i64 40, .int .i64 41] 2))
    have X2 := hide (X1.out.alloc (.cells #[.int .i64 (-1), .int .i64 0, .int .i64 40, .int .i64 41] 2))
    have O2 := hide (only_alloc O1.out (.cells #[.int .i64 (-1), .int .i64 0, .int .i64 40, .int .i64 41] 2))
    have ham : Calls Tryz.prog 111 #[.pointer (some ⟨b, 0, none⟩), .slice (some ⟨w1.heap.size, 0, none⟩) 4 4] (w1.alloc (.cells #[.int .i64 (-1), .int .i64 0, .int .i64 40, .int .i64 41] 2)) fun e w' => ∃ z, e = .returned (.int .i64 z) ∧ z ∈ ([(-1), 0, 40, 41] : List Int) ∧ SrcAt b bs (N + 2 + 2) w' ∧ Only b (b + 1) (w1.alloc (.cells #[.int .i64 (-1), .int .i64 0, .int .i64 40, .int .i64 41] 2)) w' := HAM.out (N + 2) w1.heap.size 0 4 ([(-1), 0, 40, 41] : List Int) _ (by omega) S2.out (by omega) (by simp) (by simp) (by simp) (fun j z hj => by
        match j, hj with
        | 0, hj => simp at hj; subst hj; simp [go_sem]
        | 1, hj => simp at hj; subst hj; simp [go_sem]
        | 2, hj => simp at hj; subst hj; simp [go_sem]
        | 3, hj => simp at hj; subst hj; simp [go_sem]
        | j + 4, hj => simp at hj)
    have H2 := hide ham
    clear ham
    obtain ⟨ov, hov⟩ := HC.out 3 (by omega)
    go_wp2_with (go_at_call 111; (with_reducible refine (H2.out).mono ?_); rintro e w2 ⟨z, rfl, hz, hs2, ho2⟩; have X3 := hide (X2.out.only ho2 (by omega)); have k0 : w2.cell? ⟨g, o + 3, none⟩ = some ov := (X3.out.cell (o + 3)).trans hov; have f0 := X3.out.fro (o + 3))
    (try simp only [Exit.inBlock, Exit.then]); refine bodyPost_end (results_none rfl _ _ _) rfl ⟨3, z, w2, rfl, by omega, rfl, hs2.more (by omega), only_trans O2.out ho2⟩
theorem rideTicks_any (b : Nat) (bs : List Int) (N : Int) (w : World) (hbs : BsOk bs) (hN : N ≤ 1099509000000) (h : SrcAt b bs N w) :
    Calls Tryz.prog 90 #[.pointer (some ⟨b, 0, none⟩)] w fun e w' => ∃ z, e = .returned (.int .i64 z) ∧ SrcAt b bs (N + 10) w' ∧ Only b (b + 1) w w' := by
  have hbl := h.lt
  have HP := hide fun M n W (hM : M ≤ 1099511000000) (hW : SrcAt b bs M W) => pick_any b bs M n W hbs hM hW
  have HO1 := hide fun M n W (hM : M ≤ 1099511000000) (hW : SrcAt b bs M W) => one_any b bs M n W hbs hM hW
  have HAM := hide fun M g o c xs W (hM : M ≤ 1099511000000) (hW : SrcAt b bs M W) => among_any b bs M g o c xs W hbs hM hW
  have H0 := hide h
  clear h
  go_enter Tryz.func90, Tryz.ntmps90
  go_upto_if 4 with (go_at_call 63; (with_reducible refine (HO1.out N 8 _ (by omega) H0.out).mono ?_); rintro e w1 ⟨v, rfl, hs1, ho1⟩)
  have S1 := hide hs1
  have O1 := hide ho1
  have hz1 := ho1.size
  clear hs1 ho1 H0
  cases v
  · have HC := hide (HP.out (N + 2) 200 _ (by omega) S1.out)
    go_wp2_with (go_at_call 68; (with_reducible refine (HC.out).mono ?_); rintro e w2 ⟨z, rfl, _, hs2, ho2⟩)
    go_ret
    exact ⟨z, rfl, hs2.more (by omega), only_trans O1.out ho2⟩
  · have S2 := hide (S1.out.alloc (.cells #[.int .i64 (-1), .int .i64 0, .int .i64 1, .int .i64 1000000, .int .i64 1000001, .int .i64 (-9223372036854775808)] 2))
    have ham : Calls Tryz.prog 111 #[.pointer (some ⟨b, 0, none⟩), .slice (some ⟨w1.heap.size, 0, none⟩) 6 6] (w1.alloc (.cells #[.int .i64 (-1), .int .i64 0, .int .i64 1, .int .i64 1000000, .int .i64 1000001, .int .i64 (-9223372036854775808)] 2)) fun e w' => ∃ z, e = .returned (.int .i64 z) ∧ z ∈ ([(-1), 0, 1, 1000000, 1000001, (-9223372036854775808)] : List Int) ∧ SrcAt b bs (N + 2 + 2) w' ∧ Only b (b + 1) (w1.alloc (.cells #[.int .i64 (-1), .int .i64 0, .int .i64 1, .int .i64 1000000, .int .i64 1000001, .int .i64 (-9223372036854775808)] 2)) w' := HAM.out (N + 2) w1.heap.size 0 6 ([(-1), 0, 1, 1000000, 1000001, (-9223372036854775808)] : List Int) _ (by omega) S2.out (by omega) (by simp) (by simp) (by simp) (fun j z hj => by
        match j, hj with
        | 0, hj => simp at hj; subst hj; simp [go_sem]
        | 1, hj => simp at hj; subst hj; simp [go_sem]
        | 2, hj => simp at hj; subst hj; simp [go_sem]
        | 3, hj => simp at hj; subst hj; simp [go_sem]
        | 4, hj => simp at hj; subst hj; simp [go_sem]
        | 5, hj => simp at hj; subst hj; simp [go_sem]
        | j + 6, hj => simp at hj)
    have H2 := hide ham
    clear ham
    have O2 := hide (only_alloc O1.out (.cells #[.int .i64 (-1), .int .i64 0, .int .i64 1, .int .i64 1000000, .int .i64 1000001, .int .i64 (-9223372036854775808)] 2))
    go_wp2_with (go_at_call 111; (with_reducible refine (H2.out).mono ?_); rintro e w2 ⟨z, rfl, hz, hs2, ho2⟩)
    go_ret
    exact ⟨z, rfl, hs2.more (by omega), only_trans O2.out ho2⟩
theorem anyRide_any (b : Nat) (bs : List Int) (N : Int) (w : World) (hbs : BsOk bs) (hN : N ≤ 1099509000000) (h : SrcAt b bs N w) :
    Calls Tryz.prog 48 #[.pointer (some ⟨b, 0, none⟩)] w fun e w' => ∃ x : T4, e = .returned (.agg #[.int .i64 x.a, .int .i64 x.b, .int .i64 x.c, .int .i64 x.d]) ∧ SrcAt b bs (N + 100) w' ∧ Only b (b + 1) w w' := by
  have hbl := h.lt
  have HNW := hide fun M W (hM : M ≤ 1099510000000) (hW : SrcAt b bs M W) => newRide_any b bs M W hbs hM hW
  have HO1 := hide fun M n W (hM : M ≤ 1099511000000) (hW : SrcAt b bs M W) => one_any b bs M n W hbs hM hW
  have HSP := hide fun M g o cs e W (hM : M ≤ 1099510000000) (hW : SrcAt b bs M W) => spoil_any b bs M g o cs e W hbs hM hW
  have X0 := hide (BoxN.new w #[.int .i64 0, .int .i64 0, .int .i64 0, .int .i64 0] 44)
  have S0 := hide (h.alloc (.cells #[.int .i64 0, .int .i64 0, .int .i64 0, .int .i64 0] 44))
  have O0 : Hid (Only b (b + 1) w (w.alloc (.cells #[.int .i64 0, .int .i64 0, .int .i64 0, .int .i64 0] 44))) := only_of_below ((Below.refl _ _).alloc (Nat.le_refl _) _)
  have z0 : w.heap.size + 1 ≤ (w.alloc (.cells #[.int .i64 0, .int .i64 0, .int .i64 0, .int .i64 0] 44)).heap.size := by simp
  clear h
  go_enter Tryz.func48, Tryz.ntmps48
  go_upto_region 1 with fail
  generalize w.alloc (.cells #[.int .i64 0, .int .i64 0, .int .i64 0, .int .i64 0] 44) = w0 at *
  have C0 := hide (HNW.out N w0 (by omega) S0.out)
  go_upto_region 2 with (go_at_call 61; (with_reducible refine (C0.out).mono ?_); rintro e w1 ⟨x, rfl, hs1, ho1⟩; have X1 := hide (X0.out.only ho1 (.inr (by omega))); have z1 := ho1.size; have O1 := hide (only_trans O0.out ho1); have S1 := hide hs1; clear hs1 ho1 C0 X0 S0 O0)
  have X2 := hide (X1.out.alloc (.cells #[.int .i64 x.a, .int .i64 x.b, .int .i64 x.c, .int .i64 x.d] 44))
  have Y2 := hide (BoxN.new w1 #[.int .i64 x.a, .int .i64 x.b, .int .i64 x.c, .int .i64 x.d] 44)
  have S2 := hide (S1.out.alloc (.cells #[.int .i64 x.a, .int .i64 x.b, .int .i64 x.c, .int .i64 x.d] 44))
  have O2 := hide (only_alloc O1.out (.cells #[.int .i64 x.a, .int .i64 x.b, .int .i64 x.c, .int .i64 x.d] 44))
  have z2 : w1.heap.size + 1 ≤ (w1.alloc (.cells #[.int .i64 x.a, .int .i64 x.b, .int .i64 x.c, .int .i64 x.d] 44)).heap.size := by simp
  have zz : w.heap.size < w1.heap.size := by omega
  clear X1 S1 O1
  generalize hgt : w1.heap.size = gt at *
  generalize w1.alloc (.cells #[.int .i64 x.a, .int .i64 x.b, .int .i64 x.c, .int .i64 x.d] 44) = w2 at *
  clear hgt
  have C2 := hide (HO1.out (N + 10) 10 w2 (by omega) S2.out)
  go_upto_if 7 with (go_at_call 63; (with_reducible refine (C2.out).mono ?_); rintro e w3 ⟨v, rfl, hs3, ho3⟩)
  have X3 := hide (X2.out.only ho3 (.inr (by omega)))
  have Y3 := hide (Y2.out.only ho3 (.inr (by omega)))
  have O3 := hide (only_trans O2.out ho3)
  have S3 := hide hs3
  have z3 := ho3.size
  clear hs3 ho3 C2 X2 Y2 S2 O2
  cases v
  · have y0 : w3.cell? ⟨gt, 0, none⟩ = some (.int .i64 x.a) := Y3.out.cell 0
    have y1 : w3.cell? ⟨gt, 1, none⟩ = some (.int .i64 x.b) := Y3.out.cell 1
    have y2 : w3.cell? ⟨gt, 2, none⟩ = some (.int .i64 x.c) := Y3.out.cell 2
    have y3 : w3.cell? ⟨gt, 3, none⟩ = some (.int .i64 x.d) := Y3.out.cell 3
    have m0 : w3.cell? ⟨w.heap.size, 0, none⟩ = some (.int .i64 0) := X3.out.cell 0
    have n0 := X3.out.fro 0
    have T0 := hide (X3.out.set 0 (.int .i64 x.a))
    have m1 : (w3.setCell ⟨w.heap.size, 0, none⟩ (.int .i64 x.a)).cell? ⟨w.heap.size, 1, none⟩ = some (.int .i64 0) := T0.out.cell 1
    have n1 := T0.out.fro 1
    have T1 := hide (T0.out.set 1 (.int .i64 x.b))
    have m2 : ((w3.setCell ⟨w.heap.size, 0, none⟩ (.int .i64 x.a)).setCell ⟨w.heap.size, 1, none⟩ (.int .i64 x.b)).cell? ⟨w.heap.size, 2, none⟩ = some (.int .i64 0) := T1.out.cell 2
    have n2 := T1.out.fro 2
    have T2 := hide (T1.out.set 2 (.int .i64 x.c))
    have m3 : (((w3.setCell ⟨w.heap.size, 0, none⟩ (.int .i64 x.a)).setCell ⟨w.heap.size, 1, none⟩ (.int .i64 x.b)).setCell ⟨w.heap.size, 2, none⟩ (.int .i64 x.c)).cell? ⟨w.heap.size, 3, none⟩ = some (.int .i64 0) := T2.out.cell 3
    have n3 := T2.out.fro 3
    have T3 := hide (T2.out.set 3 (.int .i64 x.d))
    go_wp2_with fail
    have q0 : ((((w3.setCell ⟨w.heap.size, 0, none⟩ (.int .i64 x.a)).setCell ⟨w.heap.size, 1, none⟩ (.int .i64 x.b)).setCell ⟨w.heap.size, 2, none⟩ (.int .i64 x.c)).setCell ⟨w.heap.size, 3, none⟩ (.int .i64 x.d)).cell? ⟨w.heap.size, 0, none⟩ = some (.int .i64 x.a) := T3.out.cell 0
    have q1 : ((((w3.setCell ⟨w.heap.size, 0, none⟩ (.int .i64 x.a)).setCell ⟨w.heap.size, 1, none⟩ (.int .i64 x.b)).setCell ⟨w.heap.size, 2, none⟩ (.int .i64 x.c)).setCell ⟨w.heap.size, 3, none⟩ (.int .i64 x.d)).cell? ⟨w.heap.size, 1, none⟩ = some (.int .i64 x.b) := T3.out.cell 1
    have q2 : ((((w3.setCell ⟨w.heap.size, 0, none⟩ (.int .i64 x.a)).setCell ⟨w.heap.size, 1, none⟩ (.int .i64 x.b)).setCell ⟨w.heap.size, 2, none⟩ (.int .i64 x.c)).setCell ⟨w.heap.size, 3, none⟩ (.int .i64 x.d)).cell? ⟨w.heap.size, 2, none⟩ = some (.int .i64 x.c) := T3.out.cell 2
    have q3 : ((((w3.setCell ⟨w.heap.size, 0, none⟩ (.int .i64 x.a)).setCell ⟨w.heap.size, 1, none⟩ (.int .i64 x.b)).setCell ⟨w.heap.size, 2, none⟩ (.int .i64 x.c)).setCell ⟨w.heap.size, 3, none⟩ (.int .i64 x.d)).cell? ⟨w.heap.size, 3, none⟩ = some (.int .i64 x.d) := T3.out.cell 3
    refine bodyPost_ret (v := .agg #[.int .i64 x.a, .int .i64 x.b, .int .i64 x.c, .int .i64 x.d]) (by simp [results, Tryz.results48, go_sem, q0, q1, q2, q3]) rfl ⟨⟨x.a, x.b, x.c, x.d⟩, rfl, ?_, ?_⟩
    · exact ((((S3.out.set ⟨w.heap.size, 0, none⟩ (.int .i64 x.a) (by dsimp only; omega)).set ⟨w.heap.size, 1, none⟩ (.int .i64 x.b) (by dsimp only; omega)).set ⟨w.heap.size, 2, none⟩ (.int .i64 x.c) (by dsimp only; omega)).set ⟨w.heap.size, 3, none⟩ (.int .i64 x.d) (by dsimp only; omega)).more (by omega)
    · exact (only_in (a := ⟨w.heap.size, 3, none⟩) (v := .int .i64 x.d) (only_in (a := ⟨w.heap.size, 2, none⟩) (v := .int .i64 x.c) (only_in (a := ⟨w.heap.size, 1, none⟩) (v := .int .i64 x.b) (only_in (a := ⟨w.heap.size, 0, none⟩) (v := .int .i64 x.a) O3.out (Nat.le_refl _)) (Nat.le_refl _)) (Nat.le_refl _)) (Nat.le_refl _))
  · have C4 := hide (HSP.out (N + 12) gt 0 #[.int .i64 x.a, .int .i64 x.b, .int .i64 x.c, .int .i64 x.d] 44 w3 (by omega) (S3.out.more (by omega)) Y3.out (by omega) (fun j hj => by
      match j, hj with
      | 0, _ => exact ⟨_, rfl⟩
      | 1, _ => exact ⟨_, rfl⟩
      | 2, _ => exact ⟨_, rfl⟩
      | 3, _ => exact ⟨_, rfl⟩))
    go_upto_region 4 with (go_at_call 84; (with_reducible refine (C4.out).mono ?_); rintro e w5 ⟨j, z, w4, rfl, hj, hw5', hs4, ho4⟩; have HW5 := hide hw5'; clear hw5')
    have hw5 := HW5.out
    have hY5 : ∃ u : T4, BoxN w5 gt #[.int .i64 u.a, .int .i64 u.b, .int .i64 u.c, .int .i64 u.d] 44 := by
      have h4 := Y3.out.only ho4 (.inr (by omega))
      rw [hw5, Nat.zero_add]
      match j, hj with
      | 0, _ => exact ⟨⟨z, x.b, x.c, x.d⟩, h4.set 0 (.int .i64 z)⟩
      | 1, _ => exact ⟨⟨x.a, z, x.c, x.d⟩, h4.set 1 (.int .i64 z)⟩
      | 2, _ => exact ⟨⟨x.a, x.b, z, x.d⟩, h4.set 2 (.int .i64 z)⟩
      | 3, _ => exact ⟨⟨x.a, x.b, x.c, z⟩, h4.set 3 (.int .i64 z)⟩
    obtain ⟨u, hy5⟩ := hY5
    have Y5 := hide hy5
    have X5 : Hid (BoxN w5 w.heap.size #[.int .i64 0, .int .i64 0, .int .i64 0, .int .i64 0] 44) := by rw [hw5]; exact (X3.out.only ho4 (.inr (by omega))).other (b' := gt) (by omega) _ _
    have S5 : Hid (SrcAt b bs (N + 12 + 10) w5) := by rw [hw5]; exact hs4.set ⟨gt, 0 + j, none⟩ (.int .i64 z) (by dsimp only; omega)
    have O5 : Hid (Only b (b + 1) w w5) := by rw [hw5]; exact only_in (only_trans O3.out ho4) (by dsimp only; omega)
    clear hw5 HW5 hs4 ho4 hy5 C4
    have y0 : w5.cell? ⟨gt, 0, none⟩ = some (.int .i64 u.a) := Y5.out.cell 0
    have y1 : w5.cell? ⟨gt, 1, none⟩ = some (.int .i64 u.b) := Y5.out.cell 1
    have y2 : w5.cell? ⟨gt, 2, none⟩ = some (.int .i64 u.c) := Y5.out.cell 2
    have y3 : w5.cell? ⟨gt, 3, none⟩ = some (.int .i64 u.d) := Y5.out.cell 3
    have m0 : w5.cell? ⟨w.heap.size, 0, none⟩ = some (.int .i64 0) := X5.out.cell 0
    have n0 := X5.out.fro 0
    have T0 := hide (X5.out.set 0 (.int .i64 u.a))
    have m1 : (w5.setCell ⟨w.heap.size, 0, none⟩ (.int .i64 u.a)).cell? ⟨w.heap.size, 1, none⟩ = some (.int .i64 0) := T0.out.cell 1
    have n1 := T0.out.fro 1
    have T1 := hide (T0.out.set 1 (.int .i64 u.b))
    have m2 : ((w5.setCell ⟨w.heap.size, 0, none⟩ (.int .i64 u.a)).setCell ⟨w.heap.size, 1, none⟩ (.int .i64 u.b)).cell? ⟨w.heap.size, 2, none⟩ = some (.int .i64 0) := T1.out.cell 2
    have n2 := T1.out.fro 2
    have T2 := hide (T1.out.set 2 (.int .i64 u.c))
    have m3 : (((w5.setCell ⟨w.heap.size, 0, none⟩ (.int .i64 u.a)).setCell ⟨w.heap.size, 1, none⟩ (.int .i64 u.b)).setCell ⟨w.heap.size, 2, none⟩ (.int .i64 u.c)).cell? ⟨w.heap.size, 3, none⟩ = some (.int .i64 0) := T2.out.cell 3
    have n3 := T2.out.fro 3
    have T3 := hide (T2.out.set 3 (.int .i64 u.d))
    go_wp2_with fail
    have q0 : ((((w5.setCell ⟨w.heap.size, 0, none⟩ (.int .i64 u.a)).setCell ⟨w.heap.size, 1, none⟩ (.int .i64 u.b)).setCell ⟨w.heap.size, 2, none⟩ (.int .i64 u.c)).setCell ⟨w.heap.size, 3, none⟩ (.int .i64 u.d)).cell? ⟨w.heap.size, 0, none⟩ = some (.int .i64 u.a) := T3.out.cell 0
    have q1 : ((((w5.setCell ⟨w.heap.size, 0, none⟩ (.int .i64 u.a)).setCell ⟨w.heap.size, 1, none⟩ (.int .i64 u.b)).setCell ⟨w.heap.size, 2, none⟩ (.int .i64 u.c)).setCell ⟨w.heap.size, 3, none⟩ (.int .i64 u.d)).cell? ⟨w.heap.size, 1, none⟩ = some (.int .i64 u.b) := T3.out.cell 1
    have q2 : ((((w5.setCell ⟨w.heap.size, 0, none⟩ (.int .i64 u.a)).setCell ⟨w.heap.size, 1, none⟩ (.int .i64 u.b)).setCell ⟨w.heap.size, 2, none⟩ (.int .i64 u.c)).setCell ⟨w.heap.size, 3, none⟩ (.int .i64 u.d)).cell? ⟨w.heap.size, 2, none⟩ = some (.int .i64 u.c) := T3.out.cell 2
    have q3 : ((((w5.setCell ⟨w.heap.size, 0, none⟩ (.int .i64 u.a)).setCell ⟨w.heap.size, 1, none⟩ (.int .i64 u.b)).setCell ⟨w.heap.size, 2, none⟩ (.int .i64 u.c)).setCell ⟨w.heap.size, 3, none⟩ (.int .i64 u.d)).cell? ⟨w.heap.size, 3, none⟩ = some (.int .i64 u.d) := T3.out.cell 3
    refine bodyPost_ret (v := .agg #[.int .i64 u.a, .int .i64 u.b, .int .i64 u.c, .int .i64 u.d]) (by simp [results, Tryz.results48, go_sem, q0, q1, q2, q3]) rfl ⟨⟨u.a, u.b, u.c, u.d⟩, rfl, ?_, ?_⟩
    · exact ((((S5.out.set ⟨w.heap.size, 0, none⟩ (.int .i64 u.a) (by dsimp only; omega)).set ⟨w.heap.size, 1, none⟩ (.int .i64 u.b) (by dsimp only; omega)).set ⟨w.heap.size, 2, none⟩ (.int .i64 u.c) (by dsimp only; omega)).set ⟨w.heap.size, 3, none⟩ (.int .i64 u.d) (by dsimp only; omega)).more (by omega)
    · exact (only_in (a := ⟨w.heap.size, 3, none⟩) (v := .int .i64 u.d) (only_in (a := ⟨w.heap.size, 2, none⟩) (v := .int .i64 u.c) (only_in (a := ⟨w.heap.size, 1, none⟩) (v := .int .i64 u.b) (only_in (a := ⟨w.heap.size, 0, none⟩) (v := .int .i64 u.a) O5.out (Nat.le_refl _)) (Nat.le_refl _)) (Nat.le_refl _)) (Nat.le_refl _))
end Go.Proofs.YtaajkmjilcamgaaGreatDoor
