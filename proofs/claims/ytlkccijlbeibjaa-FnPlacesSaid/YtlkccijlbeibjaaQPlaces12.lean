/-
  Drawn rides. Printed by gen_plai.py.
-/
import Derived.Test.YtlkccijlbeibjaaQPlaces7
import Derived.Test.YtlkccijlbeibjaaQPlaces11
import Derived.Test.YtlkccijlbeibjaaQPlaces3
import Derived.Test.YtlkccijlbeibjaaQPlaces10
import Derived.Deep.DeepCutAuto
import Derived.Deep.RegionHeld3
namespace Go.Proofs.Ytlkccijlbeibjaa
open Go.RowKit
theorem only_in {lo hi : Nat} {w w1 : World} {a : Addr} {v : Value} (h : Only lo hi w w1) (hb : w.heap.size ≤ a.block) : Only lo hi w (w1.setCell a v) := only_setNew h a v hb
set_option maxRecDepth 100000 in
set_option maxHeartbeats 4000000 in
theorem newRide_any (b : Nat) (bs : List Int) (N : Int) (w : World) (hbs : BsOk bs) (hN : N ≤ 1099510000000) (h : SrcAt b bs N w) :
    Calls Try.prog 156 #[.pointer (some ⟨b, 0, none⟩)] w fun e w' => ∃ x : T4, e = .returned (.agg #[.int .i64 x.a, .int .i64 x.b, .int .i64 x.c, .int .i64 x.d]) ∧ SrcAt b bs (N + 10) w' ∧ Only b (b + 1) w w' := by
  have hbl := h.lt
  have HP := hide fun M n W (hM : M ≤ 1099511000000) (hW : SrcAt b bs M W) => pick_any b bs M n W hbs hM hW
  have X0 := hide (BoxN.new w #[.int .i64 0, .int .i64 0, .int .i64 0, .int .i64 0] 83)
  have S0 := hide (h.alloc (.cells #[.int .i64 0, .int .i64 0, .int .i64 0, .int .i64 0] 83))
  have O0 : Hid (Only b (b + 1) w (w.alloc (.cells #[.int .i64 0, .int .i64 0, .int .i64 0, .int .i64 0] 83))) := only_of_below ((Below.refl _ _).alloc (Nat.le_refl _) _)
  have z0 : w.heap.size + 1 ≤ (w.alloc (.cells #[.int .i64 0, .int .i64 0, .int .i64 0, .int .i64 0] 83)).heap.size := by simp
  clear h
  go_enter Try.func156, Try.ntmps156
  go_upto_region 1 with fail
  generalize w.alloc (.cells #[.int .i64 0, .int .i64 0, .int .i64 0, .int .i64 0] 83) = w0 at *
  have C0 := hide (HP.out N 60 w0 (by omega) S0.out)
  go_upto_region 2 with (go_at_call 94; (with_reducible refine (C0.out).mono ?_); rintro e w1 ⟨z, rfl, ⟨hz0, hz1', _⟩, hs1, ho1⟩; have hz1 := hz1' (by omega); have X1 := hide (X0.out.only ho1 (.inr (by omega))); have z1 := ho1.size; have O1 := hide (only_trans O0.out ho1); have S1 := hide hs1; clear hs1 ho1 C0 X0 S0 O0 hz1')
  have e1 : (10 : Int) + 5 * z = 10 + 5 * z := rfl
  have X2 := hide (X1.out.alloc (.cells #[.int .i64 (10 + 5 * z), .int .i64 0, .int .i64 0, .int .i64 0] 83))
  have Y2 := hide (BoxN.new w1 #[.int .i64 (10 + 5 * z), .int .i64 0, .int .i64 0, .int .i64 0] 83)
  have S2 := hide (S1.out.alloc (.cells #[.int .i64 (10 + 5 * z), .int .i64 0, .int .i64 0, .int .i64 0] 83))
  have O2 := hide (only_alloc O1.out (.cells #[.int .i64 (10 + 5 * z), .int .i64 0, .int .i64 0, .int .i64 0] 83))
  have z2 : w1.heap.size + 1 ≤ (w1.alloc (.cells #[.int .i64 (10 + 5 * z), .int .i64 0, .int .i64 0, .int .i64 0] 83)).heap.size := by simp
  have zz : w.heap.size < w1.heap.size := by omega
  clear X1 S1 O1 e1
  generalize hgt : w1.heap.size = gt at *
  generalize w1.alloc (.cells #[.int .i64 (10 + 5 * z), .int .i64 0, .int .i64 0, .int .i64 0] 83) = w2 at *
  clear hgt
  obtain ⟨a0, ha0⟩ : ∃ a0, a0 = 10 + 5 * z := ⟨_, rfl⟩
  rw [← ha0] at Y2
  clear ha0
  have C1 := hide (HP.out (N + 2) 40 w2 (by omega) (S2.out.more (by omega)))
  go_upto_region 3 with (go_at_call 94; (with_reducible refine (C1.out).mono ?_); rintro e u1_ ⟨p1, rfl, ⟨hp1a, hp1b', _⟩, hs1, ho1⟩; have hp1b := hp1b' (by omega); have XX1 := hide (X2.out.only ho1 (.inr (by omega))); have YY1 := hide (Y2.out.only ho1 (.inr (by omega))); have OO1 := hide (only_trans O2.out ho1); have SS1 := hide hs1; have zs1 := ho1.size; have mm1 : u1_.cell? ⟨gt, 1, none⟩ = some (.int .i64 0) := YY1.out.cell 1; have ff1 := YY1.out.fro 1; clear hs1 ho1 C1 X2 Y2 S2 O2 hp1b')
  have XN1 := hide (XX1.out.other (b' := gt) (by omega) 1 (.int .i64 (10 * p1)))
  have YN1 : Hid (BoxN (u1_.setCell ⟨gt, 1, none⟩ (.int .i64 (10 * p1))) gt #[.int .i64 a0, .int .i64 (10 * p1), .int .i64 0, .int .i64 0] 83) := hide (YY1.out.set 1 (.int .i64 (10 * p1)))
  have SN1 := hide (SS1.out.set ⟨gt, 1, none⟩ (.int .i64 (10 * p1)) (by dsimp only; omega))
  have ON1 := hide (only_in (a := ⟨gt, 1, none⟩) (v := .int .i64 (10 * p1)) OO1.out (by dsimp only; omega))
  have zn1 : gt + 1 ≤ (u1_.setCell ⟨gt, 1, none⟩ (.int .i64 (10 * p1))).heap.size := by simp [World.setCell]; omega
  clear XX1 YY1 SS1 OO1 mm1 ff1
  generalize u1_.setCell ⟨gt, 1, none⟩ (.int .i64 (10 * p1)) = v1 at *
  clear zs1
  obtain ⟨b1, hb1⟩ : ∃ q, q = 10 * p1 := ⟨_, rfl⟩
  rw [← hb1] at YN1
  clear hb1
  have C2 := hide (HP.out (N + 4) 30 v1 (by omega) (SN1.out.more (by omega)))
  go_upto_region 4 with (go_at_call 94; (with_reducible refine (C2.out).mono ?_); rintro e u2_ ⟨p2, rfl, ⟨hp2a, hp2b', _⟩, hs2, ho2⟩; have hp2b := hp2b' (by omega); have XX2 := hide (XN1.out.only ho2 (.inr (by omega))); have YY2 := hide (YN1.out.only ho2 (.inr (by omega))); have OO2 := hide (only_trans ON1.out ho2); have SS2 := hide hs2; have zs2 := ho2.size; have mm2 : u2_.cell? ⟨gt, 2, none⟩ = some (.int .i64 0) := YY2.out.cell 2; have ff2 := YY2.out.fro 2; clear hs2 ho2 C2 XN1 YN1 SN1 ON1 hp2b')
  have XN2 := hide (XX2.out.other (b' := gt) (by omega) 2 (.int .i64 (1 + p2)))
  have YN2 : Hid (BoxN (u2_.setCell ⟨gt, 2, none⟩ (.int .i64 (1 + p2))) gt #[.int .i64 a0, .int .i64 b1, .int .i64 (1 + p2), .int .i64 0] 83) := hide (YY2.out.set 2 (.int .i64 (1 + p2)))
  have SN2 := hide (SS2.out.set ⟨gt, 2, none⟩ (.int .i64 (1 + p2)) (by dsimp only; omega))
  have ON2 := hide (only_in (a := ⟨gt, 2, none⟩) (v := .int .i64 (1 + p2)) OO2.out (by dsimp only; omega))
  have zn2 : gt + 1 ≤ (u2_.setCell ⟨gt, 2, none⟩ (.int .i64 (1 + p2))).heap.size := by simp [World.setCell]; omega
  clear XX2 YY2 SS2 OO2 mm2 ff2
  generalize u2_.setCell ⟨gt, 2, none⟩ (.int .i64 (1 + p2)) = v2 at *
  clear zs2
  obtain ⟨b2, hb2⟩ : ∃ q, q = 1 + p2 := ⟨_, rfl⟩
  rw [← hb2] at YN2
  clear hb2
  have C3 := hide (HP.out (N + 6) 9 v2 (by omega) (SN2.out.more (by omega)))
  go_upto_region 5 with (go_at_call 94; (with_reducible refine (C3.out).mono ?_); rintro e u3_ ⟨p3, rfl, ⟨hp3a, hp3b', _⟩, hs3, ho3⟩; have hp3b := hp3b' (by omega); have XX3 := hide (XN2.out.only ho3 (.inr (by omega))); have YY3 := hide (YN2.out.only ho3 (.inr (by omega))); have OO3 := hide (only_trans ON2.out ho3); have SS3 := hide hs3; have zs3 := ho3.size; have mm3 : u3_.cell? ⟨gt, 3, none⟩ = some (.int .i64 0) := YY3.out.cell 3; have ff3 := YY3.out.fro 3; clear hs3 ho3 C3 XN2 YN2 SN2 ON2 hp3b')
  have XN3 := hide (XX3.out.other (b' := gt) (by omega) 3 (.int .i64 (p3)))
  have YN3 : Hid (BoxN (u3_.setCell ⟨gt, 3, none⟩ (.int .i64 (p3))) gt #[.int .i64 a0, .int .i64 b1, .int .i64 b2, .int .i64 (p3)] 83) := hide (YY3.out.set 3 (.int .i64 (p3)))
  have SN3 := hide (SS3.out.set ⟨gt, 3, none⟩ (.int .i64 (p3)) (by dsimp only; omega))
  have ON3 := hide (only_in (a := ⟨gt, 3, none⟩) (v := .int .i64 (p3)) OO3.out (by dsimp only; omega))
  have zn3 : gt + 1 ≤ (u3_.setCell ⟨gt, 3, none⟩ (.int .i64 (p3))).heap.size := by simp [World.setCell]; omega
  clear XX3 YY3 SS3 OO3 mm3 ff3
  generalize u3_.setCell ⟨gt, 3, none⟩ (.int .i64 (p3)) = v3 at *
  clear zs3
  obtain ⟨b3, hb3⟩ : ∃ q, q = p3 := ⟨_, rfl⟩
  rw [← hb3] at YN3
  clear hb3
  have y0 : v3.cell? ⟨gt, 0, none⟩ = some (.int .i64 a0) := YN3.out.cell 0
  have y1 : v3.cell? ⟨gt, 1, none⟩ = some (.int .i64 b1) := YN3.out.cell 1
  have y2 : v3.cell? ⟨gt, 2, none⟩ = some (.int .i64 b2) := YN3.out.cell 2
  have y3 : v3.cell? ⟨gt, 3, none⟩ = some (.int .i64 b3) := YN3.out.cell 3
  have m0 : v3.cell? ⟨w.heap.size, 0, none⟩ = some (.int .i64 0) := XN3.out.cell 0
  have n0 := XN3.out.fro 0
  have T0 := hide (XN3.out.set 0 (.int .i64 a0))
  have m1 : (v3.setCell ⟨w.heap.size, 0, none⟩ (.int .i64 a0)).cell? ⟨w.heap.size, 1, none⟩ = some (.int .i64 0) := T0.out.cell 1
  have n1 := T0.out.fro 1
  have T1 := hide (T0.out.set 1 (.int .i64 b1))
  have m2 : ((v3.setCell ⟨w.heap.size, 0, none⟩ (.int .i64 a0)).setCell ⟨w.heap.size, 1, none⟩ (.int .i64 b1)).cell? ⟨w.heap.size, 2, none⟩ = some (.int .i64 0) := T1.out.cell 2
  have n2 := T1.out.fro 2
  have T2 := hide (T1.out.set 2 (.int .i64 b2))
  have m3 : (((v3.setCell ⟨w.heap.size, 0, none⟩ (.int .i64 a0)).setCell ⟨w.heap.size, 1, none⟩ (.int .i64 b1)).setCell ⟨w.heap.size, 2, none⟩ (.int .i64 b2)).cell? ⟨w.heap.size, 3, none⟩ = some (.int .i64 0) := T2.out.cell 3
  have n3 := T2.out.fro 3
  have T3 := hide (T2.out.set 3 (.int .i64 b3))
  go_wp2_with fail
  have q0 : ((((v3.setCell ⟨w.heap.size, 0, none⟩ (.int .i64 a0)).setCell ⟨w.heap.size, 1, none⟩ (.int .i64 b1)).setCell ⟨w.heap.size, 2, none⟩ (.int .i64 b2)).setCell ⟨w.heap.size, 3, none⟩ (.int .i64 b3)).cell? ⟨w.heap.size, 0, none⟩ = some (.int .i64 a0) := T3.out.cell 0
  have q1 : ((((v3.setCell ⟨w.heap.size, 0, none⟩ (.int .i64 a0)).setCell ⟨w.heap.size, 1, none⟩ (.int .i64 b1)).setCell ⟨w.heap.size, 2, none⟩ (.int .i64 b2)).setCell ⟨w.heap.size, 3, none⟩ (.int .i64 b3)).cell? ⟨w.heap.size, 1, none⟩ = some (.int .i64 b1) := T3.out.cell 1
  have q2 : ((((v3.setCell ⟨w.heap.size, 0, none⟩ (.int .i64 a0)).setCell ⟨w.heap.size, 1, none⟩ (.int .i64 b1)).setCell ⟨w.heap.size, 2, none⟩ (.int .i64 b2)).setCell ⟨w.heap.size, 3, none⟩ (.int .i64 b3)).cell? ⟨w.heap.size, 2, none⟩ = some (.int .i64 b2) := T3.out.cell 2
  have q3 : ((((v3.setCell ⟨w.heap.size, 0, none⟩ (.int .i64 a0)).setCell ⟨w.heap.size, 1, none⟩ (.int .i64 b1)).setCell ⟨w.heap.size, 2, none⟩ (.int .i64 b2)).setCell ⟨w.heap.size, 3, none⟩ (.int .i64 b3)).cell? ⟨w.heap.size, 3, none⟩ = some (.int .i64 b3) := T3.out.cell 3
  refine bodyPost_ret (v := .agg #[.int .i64 a0, .int .i64 b1, .int .i64 b2, .int .i64 b3]) (by simp [results, Try.results156, go_sem, q0, q1, q2, q3]) rfl ⟨⟨a0, b1, b2, b3⟩, rfl, ?_, ?_⟩
  · exact ((((SN3.out.set ⟨w.heap.size, 0, none⟩ (.int .i64 a0) (by dsimp only; omega)).set ⟨w.heap.size, 1, none⟩ (.int .i64 b1) (by dsimp only; omega)).set ⟨w.heap.size, 2, none⟩ (.int .i64 b2) (by dsimp only; omega)).set ⟨w.heap.size, 3, none⟩ (.int .i64 b3) (by dsimp only; omega)).more (by omega)
  · exact (only_in (a := ⟨w.heap.size, 3, none⟩) (v := .int .i64 b3) (only_in (a := ⟨w.heap.size, 2, none⟩) (v := .int .i64 b2) (only_in (a := ⟨w.heap.size, 1, none⟩) (v := .int .i64 b1) (only_in (a := ⟨w.heap.size, 0, none⟩) (v := .int .i64 a0) ON3.out (Nat.le_refl _)) (Nat.le_refl _)) (Nat.le_refl _)) (Nat.le_refl _))
theorem spoil_any (b : Nat) (bs : List Int) (N : Int) (g o : Nat) (cs : Array Value) (e : TypeId) (w : World) (hbs : BsOk bs) (hN : N ≤ 1099510000000) (h : SrcAt b bs N w) (X : BoxN w g cs e) (hg : g ≠ b) (hc : ∀ j, j < 4 → ∃ v, cs.toList[o + j]? = some v) :
    Calls Try.prog 157 #[.pointer (some ⟨b, 0, none⟩), .pointer (some ⟨g, o, none⟩)] w fun e w' => ∃ (j : Nat) (z : Int) (w1 : World), e = .returned (.tuple #[]) ∧ j < 4 ∧ w' = w1.setCell ⟨g, o + j, none⟩ (.int .i64 z) ∧ SrcAt b bs (N + 10) w1 ∧ Only b (b + 1) w w1 := by
  have hbl := h.lt
  have hgl := X.lt
  have HP := hide (pick_any b bs N 4 w hbs (by omega) h)
  have HAM := hide fun M g o c xs W (hM : M ≤ 1099511000000) (hW : SrcAt b bs M W) => among_any b bs M g o c xs W hbs hM hW
  have XH := hide X
  have HC := hide hc
  clear X hc
  go_enter Try.func157, Try.ntmps157
  go_upto_region 1 with (go_at_call 94; (with_reducible refine (HP.out).mono ?_); rintro e w1 ⟨z, rfl, ⟨hz0, hz1', _⟩, hs1, ho1⟩)
  have hz4 := hz1' (by omega)
  have X1 := hide (XH.out.only ho1 (by omega))
  have S1 := hide hs1
  have O1 := hide ho1
  have hzs := ho1.size
  have h4 : z = 0 ∨ z = 1 ∨ z = 2 ∨ z = 3 := by omega
  clear hs1 ho1 hz1' XH HP hz0 hz4
  rcases h4 with rfl | rfl | rfl | rfl
  · have S2 := hide (S1.out.alloc (.cells #[.int .i64 (-1), .int .i64 0, .int .i64 1, .int .i64 2000, .int .i64 2001, .int .i64 (-9223372036854775808)] 2))
    have X2 := hide (X1.out.alloc (.cells #[.int .i64 (-1), .int .i64 0, .int .i64 1, .int .i64 2000, .int .i64 2001, .int .i64 (-9223372036854775808)] 2))
    have O2 := hide (only_alloc O1.out (.cells #[.int .i64 (-1), .int .i64 0, .int .i64 1, .int .i64 2000, .int .i64 2001, .int .i64 (-9223372036854775808)] 2))
    have ham : Calls Try.prog 82 #[.pointer (some ⟨b, 0, none⟩), .slice (some ⟨w1.heap.size, 0, none⟩) 6 6] (w1.alloc (.cells #[.int .i64 (-1), .int .i64 0, .int .i64 1, .int .i64 2000, .int .i64 2001, .int .i64 (-9223372036854775808)] 2)) fun e w' => ∃ z, e = .returned (.int .i64 z) ∧ z ∈ ([(-1), 0, 1, 2000, 2001, (-9223372036854775808)] : List Int) ∧ SrcAt b bs (N + 2 + 2) w' ∧ Only b (b + 1) (w1.alloc (.cells #[.int .i64 (-1), .int .i64 0, .int .i64 1, .int .i64 2000, .int .i64 2001, .int .i64 (-9223372036854775808)] 2)) w' := HAM.out (N + 2) w1.heap.size 0 6 ([(-1), 0, 1, 2000, 2001, (-9223372036854775808)] : List Int) _ (by omega) S2.out (by omega) (by simp) (by simp) (by simp) (fun j z hj => by
        match j, hj with
        | 0, hj => simp at hj; subst hj; simp [go_sem]
        | 1, hj => simp at hj; subst hj; simp [go_sem]
        | 2, hj => simp at hj; subst hj; simp [go_sem]
        | 3, hj => simp at hj; subst hj; simp [go_sem]
        | 4, hj => simp at hj; subst hj; simp [go_sem]
        | 5, hj => simp at hj; subst hj; simp [go_sem]
        | j + 6, hj => simp at hj)
    have H2 := hide ham
    clear ham
    obtain ⟨ov, hov⟩ := HC.out 0 (by omega)
    go_wp2_with (go_at_call 82; (with_reducible refine (H2.out).mono ?_); rintro e w2 ⟨z, rfl, hz, hs2, ho2⟩; have X3 := hide (X2.out.only ho2 (by omega)); have k0 : w2.cell? ⟨g, o, none⟩ = some ov := (X3.out.cell (o)).trans hov; have f0 := X3.out.fro (o))
    (try simp only [Exit.inBlock, Exit.then]); refine bodyPost_end (results_none rfl _ _ _) rfl ⟨0, z, w2, rfl, by omega, rfl, hs2.more (by omega), only_trans O2.out ho2⟩
  · have S2 := hide (S1.out.alloc (.cells #[.int .i64 (-1), .int .i64 0, .int .i64 500, .int .i64 501] 2))
    have X2 := hide (X1.out.alloc (.cells #[.int .i64 (-1), .int .i64 0, .int .i64 500, .int .i64 501] 2))
    have O2 := hide (only_alloc O1.out (.cells #[.int .i64 (-1), .int .i64 0, .int .i64 500, .int .i64 501] 2))
    have ham : Calls Try.prog 82 #[.pointer (some ⟨b, 0, none⟩), .slice (some ⟨w1.heap.size, 0, none⟩) 4 4] (w1.alloc (.cells #[.int .i64 (-1), .int .i64 0, .int .i64 500, .int .i64 501] 2)) fun e w' => ∃ z, e = .returned (.int .i64 z) ∧ z ∈ ([(-1), 0, 500, 501] : List Int) ∧ SrcAt b bs (N + 2 + 2) w' ∧ Only b (b + 1) (w1.alloc (.cells #[.int .i64 (-1), .int .i64 0, .int .i64 500, .int .i64 501] 2)) w' := HAM.out (N + 2) w1.heap.size 0 4 ([(-1), 0, 500, 501] : List Int) _ (by omega) S2.out (by omega) (by simp) (by simp) (by simp) (fun j z hj => by
        match j, hj with
        | 0, hj => simp at hj; subst hj; simp [go_sem]
        | 1, hj => simp at hj; subst hj; simp [go_sem]
        | 2, hj => simp at hj; subst hj; simp [go_sem]
        | 3, hj => simp at hj; subst hj; simp [go_sem]
        | j + 4, hj => simp at hj)
    have H2 := hide ham
    clear ham
    obtain ⟨ov, hov⟩ := HC.out 1 (by omega)
    go_wp2_with (go_at_call 82; (with_reducible refine (H2.out).mono ?_); rintro e w2 ⟨z, rfl, hz, hs2, ho2⟩; have X3 := hide (X2.out.only ho2 (by omega)); have k0 : w2.cell? ⟨g, o + 1, none⟩ = some ov := (X3.out.cell (o + 1)).trans hov; have f0 := X3.out.fro (o + 1))
    (try simp only [Exit.inBlock, Exit.then]); refine bodyPost_end (results_none rfl _ _ _) rfl ⟨1, z, w2, rfl, by omega, rfl, hs2.more (by omega), only_trans O2.out ho2⟩
  · have S2 := hide (S1.out.alloc (.cells #[.int .i64 (-1), .int .i64 0, .int .i64 1, .int .i64 100, .int .i64 101] 2))
    have X2 := hide (X1.out.alloc (.cells #[.int .i64 (-1), .int .i64 0, .int .i64 1, .int .i64 100, .int .i64 101] 2))
    have O2 := hide (only_alloc O1.out (.cells #[.int .i64 (-1), .int .i64 0, .int .i64 1, .int .i64 100, .int .i64 101] 2))
    have ham : Calls Try.prog 82 #[.pointer (some ⟨b, 0, none⟩), .slice (some ⟨w1.heap.size, 0, none⟩) 5 5] (w1.alloc (.cells #[.int .i64 (-1), .int .i64 0, .int .i64 1, .int .i64 100, .int .i64 101] 2)) fun e w' => ∃ z, e = .returned (.int .i64 z) ∧ z ∈ ([(-1), 0, 1, 100, 101] : List Int) ∧ SrcAt b bs (N + 2 + 2) w' ∧ Only b (b + 1) (w1.alloc (.cells #[.int .i64 (-1), .int .i64 0, .int .i64 1, .int .i64 100, .int .i64 101] 2)) w' := HAM.out (N + 2) w1.heap.size 0 5 ([(-1), 0, 1, 100, 101] : List Int) _ (by omega) S2.out (by omega) (by simp) (by simp) (by simp) (fun j z hj => by
        match j, hj with
        | 0, hj => simp at hj; subst hj; simp [go_sem]
        | 1, hj => simp at hj; subst hj; simp [go_sem]
        | 2, hj => simp at hj; subst hj; simp [go_sem]
        | 3, hj => simp at hj; subst hj; simp [go_sem]
        | 4, hj => simp at hj; subst hj; simp [go_sem]
        | j + 5, hj => simp at hj)
    have H2 := hide ham
    clear ham
    obtain ⟨ov, hov⟩ := HC.out 2 (by omega)
    go_wp2_with (go_at_call 82; (with_reducible refine (H2.out).mono ?_); rintro e w2 ⟨z, rfl, hz, hs2, ho2⟩; have X3 := hide (X2.out.only ho2 (by omega)); have k0 : w2.cell? ⟨g, o + 2, none⟩ = some ov := (X3.out.cell (o + 2)).trans hov; have f0 := X3.out.fro (o + 2))
    (try simp only [Exit.inBlock, Exit.then]); refine bodyPost_end (results_none rfl _ _ _) rfl ⟨2, z, w2, rfl, by omega, rfl, hs2.more (by omega), only_trans O2.out ho2⟩
  · have S2 := hide (S1.out.alloc (.cells #[.int .i64 (-1), .int .i64 0, .int .i64 40, .int .i64 41] 2))
    have X2 := hide (X1.out.alloc (.cells #[.int .i64 (-1), .int .i64 0, .int .i64 40, .int .i64 41] 2))
    have O2 := hide (only_alloc O1.out (.cells #[.int .i64 (-1), .int .i64 0, .int .i64 40, .int .i64 41] 2))
    have ham : Calls Try.prog 82 #[.pointer (some ⟨b, 0, none⟩), .slice (some ⟨w1.heap.size, 0, none⟩) 4 4] (w1.alloc (.cells #[.int .i64 (-1), .int .i64 0, .int .i64 40, .int .i64 41] 2)) fun e w' => ∃ z, e = .returned (.int .i64 z) ∧ z ∈ ([(-1), 0, 40, 41] : List Int) ∧ SrcAt b bs (N + 2 + 2) w' ∧ Only b (b + 1) (w1.alloc (.cells #[.int .i64 (-1), .int .i64 0, .int .i64 40, .int .i64 41] 2)) w' := HAM.out (N + 2) w1.heap.size 0 4 ([(-1), 0, 40, 41] : List Int) _ (by omega) S2.out (by omega) (by simp) (by simp) (by simp) (fun j z hj => by
        match j, hj with
        | 0, hj => simp at hj; subst hj; simp [go_sem]
        | 1, hj => simp at hj; subst hj; simp [go_sem]
        | 2, hj => simp at hj; subst hj; simp [go_sem]
        | 3, hj => simp at hj; subst hj; simp [go_sem]
        | j + 4, hj => simp at hj)
    have H2 := hide ham
    clear ham
    obtain ⟨ov, hov⟩ := HC.out 3 (by omega)
    go_wp2_with (go_at_call 82; (with_reducible refine (H2.out).mono ?_); rintro e w2 ⟨z, rfl, hz, hs2, ho2⟩; have X3 := hide (X2.out.only ho2 (by omega)); have k0 : w2.cell? ⟨g, o + 3, none⟩ = some ov := (X3.out.cell (o + 3)).trans hov; have f0 := X3.out.fro (o + 3))
    (try simp only [Exit.inBlock, Exit.then]); refine bodyPost_end (results_none rfl _ _ _) rfl ⟨3, z, w2, rfl, by omega, rfl, hs2.more (by omega), only_trans O2.out ho2⟩
theorem rideTicks_any (b : Nat) (bs : List Int) (N : Int) (w : World) (hbs : BsOk bs) (hN : N ≤ 1099509000000) (h : SrcAt b bs N w) :
    Calls Try.prog 120 #[.pointer (some ⟨b, 0, none⟩)] w fun e w' => ∃ z, e = .returned (.int .i64 z) ∧ SrcAt b bs (N + 10) w' ∧ Only b (b + 1) w w' := by
  have hbl := h.lt
  have HP := hide fun M n W (hM : M ≤ 1099511000000) (hW : SrcAt b bs M W) => pick_any b bs M n W hbs hM hW
  have HO1 := hide fun M n W (hM : M ≤ 1099511000000) (hW : SrcAt b bs M W) => one_any b bs M n W hbs hM hW
  have HAM := hide fun M g o c xs W (hM : M ≤ 1099511000000) (hW : SrcAt b bs M W) => among_any b bs M g o c xs W hbs hM hW
  have H0 := hide h
  clear h
  go_enter Try.func120, Try.ntmps120
  go_upto_if 4 with (go_at_call 102; (with_reducible refine (HO1.out N 8 _ (by omega) H0.out).mono ?_); rintro e w1 ⟨v, rfl, hs1, ho1⟩)
  have S1 := hide hs1
  have O1 := hide ho1
  have hz1 := ho1.size
  clear hs1 ho1 H0
  cases v
  · have HC := hide (HP.out (N + 2) 200 _ (by omega) S1.out)
    go_wp2_with (go_at_call 94; (with_reducible refine (HC.out).mono ?_); rintro e w2 ⟨z, rfl, _, hs2, ho2⟩)
    go_ret
    exact ⟨z, rfl, hs2.more (by omega), only_trans O1.out ho2⟩
  · have S2 := hide (S1.out.alloc (.cells #[.int .i64 (-1), .int .i64 0, .int .i64 1, .int .i64 1000000, .int .i64 1000001, .int .i64 (-9223372036854775808)] 2))
    have ham : Calls Try.prog 82 #[.pointer (some ⟨b, 0, none⟩), .slice (some ⟨w1.heap.size, 0, none⟩) 6 6] (w1.alloc (.cells #[.int .i64 (-1), .int .i64 0, .int .i64 1, .int .i64 1000000, .int .i64 1000001, .int .i64 (-9223372036854775808)] 2)) fun e w' => ∃ z, e = .returned (.int .i64 z) ∧ z ∈ ([(-1), 0, 1, 1000000, 1000001, (-9223372036854775808)] : List Int) ∧ SrcAt b bs (N + 2 + 2) w' ∧ Only b (b + 1) (w1.alloc (.cells #[.int .i64 (-1), .int .i64 0, .int .i64 1, .int .i64 1000000, .int .i64 1000001, .int .i64 (-9223372036854775808)] 2)) w' := HAM.out (N + 2) w1.heap.size 0 6 ([(-1), 0, 1, 1000000, 1000001, (-9223372036854775808)] : List Int) _ (by omega) S2.out (by omega) (by simp) (by simp) (by simp) (fun j z hj => by
        match j, hj with
        | 0, hj => simp at hj; subst hj; simp [go_sem]
        | 1, hj => simp at hj; subst hj; simp [go_sem]
        | 2, hj => simp at hj; subst hj; simp [go_sem]
        | 3, hj => simp at hj; subst hj; simp [go_sem]
        | 4, hj => simp at hj; subst hj; simp [go_sem]
        | 5, hj => simp at hj; subst hj; simp [go_sem]
        | j + 6, hj => simp at hj)
    have H2 := hide ham
    clear ham
    have O2 := hide (only_alloc O1.out (.cells #[.int .i64 (-1), .int .i64 0, .int .i64 1, .int .i64 1000000, .int .i64 1000001, .int .i64 (-9223372036854775808)] 2))
    go_wp2_with (go_at_call 82; (with_reducible refine (H2.out).mono ?_); rintro e w2 ⟨z, rfl, hz, hs2, ho2⟩)
    go_ret
    exact ⟨z, rfl, hs2.more (by omega), only_trans O2.out ho2⟩
theorem anyRide_any (b : Nat) (bs : List Int) (N : Int) (w : World) (hbs : BsOk bs) (hN : N ≤ 1099509000000) (h : SrcAt b bs N w) :
    Calls Try.prog 133 #[.pointer (some ⟨b, 0, none⟩)] w fun e w' => ∃ x : T4, e = .returned (.agg #[.int .i64 x.a, .int .i64 x.b, .int .i64 x.c, .int .i64 x.d]) ∧ SrcAt b bs (N + 100) w' ∧ Only b (b + 1) w w' := by
  have hbl := h.lt
  have HNW := hide fun M W (hM : M ≤ 1099510000000) (hW : SrcAt b bs M W) => newRide_any b bs M W hbs hM hW
  have HO1 := hide fun M n W (hM : M ≤ 1099511000000) (hW : SrcAt b bs M W) => one_any b bs M n W hbs hM hW
  have HSP := hide fun M g o cs e W (hM : M ≤ 1099510000000) (hW : SrcAt b bs M W) => spoil_any b bs M g o cs e W hbs hM hW
  have X0 := hide (BoxN.new w #[.int .i64 0, .int .i64 0, .int .i64 0, .int .i64 0] 83)
  have S0 := hide (h.alloc (.cells #[.int .i64 0, .int .i64 0, .int .i64 0, .int .i64 0] 83))
  have O0 : Hid (Only b (b + 1) w (w.alloc (.cells #[.int .i64 0, .int .i64 0, .int .i64 0, .int .i64 0] 83))) := only_of_below ((Below.refl _ _).alloc (Nat.le_refl _) _)
  have z0 : w.heap.size + 1 ≤ (w.alloc (.cells #[.int .i64 0, .int .i64 0, .int .i64 0, .int .i64 0] 83)).heap.size := by simp
  clear h
  go_enter Try.func133, Try.ntmps133
  go_upto_region 1 with fail
  generalize w.alloc (.cells #[.int .i64 0, .int .i64 0, .int .i64 0, .int .i64 0] 83) = w0 at *
  have C0 := hide (HNW.out N w0 (by omega) S0.out)
  go_upto_region 2 with (go_at_call 156; (with_reducible refine (C0.out).mono ?_); rintro e w1 ⟨x, rfl, hs1, ho1⟩; have X1 := hide (X0.out.only ho1 (.inr (by omega))); have z1 := ho1.size; have O1 := hide (only_trans O0.out ho1); have S1 := hide hs1; clear hs1 ho1 C0 X0 S0 O0)
  have X2 := hide (X1.out.alloc (.cells #[.int .i64 x.a, .int .i64 x.b, .int .i64 x.c, .int .i64 x.d] 83))
  have Y2 := hide (BoxN.new w1 #[.int .i64 x.a, .int .i64 x.b, .int .i64 x.c, .int .i64 x.d] 83)
  have S2 := hide (S1.out.alloc (.cells #[.int .i64 x.a, .int .i64 x.b, .int .i64 x.c, .int .i64 x.d] 83))
  have O2 := hide (only_alloc O1.out (.cells #[.int .i64 x.a, .int .i64 x.b, .int .i64 x.c, .int .i64 x.d] 83))
  have z2 : w1.heap.size + 1 ≤ (w1.alloc (.cells #[.int .i64 x.a, .int .i64 x.b, .int .i64 x.c, .int .i64 x.d] 83)).heap.size := by simp
  have zz : w.heap.size < w1.heap.size := by omega
  clear X1 S1 O1
  generalize hgt : w1.heap.size = gt at *
  generalize w1.alloc (.cells #[.int .i64 x.a, .int .i64 x.b, .int .i64 x.c, .int .i64 x.d] 83) = w2 at *
  clear hgt
  have C2 := hide (HO1.out (N + 10) 10 w2 (by omega) S2.out)
  go_upto_if 7 with (go_at_call 102; (with_reducible refine (C2.out).mono ?_); rintro e w3 ⟨v, rfl, hs3, ho3⟩)
  have X3 := hide (X2.out.only ho3 (.inr (by omega)))
  have Y3 := hide (Y2.out.only ho3 (.inr (by omega)))
  have O3 := hide (only_trans O2.out ho3)
  have S3 := hide hs3
  have z3 := ho3.size
  clear hs3 ho3 C2 X2 Y2 S2 O2
  cases v
  · have y0 : w3.cell? ⟨gt, 0, none⟩ = some (.int .i64 x.a) := Y3.out.cell 0
    have y1 : w3.cell? ⟨gt, 1, none⟩ = some (.int .i64 x.b) := Y3.out.cell 1
    have y2 : w3.cell? ⟨gt, 2, none⟩ = some (.int .i64 x.c) := Y3.out.cell 2
    have y3 : w3.cell? ⟨gt, 3, none⟩ = some (.int .i64 x.d) := Y3.out.cell 3
    have m0 : w3.cell? ⟨w.heap.size, 0, none⟩ = some (.int .i64 0) := X3.out.cell 0
    have n0 := X3.out.fro 0
    have T0 := hide (X3.out.set 0 (.int .i64 x.a))
    have m1 : (w3.setCell ⟨w.heap.size, 0, none⟩ (.int .i64 x.a)).cell? ⟨w.heap.size, 1, none⟩ = some (.int .i64 0) := T0.out.cell 1
    have n1 := T0.out.fro 1
    have T1 := hide (T0.out.set 1 (.int .i64 x.b))
    have m2 : ((w3.setCell ⟨w.heap.size, 0, none⟩ (.int .i64 x.a)).setCell ⟨w.heap.size, 1, none⟩ (.int .i64 x.b)).cell? ⟨w.heap.size, 2, none⟩ = some (.int .i64 0) := T1.out.cell 2
    have n2 := T1.out.fro 2
    have T2 := hide (T1.out.set 2 (.int .i64 x.c))
    have m3 : (((w3.setCell ⟨w.heap.size, 0, none⟩ (.int .i64 x.a)).setCell ⟨w.heap.size, 1, none⟩ (.int .i64 x.b)).setCell ⟨w.heap.size, 2, none⟩ (.int .i64 x.c)).cell? ⟨w.heap.size, 3, none⟩ = some (.int .i64 0) := T2.out.cell 3
    have n3 := T2.out.fro 3
    have T3 := hide (T2.out.set 3 (.int .i64 x.d))
    go_wp2_with fail
    have q0 : ((((w3.setCell ⟨w.heap.size, 0, none⟩ (.int .i64 x.a)).setCell ⟨w.heap.size, 1, none⟩ (.int .i64 x.b)).setCell ⟨w.heap.size, 2, none⟩ (.int .i64 x.c)).setCell ⟨w.heap.size, 3, none⟩ (.int .i64 x.d)).cell? ⟨w.heap.size, 0, none⟩ = some (.int .i64 x.a) := T3.out.cell 0
    have q1 : ((((w3.setCell ⟨w.heap.size, 0, none⟩ (.int .i64 x.a)).setCell ⟨w.heap.size, 1, none⟩ (.int .i64 x.b)).setCell ⟨w.heap.size, 2, none⟩ (.int .i64 x.c)).setCell ⟨w.heap.size, 3, none⟩ (.int .i64 x.d)).cell? ⟨w.heap.size, 1, none⟩ = some (.int .i64 x.b) := T3.out.cell 1
    have q2 : ((((w3.setCell ⟨w.heap.size, 0, none⟩ (.int .i64 x.a)).setCell ⟨w.heap.size, 1, none⟩ (.int .i64 x.b)).setCell ⟨w.heap.size, 2, none⟩ (.int .i64 x.c)).setCell ⟨w.heap.size, 3, none⟩ (.int .i64 x.d)).cell? ⟨w.heap.size, 2, none⟩ = some (.int .i64 x.c) := T3.out.cell 2
    have q3 : ((((w3.setCell ⟨w.heap.size, 0, none⟩ (.int .i64 x.a)).setCell ⟨w.heap.size, 1, none⟩ (.int .i64 x.b)).setCell ⟨w.heap.size, 2, none⟩ (.int .i64 x.c)).setCell ⟨w.heap.size, 3, none⟩ (.int .i64 x.d)).cell? ⟨w.heap.size, 3, none⟩ = some (.int .i64 x.d) := T3.out.cell 3
    refine bodyPost_ret (v := .agg #[.int .i64 x.a, .int .i64 x.b, .int .i64 x.c, .int .i64 x.d]) (by simp [results, Try.results133, go_sem, q0, q1, q2, q3]) rfl ⟨⟨x.a, x.b, x.c, x.d⟩, rfl, ?_, ?_⟩
    · exact ((((S3.out.set ⟨w.heap.size, 0, none⟩ (.int .i64 x.a) (by dsimp only; omega)).set ⟨w.heap.size, 1, none⟩ (.int .i64 x.b) (by dsimp only; omega)).set ⟨w.heap.size, 2, none⟩ (.int .i64 x.c) (by dsimp only; omega)).set ⟨w.heap.size, 3, none⟩ (.int .i64 x.d) (by dsimp only; omega)).more (by omega)
    · exact (only_in (a := ⟨w.heap.size, 3, none⟩) (v := .int .i64 x.d) (only_in (a := ⟨w.heap.size, 2, none⟩) (v := .int .i64 x.c) (only_in (a := ⟨w.heap.size, 1, none⟩) (v := .int .i64 x.b) (only_in (a := ⟨w.heap.size, 0, none⟩) (v := .int .i64 x.a) O3.out (Nat.le_refl _)) (Nat.le_refl _)) (Nat.le_refl _)) (Nat.le_refl _))
  · have C4 := hide (HSP.out (N + 12) gt 0 #[.int .i64 x.a, .int .i64 x.b, .int .i64 x.c, .int .i64 x.d] 83 w3 (by omega) (S3.out.more (by omega)) Y3.out (by omega) (fun j hj => by
      match j, hj with
      | 0, _ => exact ⟨_, rfl⟩
      | 1, _ => exact ⟨_, rfl⟩
      | 2, _ => exact ⟨_, rfl⟩
      | 3, _ => exact ⟨_, rfl⟩))
    go_upto_region 4 with (go_at_call 157; (with_reducible refine (C4.out).mono ?_); rintro e w5 ⟨j, z, w4, rfl, hj, hw5', hs4, ho4⟩; have HW5 := hide hw5'; clear hw5')
    have hw5 := HW5.out
    have hY5 : ∃ u : T4, BoxN w5 gt #[.int .i64 u.a, .int .i64 u.b, .int .i64 u.c, .int .i64 u.d] 83 := by
      have h4 := Y3.out.only ho4 (.inr (by omega))
      rw [hw5, Nat.zero_add]
      match j, hj with
      | 0, _ => exact ⟨⟨z, x.b, x.c, x.d⟩, h4.set 0 (.int .i64 z)⟩
      | 1, _ => exact ⟨⟨x.a, z, x.c, x.d⟩, h4.set 1 (.int .i64 z)⟩
      | 2, _ => exact ⟨⟨x.a, x.b, z, x.d⟩, h4.set 2 (.int .i64 z)⟩
      | 3, _ => exact ⟨⟨x.a, x.b, x.c, z⟩, h4.set 3 (.int .i64 z)⟩
    obtain ⟨u, hy5⟩ := hY5
    have Y5 := hide hy5
    have X5 : Hid (BoxN w5 w.heap.size #[.int .i64 0, .int .i64 0, .int .i64 0, .int .i64 0] 83) := by rw [hw5]; exact (X3.out.only ho4 (.inr (by omega))).other (b' := gt) (by omega) _ _
    have S5 : Hid (SrcAt b bs (N + 12 + 10) w5) := by rw [hw5]; exact hs4.set ⟨gt, 0 + j, none⟩ (.int .i64 z) (by dsimp only; omega)
    have O5 : Hid (Only b (b + 1) w w5) := by rw [hw5]; exact only_in (only_trans O3.out ho4) (by dsimp only; omega)
    clear hw5 HW5 hs4 ho4 hy5 C4
    have y0 : w5.cell? ⟨gt, 0, none⟩ = some (.int .i64 u.a) := Y5.out.cell 0
    have y1 : w5.cell? ⟨gt, 1, none⟩ = some (.int .i64 u.b) := Y5.out.cell 1
    have y2 : w5.cell? ⟨gt, 2, none⟩ = some (.int .i64 u.c) := Y5.out.cell 2
    have y3 : w5.cell? ⟨gt, 3, none⟩ = some (.int .i64 u.d) := Y5.out.cell 3
    have m0 : w5.cell? ⟨w.heap.size, 0, none⟩ = some (.int .i64 0) := X5.out.cell 0
    have n0 := X5.out.fro 0
    have T0 := hide (X5.out.set 0 (.int .i64 u.a))
    have m1 : (w5.setCell ⟨w.heap.size, 0, none⟩ (.int .i64 u.a)).cell? ⟨w.heap.size, 1, none⟩ = some (.int .i64 0) := T0.out.cell 1
    have n1 := T0.out.fro 1
    have T1 := hide (T0.out.set 1 (.int .i64 u.b))
    have m2 : ((w5.setCell ⟨w.heap.size, 0, none⟩ (.int .i64 u.a)).setCell ⟨w.heap.size, 1, none⟩ (.int .i64 u.b)).cell? ⟨w.heap.size, 2, none⟩ = some (.int .i64 0) := T1.out.cell 2
    have n2 := T1.out.fro 2
    have T2 := hide (T1.out.set 2 (.int .i64 u.c))
    have m3 : (((w5.setCell ⟨w.heap.size, 0, none⟩ (.int .i64 u.a)).setCell ⟨w.heap.size, 1, none⟩ (.int .i64 u.b)).setCell ⟨w.heap.size, 2, none⟩ (.int .i64 u.c)).cell? ⟨w.heap.size, 3, none⟩ = some (.int .i64 0) := T2.out.cell 3
    have n3 := T2.out.fro 3
    have T3 := hide (T2.out.set 3 (.int .i64 u.d))
    go_wp2_with fail
    have q0 : ((((w5.setCell ⟨w.heap.size, 0, none⟩ (.int .i64 u.a)).setCell ⟨w.heap.size, 1, none⟩ (.int .i64 u.b)).setCell ⟨w.heap.size, 2, none⟩ (.int .i64 u.c)).setCell ⟨w.heap.size, 3, none⟩ (.int .i64 u.d)).cell? ⟨w.heap.size, 0, none⟩ = some (.int .i64 u.a) := T3.out.cell 0
    have q1 : ((((w5.setCell ⟨w.heap.size, 0, none⟩ (.int .i64 u.a)).setCell ⟨w.heap.size, 1, none⟩ (.int .i64 u.b)).setCell ⟨w.heap.size, 2, none⟩ (.int .i64 u.c)).setCell ⟨w.heap.size, 3, none⟩ (.int .i64 u.d)).cell? ⟨w.heap.size, 1, none⟩ = some (.int .i64 u.b) := T3.out.cell 1
    have q2 : ((((w5.setCell ⟨w.heap.size, 0, none⟩ (.int .i64 u.a)).setCell ⟨w.heap.size, 1, none⟩ (.int .i64 u.b)).setCell ⟨w.heap.size, 2, none⟩ (.int .i64 u.c)).setCell ⟨w.heap.size, 3, none⟩ (.int .i64 u.d)).cell? ⟨w.heap.size, 2, none⟩ = some (.int .i64 u.c) := T3.out.cell 2
    have q3 : ((((w5.setCell ⟨w.heap.size, 0, none⟩ (.int .i64 u.a)).setCell ⟨w.heap.size, 1, none⟩ (.int .i64 u.b)).setCell ⟨w.heap.size, 2, none⟩ (.int .i64 u.c)).setCell ⟨w.heap.size, 3, none⟩ (.int .i64 u.d)).cell? ⟨w.heap.size, 3, none⟩ = some (.int .i64 u.d) := T3.out.cell 3
    refine bodyPost_ret (v := .agg #[.int .i64 u.a, .int .i64 u.b, .int .i64 u.c, .int .i64 u.d]) (by simp [results, Try.results133, go_sem, q0, q1, q2, q3]) rfl ⟨⟨u.a, u.b, u.c, u.d⟩, rfl, ?_, ?_⟩
    · exact ((((S5.out.set ⟨w.heap.size, 0, none⟩ (.int .i64 u.a) (by dsimp only; omega)).set ⟨w.heap.size, 1, none⟩ (.int .i64 u.b) (by dsimp only; omega)).set ⟨w.heap.size, 2, none⟩ (.int .i64 u.c) (by dsimp only; omega)).set ⟨w.heap.size, 3, none⟩ (.int .i64 u.d) (by dsimp only; omega)).more (by omega)
    · exact (only_in (a := ⟨w.heap.size, 3, none⟩) (v := .int .i64 u.d) (only_in (a := ⟨w.heap.size, 2, none⟩) (v := .int .i64 u.c) (only_in (a := ⟨w.heap.size, 1, none⟩) (v := .int .i64 u.b) (only_in (a := ⟨w.heap.size, 0, none⟩) (v := .int .i64 u.a) O5.out (Nat.le_refl _)) (Nat.le_refl _)) (Nat.le_refl _)) (Nat.le_refl _))
theorem ride_setj {xs : List T4} {k j : Nat} {x : T4} (z : Int) (hx : xs[k]? = some x) (hj : j < 4) : ∃ ys : List T4, ys.length = xs.length ∧ (xs.flatMap T4.cells).set (k * 4 + j) (.int .i64 z) = ys.flatMap T4.cells := by
  match j, hj with
  | 0, _ => exact ⟨xs.set k ⟨z, x.b, x.c, x.d⟩, by simp, flatMap_set T4.cells 4 (fun _ => rfl) xs k 0 x ⟨z, x.b, x.c, x.d⟩ (.int .i64 z) hx (by omega) rfl⟩
  | 1, _ => exact ⟨xs.set k ⟨x.a, z, x.c, x.d⟩, by simp, flatMap_set T4.cells 4 (fun _ => rfl) xs k 1 x ⟨x.a, z, x.c, x.d⟩ (.int .i64 z) hx (by omega) rfl⟩
  | 2, _ => exact ⟨xs.set k ⟨x.a, x.b, z, x.d⟩, by simp, flatMap_set T4.cells 4 (fun _ => rfl) xs k 2 x ⟨x.a, x.b, z, x.d⟩ (.int .i64 z) hx (by omega) rfl⟩
  | 3, _ => exact ⟨xs.set k ⟨x.a, x.b, x.c, z⟩, by simp, flatMap_set T4.cells 4 (fun _ => rfl) xs k 3 x ⟨x.a, x.b, x.c, z⟩ (.int .i64 z) hx (by omega) rfl⟩
theorem someRides_any (b : Nat) (bs : List Int) (N : Int) (w : World) (hbs : BsOk bs) (hN : N ≤ 1099508000000) (h : SrcAt b bs N w) :
    Calls Try.prog 119 #[.pointer (some ⟨b, 0, none⟩)] w fun e w' => ∃ (xs : List T4) (A : Option Addr) (c : Nat), e = .returned (.slice A xs.length c) ∧ xs.length ≤ 9 ∧ w'.ownsRow w.heap.size 83 4 (.slice A xs.length c) xs.length (xs.flatMap T4.cells) ∧ SrcAt b bs (N + 200) w' ∧ Only b (b + 1) w w' := by
  have hinfo : (Try.prog.info? 83).map (fun i => (i.zero, i.size, i.bytes)) = some (some (.agg #[.int .i64 0, .int .i64 0, .int .i64 0, .int .i64 0]), 4, 32) := by kernel_rfl
  obtain ⟨i0, hi0, hz0, hs0, hb0⟩ := info_parts hinfo
  clear hinfo
  have hbl := h.lt
  have HP := hide fun M n W (hM : M ≤ 1099511000000) (hW : SrcAt b bs M W) => pick_any b bs M n W hbs hM hW
  have HNW := hide fun M W (hM : M ≤ 1099510000000) (hW : SrcAt b bs M W) => newRide_any b bs M W hbs hM hW
  have HO1 := hide fun M n W (hM : M ≤ 1099511000000) (hW : SrcAt b bs M W) => one_any b bs M n W hbs hM hW
  have HSP := hide fun M g o cs e W (hM : M ≤ 1099510000000) (hW : SrcAt b bs M W) => spoil_any b bs M g o cs e W hbs hM hW
  have S0 := hide (h.alloc (.cells #[] 83))
  have R0 := hide (own_new0 w w.heap.size 83 4 (Nat.le_refl _))
  have O0 : Hid (Only b (b + 1) w (w.alloc (.cells #[] 83))) := only_of_below ((Below.refl _ _).alloc (Nat.le_refl _) _)
  have z0 : w.heap.size + 1 ≤ (w.alloc (.cells #[] 83)).heap.size := by simp
  clear h
  go_enter Try.func119, Try.ntmps119
  go_upto_region 2 with fail
  generalize w.alloc (.cells #[] 83) = w0 at *
  have C0 := hide (HP.out N 5 w0 (by omega) S0.out)
  go_upto_region 3 with (go_at_call 94; (with_reducible refine (C0.out).mono ?_); rintro e w1 ⟨z, rfl, ⟨hpa, hpb', _⟩, hs1, ho1⟩)
  have hz5 := hpb' (by omega)
  obtain ⟨n0, rfl⟩ := Int.eq_ofNat_of_zero_le hpa
  have R1 := hide (row_only R0.out ho1 (by omega))
  have O1 := hide (only_trans O0.out ho1)
  have S1 := hide hs1
  have z1 := ho1.size
  clear hs1 ho1 C0 R0 O0 S0 hpb'
  have C1 := hide (HO1.out (N + 2) 16 w1 (by omega) S1.out)
  go_upto_if 10 with (go_at_call 102; (with_reducible refine (C1.out).mono ?_); rintro e w2 ⟨v, rfl, hs2, ho2⟩)
  have R2 := hide (row_only R1.out ho2 (by omega))
  have O2 := hide (only_trans O1.out ho2)
  have S2 := hide hs2
  have z2 := ho2.size
  clear hs2 ho2 C1 R1 O1 S1
  go_cut [4] (fun cv wx => ∃ n : Nat, cv = .int .i64 n ∧ n ≤ 9 ∧ Hid (wx.ownsRow w.heap.size 83 4 (.slice (some ⟨w.heap.size, 0, none⟩) 0 0) 0 []) ∧ Hid (Only b (b + 1) w wx) ∧ Hid (SrcAt b bs (N + 6) wx) ∧ w.heap.size + 1 ≤ wx.heap.size)
  case first =>
    cases v
    · go_wp2_with fail
      go_meet
      exact ⟨n0, rfl, by omega, R2, O2, hide (S2.out.more (by omega)), by omega⟩
    · have C2 := hide (HP.out (N + 2 + 2) 2 w2 (by omega) S2.out)
      go_wp2_with (go_at_call 94; (with_reducible refine (C2.out).mono ?_); rintro e w3 ⟨q, rfl, ⟨hq0, hq1', _⟩, hs3, ho3⟩; have hq2 := hq1' (by omega))
      go_meet
      exact ⟨(8 + q).toNat, by rw [Int.toNat_of_nonneg (by omega)], by omega, hide (row_only R2.out ho3 (by omega)), hide (only_trans O2.out ho3), hide (hs3.more (by omega)), by have := ho3.size; omega⟩
  case rest =>
    obtain ⟨n, rfl, hn9, R3, O3, S3, z3⟩ := hcut
    clear R2 O2 S2 z2 z1 z0
    go_wp2_with fail
    go_loopg [3, 5] n (fun g s i wr => ∃ (k : Nat) (acc : List T4), Hid (g = k) ∧ i = .int .i64 k ∧ k + acc.length = n ∧ wr.ownsRow w.heap.size 83 4 s acc.length (acc.flatMap T4.cells) ∧ Hid (Only b (b + 1) w wr) ∧ Hid (SrcAt b bs (N + 6 + 10 * (acc.length : Int)) wr) ∧ w.heap.size + 1 ≤ wr.heap.size)
    case atStart => exact ⟨n, [], rfl, rfl, by simp, R3.out, O3, hide (S3.out.more (by simp)), z3⟩
    case round =>
      obtain ⟨k, acc, hg, rfl, hka, hown, OR, SR, zr⟩ := hrel
      clear R3 O3 S3 z3
      by_cases hk0 : 0 < k
      · have hk0' : (0 : Int) < (k : Int) := by omega
        have C3 := hide (HNW.out (N + 6 + 10 * (acc.length : Int)) wr (by omega) SR.out)
        have HOW := hide hown
        clear hown
        go_wp2_with (first
          | (go_at_call 156; (with_reducible refine (C3.out).mono ?_); rintro e w4 ⟨x, rfl, hs4, ho4⟩; have R4 := hide (row_only HOW.out ho4 (by omega)); have O4 := hide (only_trans OR.out ho4); have S4 := hide hs4; have z4 := ho4.size; have hown4 := R4.out.alloc (.cells #[.int .i64 x.a, .int .i64 x.b, .int .i64 x.c, .int .i64 x.d] 83); have hrd := rd_new w4 [.int .i64 x.a, .int .i64 x.b, .int .i64 x.c, .int .i64 x.d] 83 _ rfl; clear hs4 ho4)
          | (at_builtin; go_must (refine wp_app _ rfl _ _ 73 rfl w.heap.size 83 i0 (.agg #[.int .i64 0, .int .i64 0, .int .i64 0, .int .i64 0]) 4 32 Try.underlying73 hi0 hz0 hs0 hb0 rfl (by decide) _ _ _ rfl hown4 _ _ 1 1 [.int .i64 x.a, .int .i64 x.b, .int .i64 x.c, .int .i64 x.d] rfl rfl hrd (by intro q hq; simp at hq; rcases hq with rfl | rfl | rfl | rfl <;> rfl) (by omega) (by decide) (by simp <;> omega) ?_); intro v' w6 hown' hgrow hat))
        have O5 := only_alloc O4.out (.cells #[.int .i64 x.a, .int .i64 x.b, .int .i64 x.c, .int .i64 x.d] 83)
        have S5 := S4.out.alloc (.cells #[.int .i64 x.a, .int .i64 x.b, .int .i64 x.c, .int .i64 x.d] 83)
        go_roundg (k - 1)
        case measure => have := hg.out; omega
        case rel => exact ⟨k - 1, acc ++ [x], rfl, by first | go_num | (congr 1; omega), by simp; omega, by
            rw [List.length_append, List.flatMap_append]; exact hown', hide (only_app O5 hown4 hgrow (Nat.le_refl _)), hide ((S5.grown hgrow (fun g e => by have := (hown4.lt g e).1; omega)).more (by simp; omega)), by have := hgrow.size; simp at this; omega⟩
      · obtain rfl : k = 0 := by omega
        obtain rfl : acc.length = n := by omega
        obtain ⟨A5, c5, rfl, hcc, _⟩ := own_shape hown
        have HOW := hide hown
        clear hown
        by_cases hn0 : 0 < acc.length
        case neg =>
          have hn0' : ¬ ((0 : Int) < (acc.length : Int)) := by omega
          go_wp2_with fail
          go_ret
          exact ⟨acc, A5, c5, rfl, hn9, HOW.out, SR.out.more (by omega), OR.out⟩
        have hn0' : (0 : Int) < (acc.length : Int) := by omega
        have C4 := hide (HO1.out (N + 6 + 10 * (acc.length : Int)) 10 wr (by omega) SR.out)
        go_upto_if 29 with (go_at_call 102; (with_reducible refine (C4.out).mono ?_); rintro e w4 ⟨v, rfl, hs4, ho4⟩)
        have R4 := hide (row_only HOW.out ho4 (by omega))
        have O4 := hide (only_trans OR.out ho4)
        have S4 := hide hs4
        clear hs4 ho4 C4
        cases v
        · go_wp2_with fail
          go_ret
          exact ⟨acc, A5, c5, rfl, hn9, R4.out, S4.out.more (by omega), O4.out⟩
        · have C5 := hide (HP.out (N + 6 + 10 * (acc.length : Int) + 2) (acc.length : Int) w4 (by omega) S4.out)
          rcases R4.out.2 with ⟨_, h0⟩ | ⟨gr, cap, cur, e5, hgb, hgh, hnc, hcm, hcs, htk⟩
          · omega
          injection e5 with e6 _ e7
          subst e6; subst e7
          have hgl : gr < w4.heap.size := lt_of_block hgh
          have XB5 := hide (show BoxN w4 gr cur 83 from hgh)
          clear hgh htk
          go_wp2_with (first
            | (go_at_call 94; (with_reducible refine (C5.out).mono ?_); rintro e w5 ⟨q, rfl, ⟨hq0, hq1', _⟩, hs5, ho5⟩; have hq2 := hq1' (by omega); obtain ⟨qn, rfl⟩ := Int.eq_ofNat_of_zero_le hq0; have R5 := hide (row_only R4.out ho5 (by omega)); have O5 := hide (only_trans O4.out ho5); have X5 := hide (XB5.out.only ho5 (.inr (by omega))); have hq4 : qn < acc.length := by omega)
            | (go_at_call 157; (with_reducible refine (HSP.out (N + 200 - 20) gr (qn * 4) cur 83 _ (by omega) (hs5.more (by omega)) X5.out (by omega) (fun j hj => ⟨_, List.getElem?_eq_getElem (by rw [Array.length_toList, hcs]; omega)⟩)).mono ?_); rintro e w6 ⟨j, zz, w7, rfl, hj, hw6', hs6, ho6⟩; have HW6 := hide hw6'; clear hw6'))
          go_ret
          obtain ⟨xq, hxq⟩ : ∃ xq, acc[qn]? = some xq := ⟨_, List.getElem?_eq_getElem hq4⟩
          obtain ⟨ys, hyl, hys⟩ := ride_setj (j := j) zz hxq hj
          have R7 := row_only R5.out ho6 (by omega)
          have hst := (R7.stored (qn * 4 + j) (.int .i64 zz)).1
          rw [hys] at hst
          rw [HW6.out]
          refine ⟨ys, some ⟨gr, 0, none⟩, c5, by rw [hyl]; rfl, by omega, by rw [hyl]; exact hst, (hs6.set ⟨gr, qn * 4 + j, none⟩ (.int .i64 zz) (by dsimp only; omega)).more (by omega), only_in (only_trans O5.out ho6) hgb⟩

theorem drawPlace_any (bs : List Int) (A : Option Addr) (c : Nat) (w : World) (hbs : BsOk bs) (h1 : RdB w w.heap.size A bs) :
    Calls Try.prog 45 #[.slice A bs.length c] w fun e w' => ∃ (xs : List T4) (A' : Option Addr) (c' : Nat) (t : Int), e = .returned (.tuple #[.slice A' xs.length c', .int .i64 t]) ∧ xs.length ≤ 9 ∧ w'.ownsRow w.heap.size 83 4 (.slice A' xs.length c') xs.length (xs.flatMap T4.cells) ∧ Below w.heap.size w w' := by
  have HF := hide (l00From_any bs A c w hbs.1 h1)
  have HSO := hide fun W (hW : SrcAt w.heap.size bs 0 W) => someRides_any w.heap.size bs 0 W hbs (by omega) hW
  have HTK := hide fun W (hW : SrcAt w.heap.size bs 200 W) => rideTicks_any w.heap.size bs 200 W hbs (by omega) hW
  clear h1
  go_enter Try.func45, Try.ntmps45
  go_wp2_with (first
    | (go_at_call 81; (with_reducible refine (HF.out).mono ?_); rintro e w1 ⟨rfl, hs1, hz1, hb1⟩; have S1 := hide hs1; have B1 := hide hb1; have hz1a := Nat.le_of_eq hz1.symm; clear hs1 hz1 hb1)
    | (go_at_call 119; (with_reducible refine (HSO.out _ S1.out).mono ?_); rintro e w2 ⟨xs, A2, c2, rfl, hl9, hown, hs2, ho2⟩; have S2 := hide (show SrcAt w.heap.size bs 200 w2 from hs2.more (by omega)); have R2 := hide hown; have B2 := hide (B1.out.trans (ho2.below (Nat.le_refl _) (by omega))); have hz2 := ho2.size; clear hs2 ho2 hown)
    | (go_at_call 120; (with_reducible refine (HTK.out _ S2.out).mono ?_); rintro e w3 ⟨t, rfl, hs3, ho3⟩))
  refine bodyPost_ret (v := .tuple #[.slice A2 xs.length c2, .int .i64 t]) (by simp [results, Try.results45, go_sem]) rfl ⟨xs, A2, c2, t, rfl, hl9, ?_, B2.out.trans (ho3.below (Nat.le_refl _) (by omega))⟩
  exact own_base (row_only R2.out ho3 (by omega)) (by omega)
theorem drawPress_any (bs : List Int) (A : Option Addr) (c : Nat) (w : World) (hbs : BsOk bs) (h1 : RdB w w.heap.size A bs) :
    Calls Try.prog 50 #[.slice A bs.length c] w fun e w' => ∃ (xs : List T4) (A' : Option Addr) (c' : Nat) (t : Int), e = .returned (.tuple #[.slice A' xs.length c', .int .i64 t]) ∧ xs.length ≤ 9 ∧ w'.ownsRow w.heap.size 83 4 (.slice A' xs.length c') xs.length (xs.flatMap T4.cells) ∧ Below w.heap.size w w' := by
  have HD := hide (drawPlace_any bs A c w hbs h1)
  clear h1
  go_enter Try.func50, Try.ntmps50
  go_wp2_with (go_at_call 45; (with_reducible refine (HD.out).mono ?_); rintro e w1 ⟨xs, A2, c2, t, rfl, hl9, hown, hb⟩)
  refine bodyPost_ret (v := .tuple #[.slice A2 xs.length c2, .int .i64 t]) (by simp [results, Try.results50, go_sem]) rfl ⟨xs, A2, c2, t, rfl, hl9, hown, hb⟩

/-- Two drawn rides: their boxes, the results' boxes. -/
structure CuSt (w : World) (bs : List Int) (N : Int) (b ga gb : Nat) (a y : T4) (W : World) : Prop where
  r2 : BoxN W w.heap.size #[.int .i64 0, .int .i64 0, .int .i64 0, .int .i64 0] 83
  r3 : BoxN W (w.heap.size + 1) #[.int .i64 0, .int .i64 0, .int .i64 0, .int .i64 0] 83
  xa : BoxN W ga #[.int .i64 a.a, .int .i64 a.b, .int .i64 a.c, .int .i64 a.d] 83
  xb : BoxN W gb #[.int .i64 y.a, .int .i64 y.b, .int .i64 y.c, .int .i64 y.d] 83
  src : SrcAt b bs N W
  bel : Below w.heap.size w W
  hb : b = w.heap.size + 2
  ha : w.heap.size + 3 ≤ ga
  hab : ga < gb
theorem CuSt.only {w : World} {bs : List Int} {N N' : Int} {b ga gb : Nat} {a y : T4} {W W' : World} (h : CuSt w bs N b ga gb a y W) (k : Only b (b + 1) W W') (hs : SrcAt b bs N' W') : CuSt w bs N' b ga gb a y W' := by
  have h1 := h.hb; have h2 := h.ha; have h3 := h.hab
  exact ⟨h.r2.only k (by omega), h.r3.only k (by omega), h.xa.only k (by omega), h.xb.only k (by omega), hs, h.bel.trans (k.below (by omega) h.bel.size), h1, h2, h3⟩
theorem CuSt.drew {w : World} {bs : List Int} {N : Int} {b ga gb : Nat} {a y : T4} {W : World} (h : CuSt w bs N b ga gb a y W) : CuSt w bs N b ga gb a y W.drew :=
  ⟨h.r2, h.r3, h.xa, h.xb, h.src.below (B := b + 1) (Below.refl _ _).drew (Nat.lt_succ_self b), h.bel.drew, h.hb, h.ha, h.hab⟩
theorem CuSt.alloc {w : World} {bs : List Int} {N : Int} {b ga gb : Nat} {a y : T4} {W : World} (h : CuSt w bs N b ga gb a y W) (o : Obj) : CuSt w bs N b ga gb a y (W.alloc o) :=
  ⟨h.r2.alloc o, h.r3.alloc o, h.xa.alloc o, h.xb.alloc o, h.src.alloc o, h.bel.alloc h.bel.size o, h.hb, h.ha, h.hab⟩
set_option maxRecDepth 100000 in
set_option maxHeartbeats 4000000 in
theorem drawCatch_any (bs : List Int) (A : Option Addr) (c : Nat) (w : World) (hbs : BsOk bs) (h1 : RdB w w.heap.size A bs) :
    Calls Try.prog 55 #[.slice A bs.length c] w fun e w' => ∃ (a y : T4) (t : Int), e = .returned (.tuple #[.agg #[.int .i64 a.a, .int .i64 a.b, .int .i64 a.c, .int .i64 a.d], .agg #[.int .i64 y.a, .int .i64 y.b, .int .i64 y.c, .int .i64 y.d], .int .i64 t]) ∧ Below w.heap.size w w' := by
  have X0 := hide (show BoxN ((w.alloc (.cells #[.int .i64 0, .int .i64 0, .int .i64 0, .int .i64 0] 83)).alloc (.cells #[.int .i64 0, .int .i64 0, .int .i64 0, .int .i64 0] 83)) w.heap.size #[.int .i64 0, .int .i64 0, .int .i64 0, .int .i64 0] 83 from (BoxN.new w _ _).alloc _)
  have Y0 := hide (show BoxN ((w.alloc (.cells #[.int .i64 0, .int .i64 0, .int .i64 0, .int .i64 0] 83)).alloc (.cells #[.int .i64 0, .int .i64 0, .int .i64 0, .int .i64 0] 83)) (w.heap.size + 1) #[.int .i64 0, .int .i64 0, .int .i64 0, .int .i64 0] 83 by have h := BoxN.new (w.alloc (.cells #[.int .i64 0, .int .i64 0, .int .i64 0, .int .i64 0] 83)) #[.int .i64 0, .int .i64 0, .int .i64 0, .int .i64 0] 83; simpa using h)
  have b0 : Below w.heap.size w ((w.alloc (.cells #[.int .i64 0, .int .i64 0, .int .i64 0, .int .i64 0] 83)).alloc (.cells #[.int .i64 0, .int .i64 0, .int .i64 0, .int .i64 0] 83)) := (by repeat (first | exact Below.refl _ _ | assumption | (refine Below.alloc ?_ (by simp <;> omega) _) | refine Below.drew ?_ | refine bdn ?_ _))
  have B0 := hide b0
  have z0 : ((w.alloc (.cells #[.int .i64 0, .int .i64 0, .int .i64 0, .int .i64 0] 83)).alloc (.cells #[.int .i64 0, .int .i64 0, .int .i64 0, .int .i64 0] 83)).heap.size = w.heap.size + 2 := by simp
  have HF := hide (l00From_any bs A c ((w.alloc (.cells #[.int .i64 0, .int .i64 0, .int .i64 0, .int .i64 0] 83)).alloc (.cells #[.int .i64 0, .int .i64 0, .int .i64 0, .int .i64 0] 83)) hbs.1 ((h1.below b0).more b0.size))
  rw [z0] at HF
  have HAN := hide fun M W (hM : M ≤ 1099509000000) (hW : SrcAt (w.heap.size + 2) bs M W) => anyRide_any (w.heap.size + 2) bs M W hbs hM hW
  have HO1 := hide fun M n W (hM : M ≤ 1099511000000) (hW : SrcAt (w.heap.size + 2) bs M W) => one_any (w.heap.size + 2) bs M n W hbs hM hW
  have HPK := hide fun M n W (hM : M ≤ 1099511000000) (hW : SrcAt (w.heap.size + 2) bs M W) => pick_any (w.heap.size + 2) bs M n W hbs hM hW
  have HAM := hide fun M g o c xs W (hM : M ≤ 1099511000000) (hW : SrcAt (w.heap.size + 2) bs M W) => among_any (w.heap.size + 2) bs M g o c xs W hbs hM hW
  clear h1 b0
  go_enter Try.func55, Try.ntmps55
  go_upto_region 1 with fail
  generalize ((w.alloc (.cells #[.int .i64 0, .int .i64 0, .int .i64 0, .int .i64 0] 83)).alloc (.cells #[.int .i64 0, .int .i64 0, .int .i64 0, .int .i64 0] 83)) = w0 at *
  go_upto_region 2 with (go_at_call 81; (with_reducible refine (HF.out).mono ?_); rintro e w1 ⟨rfl, hs1, hz1, hb1⟩)
  have X1 := hide (X0.out.below hb1 (by omega))
  have Y1 := hide (Y0.out.below hb1 (by omega))
  have B1 := hide (B0.out.trans (hb1.mono (by omega)))
  have S1 := hide hs1
  have z1 := Nat.le_of_eq hz1.symm
  clear hs1 hb1 hz1 X0 Y0 B0 HF
  go_upto_region 3 with (go_at_call 133; (with_reducible refine (HAN.out 0 _ (by omega) S1.out).mono ?_); rintro e w2 ⟨a, rfl, hs2, ho2⟩)
  have X2 := hide ((X1.out.only ho2 (by omega)).alloc (.cells #[.int .i64 a.a, .int .i64 a.b, .int .i64 a.c, .int .i64 a.d] 83))
  have Y2 := hide ((Y1.out.only ho2 (by omega)).alloc (.cells #[.int .i64 a.a, .int .i64 a.b, .int .i64 a.c, .int .i64 a.d] 83))
  have A2 := hide (BoxN.new w2 #[.int .i64 a.a, .int .i64 a.b, .int .i64 a.c, .int .i64 a.d] 83)
  have B2 := hide ((B1.out.trans (ho2.below (by omega) B1.out.size)).alloc (Nat.le_trans B1.out.size ho2.size) (.cells #[.int .i64 a.a, .int .i64 a.b, .int .i64 a.c, .int .i64 a.d] 83))
  have S2 := hide (hs2.alloc (.cells #[.int .i64 a.a, .int .i64 a.b, .int .i64 a.c, .int .i64 a.d] 83))
  have z2 := ho2.size
  have zg : w2.heap.size + 1 = (w2.alloc (.cells #[.int .i64 a.a, .int .i64 a.b, .int .i64 a.c, .int .i64 a.d] 83)).heap.size := by simp
  clear hs2 ho2 X1 Y1 B1 S1
  obtain ⟨ga, hga⟩ : ∃ ga, ga = w2.heap.size := ⟨_, rfl⟩
  rw [← hga] at A2 zg z2 ⊢
  clear hga
  generalize w2.alloc (.cells #[.int .i64 a.a, .int .i64 a.b, .int .i64 a.c, .int .i64 a.d] 83) = w3 at *
  go_upto_region 4 with (go_at_call 133; (with_reducible refine (HAN.out 200 _ (by omega) (S2.out.more (by omega))).mono ?_); rintro e w4 ⟨y0, rfl, hs4, ho4⟩)
  have ST0 := hide (show CuSt w bs 300 (w.heap.size + 2) ga w4.heap.size a y0 (w4.alloc (.cells #[.int .i64 y0.a, .int .i64 y0.b, .int .i64 y0.c, .int .i64 y0.d] 83)) from
    ⟨(X2.out.only ho4 (by omega)).alloc _, (Y2.out.only ho4 (by omega)).alloc _, (A2.out.only ho4 (by omega)).alloc _, BoxN.new w4 _ _, (hs4.alloc _).more (by omega), (B2.out.trans (ho4.below (by omega) B2.out.size)).alloc (Nat.le_trans B2.out.size ho4.size) _, rfl, by omega, by have := ho4.size; omega⟩)
  clear hs4 ho4 X2 Y2 A2 B2 S2 zg z2 z1
  generalize hgb : w4.heap.size = gb at *
  generalize w4.alloc (.cells #[.int .i64 y0.a, .int .i64 y0.b, .int .i64 y0.c, .int .i64 y0.d] 83) = w5 at *
  clear hgb
  go_upto_if 16 with (go_at_call 102; (with_reducible refine (HO1.out 300 6 _ (by omega) ST0.out.src).mono ?_); rintro e w6 ⟨v, rfl, hs6, ho6⟩)
  have ST1 := hide (ST0.out.only ho6 hs6)
  clear hs6 ho6 ST0
  go_cut [] (fun wx => ∃ y : T4, Hid (CuSt w bs 310 (w.heap.size + 2) ga gb a y wx))
  case first =>
    have hlt := ST1.out.hab
    have hlt2 := ST1.out.ha
    cases v
    · have i0 := ST1.out.xa.cell 0
      have j0 := ST1.out.xb.cell 0
      have f0 := ST1.out.xb.fro 0
      go_wp2_with fail
      go_meet
      exact ⟨⟨a.a, y0.b, y0.c, y0.d⟩, ⟨ST1.out.r2.other (by omega) _ _, ST1.out.r3.other (by omega) _ _, ST1.out.xa.other (by omega) _ _, ST1.out.xb.set 0 (.int .i64 a.a), (ST1.out.src.set ⟨gb, 0, none⟩ (.int .i64 a.a) (by dsimp only; omega)).more (by omega), ST1.out.bel.setCell (p := ⟨gb, 0, none⟩) (by dsimp only; omega) _, rfl, ST1.out.ha, ST1.out.hab⟩⟩
    · go_wp2_with fail
      go_meet
      exact ⟨y0, ⟨ST1.out.r2, ST1.out.r3, ST1.out.xa, ST1.out.xb, ST1.out.src.more (by omega), ST1.out.bel, rfl, ST1.out.ha, ST1.out.hab⟩⟩
  case rest =>
    obtain ⟨y, ST2⟩ := hcut
    clear ST1
    go_upto_if 21 with (go_at_call 102; (with_reducible refine (HO1.out 310 8 _ (by omega) ST2.out.src).mono ?_); rintro e w7 ⟨v, rfl, hs7, ho7⟩)
    have ST3 := hide (ST2.out.only ho7 hs7)
    clear hs7 ho7 ST2
    have hlt := ST3.out.hab
    have hlt2 := ST3.out.ha
    cases v
    · go_upto_region 8 with fail
      have SD := hide ST3.out.drew
      refine wp_region_held_drew (S := fun W => W.cell? ⟨ga, 0, none⟩ = some (.int .i64 a.a) ∧ W.cell? ⟨ga, 1, none⟩ = some (.int .i64 a.b) ∧ W.cell? ⟨ga, 2, none⟩ = some (.int .i64 a.c) ∧ W.cell? ⟨ga, 3, none⟩ = some (.int .i64 a.d) ∧ W.cell? ⟨gb, 0, none⟩ = some (.int .i64 y.a) ∧ W.cell? ⟨gb, 1, none⟩ = some (.int .i64 y.b) ∧ W.cell? ⟨gb, 2, none⟩ = some (.int .i64 y.c) ∧ W.cell? ⟨gb, 3, none⟩ = some (.int .i64 y.d)) (by kernel_rfl) (⟨SD.out.xa.cell 0, SD.out.xa.cell 1, SD.out.xa.cell 2, SD.out.xa.cell 3, SD.out.xb.cell 0, SD.out.xb.cell 1, SD.out.xb.cell 2, SD.out.xb.cell 3⟩) (fun hHeld => ?_)
      generalize w7.drew = wd at *
      refine wpAnyH_take (i := 0) (v := ?_) rfl (by kernel_rfl) (by kernel_rfl) (by kernel_rfl) (fun _ _ _ h => h) (Or.inl ⟨by rfl, ?_⟩) (by assumption) ?_
      rotate_left 1
      · (intro w hSw; (try dsimp only at hSw); go_simp; try with_reducible rfl)
      try simp only [Act.put, List.getElem_toArray, List.getElem_cons_succ, List.getElem_cons_zero, List.setIfInBounds_toArray, List.set_cons_zero, List.set_cons_succ]
      refine wpAnyH_take (i := 1) (v := ?_) rfl (by kernel_rfl) (by kernel_rfl) (by kernel_rfl) (fun _ _ _ h => h) (Or.inl ⟨by rfl, ?_⟩) (by assumption) ?_
      rotate_left 1
      · (intro w hSw; (try dsimp only at hSw); go_simp; try with_reducible rfl)
      try simp only [Act.put, List.getElem_toArray, List.getElem_cons_succ, List.getElem_cons_zero, List.setIfInBounds_toArray, List.set_cons_zero, List.set_cons_succ]
      refine wpAnyH_take (i := 2) (v := ?_) rfl (by kernel_rfl) (by kernel_rfl) (by kernel_rfl) (fun _ _ _ h => h) (Or.inl ⟨by rfl, ?_⟩) (by assumption) ?_
      rotate_left 1
      · (intro w hSw; (try dsimp only at hSw); go_simp; try with_reducible rfl)
      try simp only [Act.put, List.getElem_toArray, List.getElem_cons_succ, List.getElem_cons_zero, List.setIfInBounds_toArray, List.set_cons_zero, List.set_cons_succ]
      refine wpAnyH_ready (rs := [3]) (by kernel_rfl) (by simp) ?_
      refine AllReadyH.cons rfl (fun K hK => ?_) AllReadyH.nil
      try simp only [Act.put, List.getElem_toArray, List.getElem_cons_succ, List.getElem_cons_zero, List.setIfInBounds_toArray, List.set_cons_zero, List.set_cons_succ]
      go_simp
      go_at_call 94
      refine (HPK.out 312 12 _ (by omega) (SD.out.src.more (by omega))).mono ?_
      rintro e w8 ⟨t, rfl, _, hs8, ho8⟩
      have S8 := hide (SD.out.only ho8 hs8)
      dsimp only
      refine hK.out _ _ (⟨S8.out.xa.cell 0, S8.out.xa.cell 1, S8.out.xa.cell 2, S8.out.xa.cell 3, S8.out.xb.cell 0, S8.out.xb.cell 1, S8.out.xb.cell 2, S8.out.xb.cell 3⟩) (fun hHeld => ?_)
      clear hK K
      try simp only [Act.put, List.getElem_toArray, List.getElem_cons_succ, List.getElem_cons_zero, List.setIfInBounds_toArray, List.set_cons_zero, List.set_cons_succ]
      have m0 : w8.cell? ⟨w.heap.size, 0, none⟩ = some (.int .i64 0) := S8.out.r2.cell 0
      have n0 := S8.out.r2.fro 0
      have T0 := hide (S8.out.r2.set 0 (.int .i64 a.a))
      have m1 : (w8.setCell ⟨w.heap.size, 0, none⟩ (.int .i64 a.a)).cell? ⟨w.heap.size, 1, none⟩ = some (.int .i64 0) := T0.out.cell 1
      have n1 := T0.out.fro 1
      have T1 := hide (T0.out.set 1 (.int .i64 a.b))
      have m2 : ((w8.setCell ⟨w.heap.size, 0, none⟩ (.int .i64 a.a)).setCell ⟨w.heap.size, 1, none⟩ (.int .i64 a.b)).cell? ⟨w.heap.size, 2, none⟩ = some (.int .i64 0) := T1.out.cell 2
      have n2 := T1.out.fro 2
      have T2 := hide (T1.out.set 2 (.int .i64 a.c))
      have m3 : (((w8.setCell ⟨w.heap.size, 0, none⟩ (.int .i64 a.a)).setCell ⟨w.heap.size, 1, none⟩ (.int .i64 a.b)).setCell ⟨w.heap.size, 2, none⟩ (.int .i64 a.c)).cell? ⟨w.heap.size, 3, none⟩ = some (.int .i64 0) := T2.out.cell 3
      have n3 := T2.out.fro 3
      have T3 := hide (T2.out.set 3 (.int .i64 a.d))
      have Ur3 := hide (((((S8.out.r3.other (b' := w.heap.size) (by omega) 0 (.int .i64 a.a)).other (b' := w.heap.size) (by omega) 1 (.int .i64 a.b)).other (b' := w.heap.size) (by omega) 2 (.int .i64 a.c)).other (b' := w.heap.size) (by omega) 3 (.int .i64 a.d)))
      have Uxa := hide (((((S8.out.xa.other (b' := w.heap.size) (by omega) 0 (.int .i64 a.a)).other (b' := w.heap.size) (by omega) 1 (.int .i64 a.b)).other (b' := w.heap.size) (by omega) 2 (.int .i64 a.c)).other (b' := w.heap.size) (by omega) 3 (.int .i64 a.d)))
      have Uxb := hide (((((S8.out.xb.other (b' := w.heap.size) (by omega) 0 (.int .i64 a.a)).other (b' := w.heap.size) (by omega) 1 (.int .i64 a.b)).other (b' := w.heap.size) (by omega) 2 (.int .i64 a.c)).other (b' := w.heap.size) (by omega) 3 (.int .i64 a.d)))
      refine wpAnyH_ready (rs := [4]) (by kernel_rfl) (by simp) ?_
      refine AllReadyH.cons rfl (fun K hK => ?_) AllReadyH.nil
      try simp only [Act.put, List.getElem_toArray, List.getElem_cons_succ, List.getElem_cons_zero, List.setIfInBounds_toArray, List.set_cons_zero, List.set_cons_succ]
      go_simp
      refine hK.out _ _ (⟨Uxa.out.cell 0, Uxa.out.cell 1, Uxa.out.cell 2, Uxa.out.cell 3, Uxb.out.cell 0, Uxb.out.cell 1, Uxb.out.cell 2, Uxb.out.cell 3⟩) (fun hHeld => ?_)
      clear hK K
      try simp only [Act.put, List.getElem_toArray, List.getElem_cons_succ, List.getElem_cons_zero, List.setIfInBounds_toArray, List.set_cons_zero, List.set_cons_succ]
      have BU := hide (((((S8.out.bel.setCell (p := ⟨w.heap.size, 0, none⟩) (Nat.le_refl _) (.int .i64 a.a)).setCell (p := ⟨w.heap.size, 1, none⟩) (Nat.le_refl _) (.int .i64 a.b)).setCell (p := ⟨w.heap.size, 2, none⟩) (Nat.le_refl _) (.int .i64 a.c)).setCell (p := ⟨w.heap.size, 3, none⟩) (Nat.le_refl _) (.int .i64 a.d)))
      have hT3 := hide T3.out
      clear m0 n0 m1 n1 m2 n2 m3 n3 T0 T1 T2 T3
      generalize ((((w8.setCell ⟨w.heap.size, 0, none⟩ (.int .i64 a.a)).setCell ⟨w.heap.size, 1, none⟩ (.int .i64 a.b)).setCell ⟨w.heap.size, 2, none⟩ (.int .i64 a.c)).setCell ⟨w.heap.size, 3, none⟩ (.int .i64 a.d)) = wt at *
      have m0 : wt.cell? ⟨w.heap.size + 1, 0, none⟩ = some (.int .i64 0) := Ur3.out.cell 0
      have n0 := Ur3.out.fro 0
      have T0 := hide (Ur3.out.set 0 (.int .i64 y.a))
      have m1 : (wt.setCell ⟨w.heap.size + 1, 0, none⟩ (.int .i64 y.a)).cell? ⟨w.heap.size + 1, 1, none⟩ = some (.int .i64 0) := T0.out.cell 1
      have n1 := T0.out.fro 1
      have T1 := hide (T0.out.set 1 (.int .i64 y.b))
      have m2 : ((wt.setCell ⟨w.heap.size + 1, 0, none⟩ (.int .i64 y.a)).setCell ⟨w.heap.size + 1, 1, none⟩ (.int .i64 y.b)).cell? ⟨w.heap.size + 1, 2, none⟩ = some (.int .i64 0) := T1.out.cell 2
      have n2 := T1.out.fro 2
      have T2 := hide (T1.out.set 2 (.int .i64 y.c))
      have m3 : (((wt.setCell ⟨w.heap.size + 1, 0, none⟩ (.int .i64 y.a)).setCell ⟨w.heap.size + 1, 1, none⟩ (.int .i64 y.b)).setCell ⟨w.heap.size + 1, 2, none⟩ (.int .i64 y.c)).cell? ⟨w.heap.size + 1, 3, none⟩ = some (.int .i64 0) := T2.out.cell 3
      have n3 := T2.out.fro 3
      have T3 := hide (T2.out.set 3 (.int .i64 y.d))
      have V2 := hide (((((hT3.out.other (b' := w.heap.size + 1) (by omega) 0 (.int .i64 y.a)).other (b' := w.heap.size + 1) (by omega) 1 (.int .i64 y.b)).other (b' := w.heap.size + 1) (by omega) 2 (.int .i64 y.c)).other (b' := w.heap.size + 1) (by omega) 3 (.int .i64 y.d)))
      have Va := hide (((((Uxa.out.other (b' := w.heap.size + 1) (by omega) 0 (.int .i64 y.a)).other (b' := w.heap.size + 1) (by omega) 1 (.int .i64 y.b)).other (b' := w.heap.size + 1) (by omega) 2 (.int .i64 y.c)).other (b' := w.heap.size + 1) (by omega) 3 (.int .i64 y.d)))
      have Vb := hide (((((Uxb.out.other (b' := w.heap.size + 1) (by omega) 0 (.int .i64 y.a)).other (b' := w.heap.size + 1) (by omega) 1 (.int .i64 y.b)).other (b' := w.heap.size + 1) (by omega) 2 (.int .i64 y.c)).other (b' := w.heap.size + 1) (by omega) 3 (.int .i64 y.d)))
      refine wpAnyH_ready (rs := [5]) (by kernel_rfl) (by simp) ?_
      refine AllReadyH.cons rfl (fun K hK => ?_) AllReadyH.nil
      try simp only [Act.put, List.getElem_toArray, List.getElem_cons_succ, List.getElem_cons_zero, List.setIfInBounds_toArray, List.set_cons_zero, List.set_cons_succ]
      go_simp
      refine hK.out _ _ (⟨Va.out.cell 0, Va.out.cell 1, Va.out.cell 2, Va.out.cell 3, Vb.out.cell 0, Vb.out.cell 1, Vb.out.cell 2, Vb.out.cell 3⟩) (fun hHeld => ?_)
      clear hK K
      try simp only [Act.put, List.getElem_toArray, List.getElem_cons_succ, List.getElem_cons_zero, List.setIfInBounds_toArray, List.set_cons_zero, List.set_cons_succ]
      refine wpAnyH_take (i := 6) (v := ?_) rfl (by kernel_rfl) (by kernel_rfl) (by kernel_rfl) (fun _ _ _ h => h) (Or.inl ⟨by rfl, ?_⟩) (by assumption) ?_
      rotate_left 1
      · (intro w hSw; (try dsimp only at hSw); go_simp; try with_reducible rfl)
      try simp only [Act.put, List.getElem_toArray, List.getElem_cons_succ, List.getElem_cons_zero, List.setIfInBounds_toArray, List.set_cons_zero, List.set_cons_succ]
      refine wpAnyH_done (by kernel_rfl) ?_ _
      go_wp2_with fail
      have p0 : ((((wt.setCell ⟨w.heap.size + 1, 0, none⟩ (.int .i64 y.a)).setCell ⟨w.heap.size + 1, 1, none⟩ (.int .i64 y.b)).setCell ⟨w.heap.size + 1, 2, none⟩ (.int .i64 y.c)).setCell ⟨w.heap.size + 1, 3, none⟩ (.int .i64 y.d)).cell? ⟨w.heap.size, 0, none⟩ = some (.int .i64 a.a) := V2.out.cell 0
      have p1 : ((((wt.setCell ⟨w.heap.size + 1, 0, none⟩ (.int .i64 y.a)).setCell ⟨w.heap.size + 1, 1, none⟩ (.int .i64 y.b)).setCell ⟨w.heap.size + 1, 2, none⟩ (.int .i64 y.c)).setCell ⟨w.heap.size + 1, 3, none⟩ (.int .i64 y.d)).cell? ⟨w.heap.size, 1, none⟩ = some (.int .i64 a.b) := V2.out.cell 1
      have p2 : ((((wt.setCell ⟨w.heap.size + 1, 0, none⟩ (.int .i64 y.a)).setCell ⟨w.heap.size + 1, 1, none⟩ (.int .i64 y.b)).setCell ⟨w.heap.size + 1, 2, none⟩ (.int .i64 y.c)).setCell ⟨w.heap.size + 1, 3, none⟩ (.int .i64 y.d)).cell? ⟨w.heap.size, 2, none⟩ = some (.int .i64 a.c) := V2.out.cell 2
      have p3 : ((((wt.setCell ⟨w.heap.size + 1, 0, none⟩ (.int .i64 y.a)).setCell ⟨w.heap.size + 1, 1, none⟩ (.int .i64 y.b)).setCell ⟨w.heap.size + 1, 2, none⟩ (.int .i64 y.c)).setCell ⟨w.heap.size + 1, 3, none⟩ (.int .i64 y.d)).cell? ⟨w.heap.size, 3, none⟩ = some (.int .i64 a.d) := V2.out.cell 3
      have q0 : ((((wt.setCell ⟨w.heap.size + 1, 0, none⟩ (.int .i64 y.a)).setCell ⟨w.heap.size + 1, 1, none⟩ (.int .i64 y.b)).setCell ⟨w.heap.size + 1, 2, none⟩ (.int .i64 y.c)).setCell ⟨w.heap.size + 1, 3, none⟩ (.int .i64 y.d)).cell? ⟨w.heap.size + 1, 0, none⟩ = some (.int .i64 y.a) := T3.out.cell 0
      have q1 : ((((wt.setCell ⟨w.heap.size + 1, 0, none⟩ (.int .i64 y.a)).setCell ⟨w.heap.size + 1, 1, none⟩ (.int .i64 y.b)).setCell ⟨w.heap.size + 1, 2, none⟩ (.int .i64 y.c)).setCell ⟨w.heap.size + 1, 3, none⟩ (.int .i64 y.d)).cell? ⟨w.heap.size + 1, 1, none⟩ = some (.int .i64 y.b) := T3.out.cell 1
      have q2 : ((((wt.setCell ⟨w.heap.size + 1, 0, none⟩ (.int .i64 y.a)).setCell ⟨w.heap.size + 1, 1, none⟩ (.int .i64 y.b)).setCell ⟨w.heap.size + 1, 2, none⟩ (.int .i64 y.c)).setCell ⟨w.heap.size + 1, 3, none⟩ (.int .i64 y.d)).cell? ⟨w.heap.size + 1, 2, none⟩ = some (.int .i64 y.c) := T3.out.cell 2
      have q3 : ((((wt.setCell ⟨w.heap.size + 1, 0, none⟩ (.int .i64 y.a)).setCell ⟨w.heap.size + 1, 1, none⟩ (.int .i64 y.b)).setCell ⟨w.heap.size + 1, 2, none⟩ (.int .i64 y.c)).setCell ⟨w.heap.size + 1, 3, none⟩ (.int .i64 y.d)).cell? ⟨w.heap.size + 1, 3, none⟩ = some (.int .i64 y.d) := T3.out.cell 3
      refine bodyPost_ret (v := .tuple #[.agg #[.int .i64 a.a, .int .i64 a.b, .int .i64 a.c, .int .i64 a.d], .agg #[.int .i64 y.a, .int .i64 y.b, .int .i64 y.c, .int .i64 y.d], .int .i64 t]) (by simp [results, Try.results55, go_sem, p0, p1, p2, p3, q0, q1, q2, q3]) rfl ⟨a, y, t, rfl, ?_⟩
      exact ((((BU.out.setCell (p := ⟨w.heap.size + 1, 0, none⟩) (by dsimp only; omega) _).setCell (p := ⟨w.heap.size + 1, 1, none⟩) (by dsimp only; omega) _).setCell (p := ⟨w.heap.size + 1, 2, none⟩) (by dsimp only; omega) _).setCell (p := ⟨w.heap.size + 1, 3, none⟩) (by dsimp only; omega) _)
    · go_upto_region 7 with fail
      have SD := hide ST3.out.drew
      refine wp_region_held_drew (S := fun W => W.cell? ⟨ga, 0, none⟩ = some (.int .i64 a.a) ∧ W.cell? ⟨ga, 1, none⟩ = some (.int .i64 a.b) ∧ W.cell? ⟨ga, 2, none⟩ = some (.int .i64 a.c) ∧ W.cell? ⟨ga, 3, none⟩ = some (.int .i64 a.d) ∧ W.cell? ⟨gb, 0, none⟩ = some (.int .i64 y.a) ∧ W.cell? ⟨gb, 1, none⟩ = some (.int .i64 y.b) ∧ W.cell? ⟨gb, 2, none⟩ = some (.int .i64 y.c) ∧ W.cell? ⟨gb, 3, none⟩ = some (.int .i64 y.d)) (by kernel_rfl) (⟨SD.out.xa.cell 0, SD.out.xa.cell 1, SD.out.xa.cell 2, SD.out.xa.cell 3, SD.out.xb.cell 0, SD.out.xb.cell 1, SD.out.xb.cell 2, SD.out.xb.cell 3⟩) (fun hHeld => ?_)
      generalize w7.drew = wd at *
      have SA := hide (SD.out.alloc (.cells #[.int .i64 (-1), .int .i64 0, .int .i64 10000, .int .i64 10001] 2))
      have hzb := SD.out.xb.lt
      have ham : Calls Try.prog 82 #[.pointer (some ⟨w.heap.size + 2, 0, none⟩), .slice (some ⟨wd.heap.size, 0, none⟩) 4 4] (wd.alloc (.cells #[.int .i64 (-1), .int .i64 0, .int .i64 10000, .int .i64 10001] 2)) fun e w' => ∃ z, e = .returned (.int .i64 z) ∧ z ∈ ([(-1), 0, 10000, 10001] : List Int) ∧ SrcAt (w.heap.size + 2) bs (312 + 2) w' ∧ Only (w.heap.size + 2) (w.heap.size + 2 + 1) (wd.alloc (.cells #[.int .i64 (-1), .int .i64 0, .int .i64 10000, .int .i64 10001] 2)) w' := HAM.out 312 wd.heap.size 0 4 ([(-1), 0, 10000, 10001] : List Int) _ (by omega) (SA.out.src.more (by omega)) (by omega) (by simp) (by simp) (by simp) (fun j z hj => by
        match j, hj with
        | 0, hj => simp at hj; subst hj; simp [go_sem]
        | 1, hj => simp at hj; subst hj; simp [go_sem]
        | 2, hj => simp at hj; subst hj; simp [go_sem]
        | 3, hj => simp at hj; subst hj; simp [go_sem]
        | j + 4, hj => simp at hj)
      have H2 := hide ham
      clear ham
      refine wpAnyH_take (i := 0) (v := ?_) rfl (by kernel_rfl) (by kernel_rfl) (by kernel_rfl) (fun _ _ _ h => h) (Or.inl ⟨by rfl, ?_⟩) (by assumption) ?_
      rotate_left 1
      · (intro w hSw; (try dsimp only at hSw); go_simp; try with_reducible rfl)
      try simp only [Act.put, List.getElem_toArray, List.getElem_cons_succ, List.getElem_cons_zero, List.setIfInBounds_toArray, List.set_cons_zero, List.set_cons_succ]
      refine wpAnyH_take (i := 1) (v := ?_) rfl (by kernel_rfl) (by kernel_rfl) (by kernel_rfl) (fun _ _ _ h => h) (Or.inl ⟨by rfl, ?_⟩) (by assumption) ?_
      rotate_left 1
      · (intro w hSw; (try dsimp only at hSw); go_simp; try with_reducible rfl)
      try simp only [Act.put, List.getElem_toArray, List.getElem_cons_succ, List.getElem_cons_zero, List.setIfInBounds_toArray, List.set_cons_zero, List.set_cons_succ]
      refine wpAnyH_take (i := 2) (v := ?_) rfl (by kernel_rfl) (by kernel_rfl) (by kernel_rfl) (fun _ _ _ h => h) (Or.inl ⟨by rfl, ?_⟩) (by assumption) ?_
      rotate_left 1
      · (intro w hSw; (try dsimp only at hSw); go_simp; try with_reducible rfl)
      try simp only [Act.put, List.getElem_toArray, List.getElem_cons_succ, List.getElem_cons_zero, List.setIfInBounds_toArray, List.set_cons_zero, List.set_cons_succ]
      refine wpAnyH_ready (rs := [3]) (by kernel_rfl) (by simp) ?_
      refine AllReadyH.cons rfl (fun K hK => ?_) AllReadyH.nil
      try simp only [Act.put, List.getElem_toArray, List.getElem_cons_succ, List.getElem_cons_zero, List.setIfInBounds_toArray, List.set_cons_zero, List.set_cons_succ]
      go_simp
      refine hK.out _ _ (⟨SA.out.xa.cell 0, SA.out.xa.cell 1, SA.out.xa.cell 2, SA.out.xa.cell 3, SA.out.xb.cell 0, SA.out.xb.cell 1, SA.out.xb.cell 2, SA.out.xb.cell 3⟩) (fun hHeld => ?_)
      clear hK K
      try simp only [Act.put, List.getElem_toArray, List.getElem_cons_succ, List.getElem_cons_zero, List.setIfInBounds_toArray, List.set_cons_zero, List.set_cons_succ]
      refine wpAnyH_ready (rs := [4]) (by kernel_rfl) (by simp) ?_
      refine AllReadyH.cons rfl (fun K hK => ?_) AllReadyH.nil
      try simp only [Act.put, List.getElem_toArray, List.getElem_cons_succ, List.getElem_cons_zero, List.setIfInBounds_toArray, List.set_cons_zero, List.set_cons_succ]
      go_simp
      go_at_call 82
      refine (H2.out).mono ?_
      rintro e w8 ⟨t, rfl, _, hs8, ho8⟩
      have S8 := hide (SA.out.only ho8 hs8)
      dsimp only
      refine hK.out _ _ (⟨S8.out.xa.cell 0, S8.out.xa.cell 1, S8.out.xa.cell 2, S8.out.xa.cell 3, S8.out.xb.cell 0, S8.out.xb.cell 1, S8.out.xb.cell 2, S8.out.xb.cell 3⟩) (fun hHeld => ?_)
      clear hK K
      try simp only [Act.put, List.getElem_toArray, List.getElem_cons_succ, List.getElem_cons_zero, List.setIfInBounds_toArray, List.set_cons_zero, List.set_cons_succ]
      have m0 : w8.cell? ⟨w.heap.size, 0, none⟩ = some (.int .i64 0) := S8.out.r2.cell 0
      have n0 := S8.out.r2.fro 0
      have T0 := hide (S8.out.r2.set 0 (.int .i64 a.a))
      have m1 : (w8.setCell ⟨w.heap.size, 0, none⟩ (.int .i64 a.a)).cell? ⟨w.heap.size, 1, none⟩ = some (.int .i64 0) := T0.out.cell 1
      have n1 := T0.out.fro 1
      have T1 := hide (T0.out.set 1 (.int .i64 a.b))
      have m2 : ((w8.setCell ⟨w.heap.size, 0, none⟩ (.int .i64 a.a)).setCell ⟨w.heap.size, 1, none⟩ (.int .i64 a.b)).cell? ⟨w.heap.size, 2, none⟩ = some (.int .i64 0) := T1.out.cell 2
      have n2 := T1.out.fro 2
      have T2 := hide (T1.out.set 2 (.int .i64 a.c))
      have m3 : (((w8.setCell ⟨w.heap.size, 0, none⟩ (.int .i64 a.a)).setCell ⟨w.heap.size, 1, none⟩ (.int .i64 a.b)).setCell ⟨w.heap.size, 2, none⟩ (.int .i64 a.c)).cell? ⟨w.heap.size, 3, none⟩ = some (.int .i64 0) := T2.out.cell 3
      have n3 := T2.out.fro 3
      have T3 := hide (T2.out.set 3 (.int .i64 a.d))
      have Ur3 := hide (((((S8.out.r3.other (b' := w.heap.size) (by omega) 0 (.int .i64 a.a)).other (b' := w.heap.size) (by omega) 1 (.int .i64 a.b)).other (b' := w.heap.size) (by omega) 2 (.int .i64 a.c)).other (b' := w.heap.size) (by omega) 3 (.int .i64 a.d)))
      have Uxa := hide (((((S8.out.xa.other (b' := w.heap.size) (by omega) 0 (.int .i64 a.a)).other (b' := w.heap.size) (by omega) 1 (.int .i64 a.b)).other (b' := w.heap.size) (by omega) 2 (.int .i64 a.c)).other (b' := w.heap.size) (by omega) 3 (.int .i64 a.d)))
      have Uxb := hide (((((S8.out.xb.other (b' := w.heap.size) (by omega) 0 (.int .i64 a.a)).other (b' := w.heap.size) (by omega) 1 (.int .i64 a.b)).other (b' := w.heap.size) (by omega) 2 (.int .i64 a.c)).other (b' := w.heap.size) (by omega) 3 (.int .i64 a.d)))
      refine wpAnyH_ready (rs := [5]) (by kernel_rfl) (by simp) ?_
      refine AllReadyH.cons rfl (fun K hK => ?_) AllReadyH.nil
      try simp only [Act.put, List.getElem_toArray, List.getElem_cons_succ, List.getElem_cons_zero, List.setIfInBounds_toArray, List.set_cons_zero, List.set_cons_succ]
      go_simp
      refine hK.out _ _ (⟨Uxa.out.cell 0, Uxa.out.cell 1, Uxa.out.cell 2, Uxa.out.cell 3, Uxb.out.cell 0, Uxb.out.cell 1, Uxb.out.cell 2, Uxb.out.cell 3⟩) (fun hHeld => ?_)
      clear hK K
      try simp only [Act.put, List.getElem_toArray, List.getElem_cons_succ, List.getElem_cons_zero, List.setIfInBounds_toArray, List.set_cons_zero, List.set_cons_succ]
      have BU := hide (((((S8.out.bel.setCell (p := ⟨w.heap.size, 0, none⟩) (Nat.le_refl _) (.int .i64 a.a)).setCell (p := ⟨w.heap.size, 1, none⟩) (Nat.le_refl _) (.int .i64 a.b)).setCell (p := ⟨w.heap.size, 2, none⟩) (Nat.le_refl _) (.int .i64 a.c)).setCell (p := ⟨w.heap.size, 3, none⟩) (Nat.le_refl _) (.int .i64 a.d)))
      have hT3 := hide T3.out
      clear m0 n0 m1 n1 m2 n2 m3 n3 T0 T1 T2 T3
      generalize ((((w8.setCell ⟨w.heap.size, 0, none⟩ (.int .i64 a.a)).setCell ⟨w.heap.size, 1, none⟩ (.int .i64 a.b)).setCell ⟨w.heap.size, 2, none⟩ (.int .i64 a.c)).setCell ⟨w.heap.size, 3, none⟩ (.int .i64 a.d)) = wt at *
      have m0 : wt.cell? ⟨w.heap.size + 1, 0, none⟩ = some (.int .i64 0) := Ur3.out.cell 0
      have n0 := Ur3.out.fro 0
      have T0 := hide (Ur3.out.set 0 (.int .i64 y.a))
      have m1 : (wt.setCell ⟨w.heap.size + 1, 0, none⟩ (.int .i64 y.a)).cell? ⟨w.heap.size + 1, 1, none⟩ = some (.int .i64 0) := T0.out.cell 1
      have n1 := T0.out.fro 1
      have T1 := hide (T0.out.set 1 (.int .i64 y.b))
      have m2 : ((wt.setCell ⟨w.heap.size + 1, 0, none⟩ (.int .i64 y.a)).setCell ⟨w.heap.size + 1, 1, none⟩ (.int .i64 y.b)).cell? ⟨w.heap.size + 1, 2, none⟩ = some (.int .i64 0) := T1.out.cell 2
      have n2 := T1.out.fro 2
      have T2 := hide (T1.out.set 2 (.int .i64 y.c))
      have m3 : (((wt.setCell ⟨w.heap.size + 1, 0, none⟩ (.int .i64 y.a)).setCell ⟨w.heap.size + 1, 1, none⟩ (.int .i64 y.b)).setCell ⟨w.heap.size + 1, 2, none⟩ (.int .i64 y.c)).cell? ⟨w.heap.size + 1, 3, none⟩ = some (.int .i64 0) := T2.out.cell 3
      have n3 := T2.out.fro 3
      have T3 := hide (T2.out.set 3 (.int .i64 y.d))
      have V2 := hide (((((hT3.out.other (b' := w.heap.size + 1) (by omega) 0 (.int .i64 y.a)).other (b' := w.heap.size + 1) (by omega) 1 (.int .i64 y.b)).other (b' := w.heap.size + 1) (by omega) 2 (.int .i64 y.c)).other (b' := w.heap.size + 1) (by omega) 3 (.int .i64 y.d)))
      have Va := hide (((((Uxa.out.other (b' := w.heap.size + 1) (by omega) 0 (.int .i64 y.a)).other (b' := w.heap.size + 1) (by omega) 1 (.int .i64 y.b)).other (b' := w.heap.size + 1) (by omega) 2 (.int .i64 y.c)).other (b' := w.heap.size + 1) (by omega) 3 (.int .i64 y.d)))
      have Vb := hide (((((Uxb.out.other (b' := w.heap.size + 1) (by omega) 0 (.int .i64 y.a)).other (b' := w.heap.size + 1) (by omega) 1 (.int .i64 y.b)).other (b' := w.heap.size + 1) (by omega) 2 (.int .i64 y.c)).other (b' := w.heap.size + 1) (by omega) 3 (.int .i64 y.d)))
      refine wpAnyH_ready (rs := [6]) (by kernel_rfl) (by simp) ?_
      refine AllReadyH.cons rfl (fun K hK => ?_) AllReadyH.nil
      try simp only [Act.put, List.getElem_toArray, List.getElem_cons_succ, List.getElem_cons_zero, List.setIfInBounds_toArray, List.set_cons_zero, List.set_cons_succ]
      go_simp
      refine hK.out _ _ (⟨Va.out.cell 0, Va.out.cell 1, Va.out.cell 2, Va.out.cell 3, Vb.out.cell 0, Vb.out.cell 1, Vb.out.cell 2, Vb.out.cell 3⟩) (fun hHeld => ?_)
      clear hK K
      try simp only [Act.put, List.getElem_toArray, List.getElem_cons_succ, List.getElem_cons_zero, List.setIfInBounds_toArray, List.set_cons_zero, List.set_cons_succ]
      refine wpAnyH_take (i := 7) (v := ?_) rfl (by kernel_rfl) (by kernel_rfl) (by kernel_rfl) (fun _ _ _ h => h) (Or.inl ⟨by rfl, ?_⟩) (by assumption) ?_
      rotate_left 1
      · (intro w hSw; (try dsimp only at hSw); go_simp; try with_reducible rfl)
      try simp only [Act.put, List.getElem_toArray, List.getElem_cons_succ, List.getElem_cons_zero, List.setIfInBounds_toArray, List.set_cons_zero, List.set_cons_succ]
      refine wpAnyH_done (by kernel_rfl) ?_ _
      go_wp2_with fail
      have p0 : ((((wt.setCell ⟨w.heap.size + 1, 0, none⟩ (.int .i64 y.a)).setCell ⟨w.heap.size + 1, 1, none⟩ (.int .i64 y.b)).setCell ⟨w.heap.size + 1, 2, none⟩ (.int .i64 y.c)).setCell ⟨w.heap.size + 1, 3, none⟩ (.int .i64 y.d)).cell? ⟨w.heap.size, 0, none⟩ = some (.int .i64 a.a) := V2.out.cell 0
      have p1 : ((((wt.setCell ⟨w.heap.size + 1, 0, none⟩ (.int .i64 y.a)).setCell ⟨w.heap.size + 1, 1, none⟩ (.int .i64 y.b)).setCell ⟨w.heap.size + 1, 2, none⟩ (.int .i64 y.c)).setCell ⟨w.heap.size + 1, 3, none⟩ (.int .i64 y.d)).cell? ⟨w.heap.size, 1, none⟩ = some (.int .i64 a.b) := V2.out.cell 1
      have p2 : ((((wt.setCell ⟨w.heap.size + 1, 0, none⟩ (.int .i64 y.a)).setCell ⟨w.heap.size + 1, 1, none⟩ (.int .i64 y.b)).setCell ⟨w.heap.size + 1, 2, none⟩ (.int .i64 y.c)).setCell ⟨w.heap.size + 1, 3, none⟩ (.int .i64 y.d)).cell? ⟨w.heap.size, 2, none⟩ = some (.int .i64 a.c) := V2.out.cell 2
      have p3 : ((((wt.setCell ⟨w.heap.size + 1, 0, none⟩ (.int .i64 y.a)).setCell ⟨w.heap.size + 1, 1, none⟩ (.int .i64 y.b)).setCell ⟨w.heap.size + 1, 2, none⟩ (.int .i64 y.c)).setCell ⟨w.heap.size + 1, 3, none⟩ (.int .i64 y.d)).cell? ⟨w.heap.size, 3, none⟩ = some (.int .i64 a.d) := V2.out.cell 3
      have q0 : ((((wt.setCell ⟨w.heap.size + 1, 0, none⟩ (.int .i64 y.a)).setCell ⟨w.heap.size + 1, 1, none⟩ (.int .i64 y.b)).setCell ⟨w.heap.size + 1, 2, none⟩ (.int .i64 y.c)).setCell ⟨w.heap.size + 1, 3, none⟩ (.int .i64 y.d)).cell? ⟨w.heap.size + 1, 0, none⟩ = some (.int .i64 y.a) := T3.out.cell 0
      have q1 : ((((wt.setCell ⟨w.heap.size + 1, 0, none⟩ (.int .i64 y.a)).setCell ⟨w.heap.size + 1, 1, none⟩ (.int .i64 y.b)).setCell ⟨w.heap.size + 1, 2, none⟩ (.int .i64 y.c)).setCell ⟨w.heap.size + 1, 3, none⟩ (.int .i64 y.d)).cell? ⟨w.heap.size + 1, 1, none⟩ = some (.int .i64 y.b) := T3.out.cell 1
      have q2 : ((((wt.setCell ⟨w.heap.size + 1, 0, none⟩ (.int .i64 y.a)).setCell ⟨w.heap.size + 1, 1, none⟩ (.int .i64 y.b)).setCell ⟨w.heap.size + 1, 2, none⟩ (.int .i64 y.c)).setCell ⟨w.heap.size + 1, 3, none⟩ (.int .i64 y.d)).cell? ⟨w.heap.size + 1, 2, none⟩ = some (.int .i64 y.c) := T3.out.cell 2
      have q3 : ((((wt.setCell ⟨w.heap.size + 1, 0, none⟩ (.int .i64 y.a)).setCell ⟨w.heap.size + 1, 1, none⟩ (.int .i64 y.b)).setCell ⟨w.heap.size + 1, 2, none⟩ (.int .i64 y.c)).setCell ⟨w.heap.size + 1, 3, none⟩ (.int .i64 y.d)).cell? ⟨w.heap.size + 1, 3, none⟩ = some (.int .i64 y.d) := T3.out.cell 3
      refine bodyPost_ret (v := .tuple #[.agg #[.int .i64 a.a, .int .i64 a.b, .int .i64 a.c, .int .i64 a.d], .agg #[.int .i64 y.a, .int .i64 y.b, .int .i64 y.c, .int .i64 y.d], .int .i64 t]) (by simp [results, Try.results55, go_sem, p0, p1, p2, p3, q0, q1, q2, q3]) rfl ⟨a, y, t, rfl, ?_⟩
      exact ((((BU.out.setCell (p := ⟨w.heap.size + 1, 0, none⟩) (by dsimp only; omega) _).setCell (p := ⟨w.heap.size + 1, 1, none⟩) (by dsimp only; omega) _).setCell (p := ⟨w.heap.size + 1, 2, none⟩) (by dsimp only; omega) _).setCell (p := ⟨w.heap.size + 1, 3, none⟩) (by dsimp only; omega) _)
end Go.Proofs.Ytlkccijlbeibjaa
