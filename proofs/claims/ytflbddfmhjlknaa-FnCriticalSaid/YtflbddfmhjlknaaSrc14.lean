/-
  A drawn move.
-/
import Derived.Test.YtflbddfmhjlknaaSrc13
import Derived.Test.YtflbddfmhjlknaaSrc4
namespace Go.Proofs.Ytflbddfmhjlknaa
open Go.RowKit
set_option maxRecDepth 100000 in
set_option maxHeartbeats 4000000 in
theorem drawMove_any (b : Nat) (bs : List Int) (N n : Int) (w : World) (hbs : BsOk bs) (hN : N ≤ 1099510000000) (hn : 1 ≤ n) (hn2 : n ≤ 1000) (h : SrcAt b bs N w) :
    Calls Try.prog 85 #[.pointer (some ⟨b, 0, none⟩), .int .i64 n] w fun e w' => ∃ m : T3, e = .returned (.agg #[.int .i64 m.a, .int .i64 m.b, .int .i64 m.c]) ∧ ((0 ≤ m.a ∧ m.a < n) ∧ (-1 ≤ m.b ∧ m.b ≤ n) ∧ -1 ≤ m.c ∧ m.c ≤ 201) ∧ SrcAt b bs (N + 20) w' ∧ Only b (b + 1) w w' := by
  have hbl := h.lt
  have HP := hide fun M n W (hM : M ≤ 1099511000000) (hW : SrcAt b bs M W) => pick_any b bs M n W hbs hM hW
  have HAM := hide fun M g o c xs W (hM : M ≤ 1099511000000) (hW : SrcAt b bs M W) => among_any b bs M g o c xs W hbs hM hW
  have X0 := hide (BoxN.new w #[.int .i64 0, .int .i64 0, .int .i64 0] 34)
  have S0 := hide (h.alloc (.cells #[.int .i64 0, .int .i64 0, .int .i64 0] 34))
  have O0 : Hid (Only b (b + 1) w (w.alloc (.cells #[.int .i64 0, .int .i64 0, .int .i64 0] 34))) := only_of_below ((Below.refl _ _).alloc (Nat.le_refl _) _)
  have z0 : w.heap.size + 1 ≤ (w.alloc (.cells #[.int .i64 0, .int .i64 0, .int .i64 0] 34)).heap.size := by simp
  have C0 := hide (HP.out N n _ (by omega) S0.out)
  clear h
  go_enter Try.func85, Try.ntmps85
  go_upto_region 2 with (first | (go_at_call 79; (with_reducible refine (C0.out).mono ?_); rintro e w1 ⟨a, rfl, ⟨ha0, ha1', _⟩, hs1, ho1⟩; have ha1 := ha1' hn; have X1 := hide (X0.out.only ho1 (.inr (by omega))); have z1 := ho1.size; have O1 := hide (only_trans O0.out ho1); have C1 := hide (HP.out (N + 2) n _ (by omega) hs1); clear hs1 ho1 C0 X0 S0 O0 ha1') | (go_at_call 79; (with_reducible refine (C1.out).mono ?_); rintro e w2 ⟨c, rfl, ⟨hc0, hc1', _⟩, hs2, ho2⟩; have hc1 := hc1' hn; have X2 := hide (X1.out.only ho2 (.inr (by omega))); have z2 := ho2.size; have O2 := hide (only_trans O1.out ho2); have S2 := hide hs2; clear hs2 ho2 C1 X1 O1 hc1'))
  have X3 := hide (X2.out.alloc (.cells #[.int .i64 a, .int .i64 c, .int .i64 0] 34))
  have Y3 := hide (BoxN.new w2 #[.int .i64 a, .int .i64 c, .int .i64 0] 34)
  have S3 := hide (S2.out.alloc (.cells #[.int .i64 a, .int .i64 c, .int .i64 0] 34))
  have O3 := hide (only_alloc O2.out (.cells #[.int .i64 a, .int .i64 c, .int .i64 0] 34))
  have z3 : w2.heap.size + 1 ≤ (w2.alloc (.cells #[.int .i64 a, .int .i64 c, .int .i64 0] 34)).heap.size := by simp
  have zz : w.heap.size < w2.heap.size := by omega
  have C3 := hide (HP.out (N + 2 + 2) 4 _ (by omega) S3.out)
  clear X2 S2 O2 S3
  go_upto_region 3 with (go_at_call 79; (with_reducible refine (C3.out).mono ?_); rintro e w4 ⟨d, rfl, ⟨hd0, hd1', _⟩, hs4, ho4⟩; have hd1 := hd1' (by omega); have X4 := hide (X3.out.only ho4 (.inr (by omega))); have Y4 := hide (Y3.out.only ho4 (.inr (by omega))); have y4 : w4.cell? ⟨w2.heap.size, 2, none⟩ = some (.int .i64 0) := Y4.out.cell 2; have f4 := Y4.out.fro 2; have O4 := hide (only_trans O3.out ho4); have z4 := ho4.size; have S4 := hide hs4; clear hs4 ho4 hd1')
  have X5 := hide (X4.out.other (b' := w2.heap.size) (by omega) 2 (.int .i64 (1 + d)))
  have Y5 : Hid (BoxN (w4.setCell ⟨w2.heap.size, 2, none⟩ (.int .i64 (1 + d))) w2.heap.size #[.int .i64 a, .int .i64 c, .int .i64 (1 + d)] 34) := Y4.out.set 2 (.int .i64 (1 + d))
  have S5 := hide (S4.out.set ⟨w2.heap.size, 2, none⟩ (.int .i64 (1 + d)) (by dsimp only; omega))
  have O5 := hide (only_setNew O4.out ⟨w2.heap.size, 2, none⟩ (.int .i64 (1 + d)) (by dsimp only; omega))
  have z5 : w2.heap.size < (w4.setCell ⟨w2.heap.size, 2, none⟩ (.int .i64 (1 + d))).heap.size := by simp [World.setCell]; omega
  clear X3 Y3 O3 C3 X4 Y4 y4 f4 S4 O4
  generalize w4.setCell ⟨w2.heap.size, 2, none⟩ (.int .i64 (1 + d)) = w5 at *
  have C5 := hide (HP.out (N + 2 + 2 + 2) 16 _ (by omega) S5.out)
  go_upto_region 4 with (go_at_call 79; (with_reducible refine (C5.out).mono ?_); rintro e w6 ⟨v, rfl, ⟨hv0, hv1', _⟩, hs6, ho6⟩; have X6 := hide (X5.out.only ho6 (.inr (by omega))); have Y6 := hide (Y5.out.only ho6 (.inr (by omega))); have O6 := hide (only_trans O5.out ho6); have z6 := ho6.size; have S6 := hide hs6; clear hs6 ho6 hv1')
  clear X5 Y5 S5 O5 C5 z1 z3 z4
  by_cases hv0 : v = 0
  · subst hv0
    have S7 := hide (S6.out.alloc (.cells #[.int .i64 (-1), .int .i64 0, .int .i64 1, .int .i64 200, .int .i64 201] 2))
    have X7 := hide (X6.out.alloc (.cells #[.int .i64 (-1), .int .i64 0, .int .i64 1, .int .i64 200, .int .i64 201] 2))
    have Y7 := hide (Y6.out.alloc (.cells #[.int .i64 (-1), .int .i64 0, .int .i64 1, .int .i64 200, .int .i64 201] 2))
    have O7 := hide (only_alloc O6.out (.cells #[.int .i64 (-1), .int .i64 0, .int .i64 1, .int .i64 200, .int .i64 201] 2))
    have z7 : w6.heap.size + 1 ≤ (w6.alloc (.cells #[.int .i64 (-1), .int .i64 0, .int .i64 1, .int .i64 200, .int .i64 201] 2)).heap.size := by simp
    have ham : Calls Try.prog 93 #[.pointer (some ⟨b, 0, none⟩), .slice (some ⟨w6.heap.size, 0, none⟩) 5 5] (w6.alloc (.cells #[.int .i64 (-1), .int .i64 0, .int .i64 1, .int .i64 200, .int .i64 201] 2)) fun e w' => ∃ z, e = .returned (.int .i64 z) ∧ z ∈ ([(-1), 0, 1, 200, 201] : List Int) ∧ SrcAt b bs (N + 2 + 2 + 2 + 2 + 2) w' ∧ Only b (b + 1) (w6.alloc (.cells #[.int .i64 (-1), .int .i64 0, .int .i64 1, .int .i64 200, .int .i64 201] 2)) w' := HAM.out (N + 2 + 2 + 2 + 2) w6.heap.size 0 5 ([(-1), 0, 1, 200, 201] : List Int) _ (by omega) S7.out (by omega) (by simp) (by simp) (by simp) (fun j z hj => by
        match j, hj with
        | 0, hj => simp at hj; subst hj; simp [go_sem]
        | 1, hj => simp at hj; subst hj; simp [go_sem]
        | 2, hj => simp at hj; subst hj; simp [go_sem]
        | 3, hj => simp at hj; subst hj; simp [go_sem]
        | 4, hj => simp at hj; subst hj; simp [go_sem]
        | j + 5, hj => simp at hj)
    have HAMH := hide ham
    clear ham
    go_upto_region 8 with (go_at_call 93; (with_reducible refine (HAMH.out).mono ?_); rintro e w8 ⟨z, rfl, hz, hs8, ho8⟩; have X8 := hide (X7.out.only ho8 (.inr (by omega))); have Y8 := hide (Y7.out.only ho8 (.inr (by omega))); have y8 : w8.cell? ⟨w2.heap.size, 2, none⟩ = some (.int .i64 (1 + d)) := Y8.out.cell 2; have f8 := Y8.out.fro 2; have S8 := hide hs8; have O8 := hide (only_trans O7.out ho8); clear hs8 ho8)
    have hzb : -1 ≤ z ∧ z ≤ 201 := by simp at hz; omega
    have X9 := hide (X8.out.other (b' := w2.heap.size) (by omega) 2 (.int .i64 z))
    have Y9 : Hid (BoxN (w8.setCell ⟨w2.heap.size, 2, none⟩ (.int .i64 z)) w2.heap.size #[.int .i64 a, .int .i64 c, .int .i64 z] 34) := Y8.out.set 2 (.int .i64 z)
    have S9 := hide (S8.out.set ⟨w2.heap.size, 2, none⟩ (.int .i64 z) (by dsimp only; omega))
    have O9 := hide (only_setNew O8.out ⟨w2.heap.size, 2, none⟩ (.int .i64 z) (by dsimp only; omega))
    clear X8 Y8 S8 O8 y8 f8 HAMH
    generalize w8.setCell ⟨w2.heap.size, 2, none⟩ (.int .i64 z) = w9 at *
    have l0 : w9.cell? ⟨w2.heap.size, 0, none⟩ = some (.int .i64 a) := Y9.out.cell 0
    have l1 : w9.cell? ⟨w2.heap.size, 1, none⟩ = some (.int .i64 c) := Y9.out.cell 1
    have l2 : w9.cell? ⟨w2.heap.size, 2, none⟩ = some (.int .i64 z) := Y9.out.cell 2
    have T0 := hide (X9.out.set 0 (.int .i64 a))
    have T1 := hide (T0.out.set 1 (.int .i64 c))
    have T2 := hide (T1.out.set 2 (.int .i64 z))
    have m0 : w9.cell? ⟨w.heap.size, 0, none⟩ = some (.int .i64 0) := X9.out.cell 0
    have n0 := X9.out.fro 0
    have m1 : (w9.setCell ⟨w.heap.size, 0, none⟩ (.int .i64 a)).cell? ⟨w.heap.size, 1, none⟩ = some (.int .i64 0) := T0.out.cell 1
    have n1 := T0.out.fro 1
    have m2 : ((w9.setCell ⟨w.heap.size, 0, none⟩ (.int .i64 a)).setCell ⟨w.heap.size, 1, none⟩ (.int .i64 c)).cell? ⟨w.heap.size, 2, none⟩ = some (.int .i64 0) := T1.out.cell 2
    have n2 := T1.out.fro 2
    go_wp2_with fail
    have q0 : (((w9.setCell ⟨w.heap.size, 0, none⟩ (.int .i64 a)).setCell ⟨w.heap.size, 1, none⟩ (.int .i64 c)).setCell ⟨w.heap.size, 2, none⟩ (.int .i64 z)).cell? ⟨w.heap.size, 0, none⟩ = some (.int .i64 a) := T2.out.cell 0
    have q1 : (((w9.setCell ⟨w.heap.size, 0, none⟩ (.int .i64 a)).setCell ⟨w.heap.size, 1, none⟩ (.int .i64 c)).setCell ⟨w.heap.size, 2, none⟩ (.int .i64 z)).cell? ⟨w.heap.size, 1, none⟩ = some (.int .i64 c) := T2.out.cell 1
    have q2 : (((w9.setCell ⟨w.heap.size, 0, none⟩ (.int .i64 a)).setCell ⟨w.heap.size, 1, none⟩ (.int .i64 c)).setCell ⟨w.heap.size, 2, none⟩ (.int .i64 z)).cell? ⟨w.heap.size, 2, none⟩ = some (.int .i64 z) := T2.out.cell 2
    refine bodyPost_ret (v := .agg #[.int .i64 a, .int .i64 c, .int .i64 z]) (by simp [results, Try.results85, go_sem, q0, q1, q2]) rfl ⟨⟨a, c, z⟩, rfl, ⟨⟨ha0, ha1⟩, ⟨by dsimp only; omega, by dsimp only; omega⟩, by dsimp only; omega, by dsimp only; omega⟩, ?_, ?_⟩
    · exact (((S9.out.set ⟨w.heap.size, 0, none⟩ (.int .i64 a) hbl).set ⟨w.heap.size, 1, none⟩ (.int .i64 c) hbl).set ⟨w.heap.size, 2, none⟩ (.int .i64 z) hbl).more (by omega)
    · exact only_setNew (only_setNew (only_setNew O9.out ⟨w.heap.size, 0, none⟩ (.int .i64 a) (Nat.le_refl _)) ⟨w.heap.size, 1, none⟩ (.int .i64 c) (Nat.le_refl _)) ⟨w.heap.size, 2, none⟩ (.int .i64 z) (Nat.le_refl _)
  · have hB0 : (v == 0) = false := by simp [hv0]
    by_cases hv1 : v = 1
    · subst hv1
      have hwn : IntKind.i64.wrap (n - 1) = n - 1 := by rw [IntKind.wrap_i64] <;> omega
      have S7 := hide (S6.out.alloc (.cells #[.int .i64 (-1), .int .i64 0, .int .i64 (n - 1), .int .i64 n] 2))
      have X7 := hide (X6.out.alloc (.cells #[.int .i64 (-1), .int .i64 0, .int .i64 (n - 1), .int .i64 n] 2))
      have Y7 := hide (Y6.out.alloc (.cells #[.int .i64 (-1), .int .i64 0, .int .i64 (n - 1), .int .i64 n] 2))
      have O7 := hide (only_alloc O6.out (.cells #[.int .i64 (-1), .int .i64 0, .int .i64 (n - 1), .int .i64 n] 2))
      have z7 : w6.heap.size + 1 ≤ (w6.alloc (.cells #[.int .i64 (-1), .int .i64 0, .int .i64 (n - 1), .int .i64 n] 2)).heap.size := by simp
      have ham : Calls Try.prog 93 #[.pointer (some ⟨b, 0, none⟩), .slice (some ⟨w6.heap.size, 0, none⟩) 4 4] (w6.alloc (.cells #[.int .i64 (-1), .int .i64 0, .int .i64 (n - 1), .int .i64 n] 2)) fun e w' => ∃ z, e = .returned (.int .i64 z) ∧ z ∈ ([(-1), 0, (n - 1), n] : List Int) ∧ SrcAt b bs (N + 2 + 2 + 2 + 2 + 2) w' ∧ Only b (b + 1) (w6.alloc (.cells #[.int .i64 (-1), .int .i64 0, .int .i64 (n - 1), .int .i64 n] 2)) w' := HAM.out (N + 2 + 2 + 2 + 2) w6.heap.size 0 4 ([(-1), 0, (n - 1), n] : List Int) _ (by omega) S7.out (by omega) (by simp) (by simp) (by simp) (fun j z hj => by
          match j, hj with
          | 0, hj => simp at hj; subst hj; simp [go_sem]
          | 1, hj => simp at hj; subst hj; simp [go_sem]
          | 2, hj => simp at hj; subst hj; simp [go_sem]
          | 3, hj => simp at hj; subst hj; simp [go_sem]
          | j + 4, hj => simp at hj)
      have HAMH := hide ham
      clear ham
      go_upto_region 8 with (go_at_call 93; (with_reducible refine (HAMH.out).mono ?_); rintro e w8 ⟨z, rfl, hz, hs8, ho8⟩; have X8 := hide (X7.out.only ho8 (.inr (by omega))); have Y8 := hide (Y7.out.only ho8 (.inr (by omega))); have y8 : w8.cell? ⟨w2.heap.size, 1, none⟩ = some (.int .i64 c) := Y8.out.cell 1; have f8 := Y8.out.fro 1; have S8 := hide hs8; have O8 := hide (only_trans O7.out ho8); clear hs8 ho8)
      have hzb : -1 ≤ z ∧ z ≤ n := by simp at hz; omega
      have X9 := hide (X8.out.other (b' := w2.heap.size) (by omega) 1 (.int .i64 z))
      have Y9 : Hid (BoxN (w8.setCell ⟨w2.heap.size, 1, none⟩ (.int .i64 z)) w2.heap.size #[.int .i64 a, .int .i64 z, .int .i64 (1 + d)] 34) := Y8.out.set 1 (.int .i64 z)
      have S9 := hide (S8.out.set ⟨w2.heap.size, 1, none⟩ (.int .i64 z) (by dsimp only; omega))
      have O9 := hide (only_setNew O8.out ⟨w2.heap.size, 1, none⟩ (.int .i64 z) (by dsimp only; omega))
      clear X8 Y8 S8 O8 y8 f8 HAMH
      generalize w8.setCell ⟨w2.heap.size, 1, none⟩ (.int .i64 z) = w9 at *
      have l0 : w9.cell? ⟨w2.heap.size, 0, none⟩ = some (.int .i64 a) := Y9.out.cell 0
      have l1 : w9.cell? ⟨w2.heap.size, 1, none⟩ = some (.int .i64 z) := Y9.out.cell 1
      have l2 : w9.cell? ⟨w2.heap.size, 2, none⟩ = some (.int .i64 (1 + d)) := Y9.out.cell 2
      have T0 := hide (X9.out.set 0 (.int .i64 a))
      have T1 := hide (T0.out.set 1 (.int .i64 z))
      have T2 := hide (T1.out.set 2 (.int .i64 (1 + d)))
      have m0 : w9.cell? ⟨w.heap.size, 0, none⟩ = some (.int .i64 0) := X9.out.cell 0
      have n0 := X9.out.fro 0
      have m1 : (w9.setCell ⟨w.heap.size, 0, none⟩ (.int .i64 a)).cell? ⟨w.heap.size, 1, none⟩ = some (.int .i64 0) := T0.out.cell 1
      have n1 := T0.out.fro 1
      have m2 : ((w9.setCell ⟨w.heap.size, 0, none⟩ (.int .i64 a)).setCell ⟨w.heap.size, 1, none⟩ (.int .i64 z)).cell? ⟨w.heap.size, 2, none⟩ = some (.int .i64 0) := T1.out.cell 2
      have n2 := T1.out.fro 2
      go_wp2_with fail
      have q0 : (((w9.setCell ⟨w.heap.size, 0, none⟩ (.int .i64 a)).setCell ⟨w.heap.size, 1, none⟩ (.int .i64 z)).setCell ⟨w.heap.size, 2, none⟩ (.int .i64 (1 + d))).cell? ⟨w.heap.size, 0, none⟩ = some (.int .i64 a) := T2.out.cell 0
      have q1 : (((w9.setCell ⟨w.heap.size, 0, none⟩ (.int .i64 a)).setCell ⟨w.heap.size, 1, none⟩ (.int .i64 z)).setCell ⟨w.heap.size, 2, none⟩ (.int .i64 (1 + d))).cell? ⟨w.heap.size, 1, none⟩ = some (.int .i64 z) := T2.out.cell 1
      have q2 : (((w9.setCell ⟨w.heap.size, 0, none⟩ (.int .i64 a)).setCell ⟨w.heap.size, 1, none⟩ (.int .i64 z)).setCell ⟨w.heap.size, 2, none⟩ (.int .i64 (1 + d))).cell? ⟨w.heap.size, 2, none⟩ = some (.int .i64 (1 + d)) := T2.out.cell 2
      refine bodyPost_ret (v := .agg #[.int .i64 a, .int .i64 z, .int .i64 (1 + d)]) (by simp [results, Try.results85, go_sem, q0, q1, q2]) rfl ⟨⟨a, z, (1 + d)⟩, rfl, ⟨⟨ha0, ha1⟩, ⟨by dsimp only; omega, by dsimp only; omega⟩, by dsimp only; omega, by dsimp only; omega⟩, ?_, ?_⟩
      · exact (((S9.out.set ⟨w.heap.size, 0, none⟩ (.int .i64 a) hbl).set ⟨w.heap.size, 1, none⟩ (.int .i64 z) hbl).set ⟨w.heap.size, 2, none⟩ (.int .i64 (1 + d)) hbl).more (by omega)
      · exact only_setNew (only_setNew (only_setNew O9.out ⟨w.heap.size, 0, none⟩ (.int .i64 a) (Nat.le_refl _)) ⟨w.heap.size, 1, none⟩ (.int .i64 z) (Nat.le_refl _)) ⟨w.heap.size, 2, none⟩ (.int .i64 (1 + d)) (Nat.le_refl _)
    · have hB1 : (v == 1) = false := by simp [hv1]
      have HV := hide hv0
      have HV1 := hide hv1
      clear hv0 hv1
      go_upto_region 8 with fail
      have l0 : w6.cell? ⟨w2.heap.size, 0, none⟩ = some (.int .i64 a) := Y6.out.cell 0
      have l1 : w6.cell? ⟨w2.heap.size, 1, none⟩ = some (.int .i64 c) := Y6.out.cell 1
      have l2 : w6.cell? ⟨w2.heap.size, 2, none⟩ = some (.int .i64 (1 + d)) := Y6.out.cell 2
      have T0 := hide (X6.out.set 0 (.int .i64 a))
      have T1 := hide (T0.out.set 1 (.int .i64 c))
      have T2 := hide (T1.out.set 2 (.int .i64 (1 + d)))
      have m0 : w6.cell? ⟨w.heap.size, 0, none⟩ = some (.int .i64 0) := X6.out.cell 0
      have n0 := X6.out.fro 0
      have m1 : (w6.setCell ⟨w.heap.size, 0, none⟩ (.int .i64 a)).cell? ⟨w.heap.size, 1, none⟩ = some (.int .i64 0) := T0.out.cell 1
      have n1 := T0.out.fro 1
      have m2 : ((w6.setCell ⟨w.heap.size, 0, none⟩ (.int .i64 a)).setCell ⟨w.heap.size, 1, none⟩ (.int .i64 c)).cell? ⟨w.heap.size, 2, none⟩ = some (.int .i64 0) := T1.out.cell 2
      have n2 := T1.out.fro 2
      go_wp2_with fail
      have q0 : (((w6.setCell ⟨w.heap.size, 0, none⟩ (.int .i64 a)).setCell ⟨w.heap.size, 1, none⟩ (.int .i64 c)).setCell ⟨w.heap.size, 2, none⟩ (.int .i64 (1 + d))).cell? ⟨w.heap.size, 0, none⟩ = some (.int .i64 a) := T2.out.cell 0
      have q1 : (((w6.setCell ⟨w.heap.size, 0, none⟩ (.int .i64 a)).setCell ⟨w.heap.size, 1, none⟩ (.int .i64 c)).setCell ⟨w.heap.size, 2, none⟩ (.int .i64 (1 + d))).cell? ⟨w.heap.size, 1, none⟩ = some (.int .i64 c) := T2.out.cell 1
      have q2 : (((w6.setCell ⟨w.heap.size, 0, none⟩ (.int .i64 a)).setCell ⟨w.heap.size, 1, none⟩ (.int .i64 c)).setCell ⟨w.heap.size, 2, none⟩ (.int .i64 (1 + d))).cell? ⟨w.heap.size, 2, none⟩ = some (.int .i64 (1 + d)) := T2.out.cell 2
      refine bodyPost_ret (v := .agg #[.int .i64 a, .int .i64 c, .int .i64 (1 + d)]) (by simp [results, Try.results85, go_sem, q0, q1, q2]) rfl ⟨⟨a, c, (1 + d)⟩, rfl, ⟨⟨ha0, ha1⟩, ⟨by dsimp only; omega, by dsimp only; omega⟩, by dsimp only; omega, by dsimp only; omega⟩, ?_, ?_⟩
      · exact (((S6.out.set ⟨w.heap.size, 0, none⟩ (.int .i64 a) hbl).set ⟨w.heap.size, 1, none⟩ (.int .i64 c) hbl).set ⟨w.heap.size, 2, none⟩ (.int .i64 (1 + d)) hbl).more (by omega)
      · exact only_setNew (only_setNew (only_setNew O6.out ⟨w.heap.size, 0, none⟩ (.int .i64 a) (Nat.le_refl _)) ⟨w.heap.size, 1, none⟩ (.int .i64 c) (Nat.le_refl _)) ⟨w.heap.size, 2, none⟩ (.int .i64 (1 + d)) (Nat.le_refl _)
end Go.Proofs.Ytflbddfmhjlknaa
