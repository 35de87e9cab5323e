/-
  Draws of carriers: a fleet and which of them runs; lists of numbers compared.
  Drawn wishes.
  A drawn move.
  The search for the cheapest moves: what it computes, and the boxes of the program's search. Plain lemmas.
-/
import Derived.Test.YtklfjekpeoigoaaQMovesBack7
import Derived.Test.YtklfjekpeoigoaaQMovesBack3
import Derived.Test.YtklfjekpeoigoaaQMovesBack6
namespace Go.Proofs.Ytklfjekpeoigoaa
open Go.RowKit

set_option maxRecDepth 100000 in
set_option maxHeartbeats 1000000 in
theorem f6ints_any (xs ys : List Int) (A1 A2 : Option Addr) (c1 c2 : Nat) (w : World) (hx : xs.length ≤ 9223372036854775807) (hy : ys.length ≤ 9223372036854775807)
    (h1 : RdI w w.heap.size A1 xs) (h2 : RdI w w.heap.size A2 ys) :
    Calls Try.prog 35 #[.slice A1 xs.length c1, .slice A2 ys.length c2] w fun e w' => e = .returned (.bool (decide (xs = ys))) ∧ Below w.heap.size w w' := by
  by_cases hl : xs.length = ys.length
  · have hB : ((xs.length : Int) != ys.length) = false := by simp [hl]
    have HL := hide hl; clear hl
    go_enter Try.func35, Try.ntmps35
    go_wp2_with fail
    go_loopg [5] xs.length (fun g i wr => ∃ k : Nat, k ≤ xs.length ∧ g = xs.length - k ∧ i = .int .i64 k ∧ Below w.heap.size w wr ∧ Hid (xs = ys ↔ xs.drop k = ys.drop k))
    case atStart => exact ⟨0, by omega, by omega, rfl, Below.refl _ _, by simp [Hid]⟩
    case round =>
      obtain ⟨k, hk, hg, rfl, hb, HE⟩ := hrel
      by_cases hlt : k < xs.length
      · have hlt2 : k < ys.length := by have := HL.out; omega
        obtain ⟨b1, o1, z1, rfl, _, hz1, hc1⟩ := (h1.below hb).at_ hlt
        obtain ⟨b2, o2, z2, rfl, _, hz2, hc2⟩ := (h2.below hb).at_ hlt2
        have Z1 := hide hz1; have Z2 := hide hz2; clear hz1 hz2 h1 h2
        have HG := hide hg; clear hg
        by_cases he : z1 = z2
        · subst he
          go_wp2_with fail
          go_quiet (fail)
          go_wp2_with fail
          go_roundg (xs.length - (k + 1))
          case measure => have := HG.out; omega
          case rel =>
            refine ⟨k + 1, by omega, rfl, by go_num, bdn hb _, ?_⟩
            have h := HE.out
            rw [drop_cons Z1.out, drop_cons Z2.out] at h
            exact hide (by simpa using h)
        · have hd : (z1 != z2) = true := by simp [he]
          go_wp2_with fail
          go_quiet (fail)
          go_wp2_with fail
          go_ret
          refine ⟨ret_b ?_, bdn hb _⟩
          have h := HE.out
          rw [drop_cons Z1.out, drop_cons Z2.out] at h
          simp [he] at h
          simp [h]
      · go_wp2_with fail
        go_ret
        refine ⟨ret_b ?_, hb⟩
        have h := HE.out
        rw [List.drop_eq_nil_of_le (by omega), List.drop_eq_nil_of_le (by have := HL.out; omega)] at h
        simpa using h
  · have hB : ((xs.length : Int) != ys.length) = true := by simp; omega
    have HL := hide hl; clear hl
    go_enter Try.func35, Try.ntmps35
    go_wp2_with fail
    go_ret
    exact ⟨ret_b (by simp; intro e; exact HL.out (by rw [e])), Below.refl _ _⟩
theorem f6big_any (A : Option Addr) (n c : Nat) (w : World) (hn : n ≤ 4096) :
    Calls Try.prog 23 #[.slice A n c] w fun e w' => e = .returned (.bool false) ∧ w = w' := by
  have hD : decide ((4096 : Int) < (n : Int)) = false := decide_eq_false (by omega)
  go_enter Try.func23, Try.ntmps23
  go_wp2_with fail
  go_ret
  exact ⟨rfl, rfl⟩
theorem below_src' {w w1 w2 : World} (h : Below w.heap.size w w1) (k : Only w.heap.size (w.heap.size + 1) w1 w2) : Below w.heap.size w w2 := h.trans (k.below (Nat.le_refl _) h.size)
end Go.Proofs.Ytklfjekpeoigoaa
namespace Go.Proofs.Ytklfjekpeoigoaa
open Go.RowKit

theorem BoxN.only {w w' : World} {b lo hi : Nat} {cs : Array Value} {e : TypeId} (h : BoxN w b cs e) (k : Only lo hi w w') (hd : b < lo ∨ hi ≤ b) : BoxN w' b cs e := (k.2.2.2.2 b h.lt hd).trans h
theorem only_setNew {lo hi : Nat} {w0 w : World} (h : Only lo hi w0 w) (a : Addr) (v : Value) (hB : w0.heap.size ≤ a.block) : Only lo hi w0 (w.setCell a v) :=
  ⟨h.1, h.2.1, h.2.2.1, by have := h.size; simpa [World.setCell] using this, fun k hk ho => (Below.heap_setCell _ _ _ _ (by omega)).trans (h.2.2.2.2 k hk ho)⟩
theorem grown_setCell (w : World) (a : Addr) (v : Value) : w.grownBy (w.setCell a v) (some a.block) :=
  ⟨rfl, rfl, rfl, by simp [World.setCell], fun k _ hn => Below.heap_setCell _ _ _ _ (fun e => hn (by rw [e]))⟩
theorem SrcAt.set {b : Nat} {bs : List Int} {N : Int} {W : World} (h : SrcAt b bs N W) (a : Addr) (v : Value) (hb : b < a.block) : SrcAt b bs N (W.setCell a v) :=
  h.below (B := b + 1) ⟨rfl, rfl, rfl, by simp [World.setCell], fun k hk => Below.heap_setCell _ _ _ _ (by omega)⟩ (Nat.lt_succ_self b)
/-- A drawn wish, for n tubes. -/
def WDrawn (n : Nat) (e : TN) : Prop := ((1 ≤ e.way.length ∧ e.way.length ≤ 4) ∧ ∀ z ∈ e.way, 0 ≤ z ∧ z ≤ (n : Int) - 1) ∧ (0 ≤ e.p ∧ e.p ≤ 19) ∧ (0 ≤ e.q ∧ e.q ≤ 78)
end Go.Proofs.Ytklfjekpeoigoaa
namespace Go.Proofs.Ytklfjekpeoigoaa
open Go.RowKit
set_option maxRecDepth 100000 in
set_option maxHeartbeats 4000000 in
theorem drawMove_any (b : Nat) (bs : List Int) (N n : Int) (w : World) (hbs : BsOk bs) (hN : N ≤ 1099510000000) (hn : 1 ≤ n) (hn2 : n ≤ 1000) (h : SrcAt b bs N w) :
    Calls Try.prog 235 #[.pointer (some ⟨b, 0, none⟩), .int .i64 n] w fun e w' => ∃ m : T3, e = .returned (.agg #[.int .i64 m.a, .int .i64 m.b, .int .i64 m.c]) ∧ ((0 ≤ m.a ∧ m.a < n) ∧ (-1 ≤ m.b ∧ m.b ≤ n) ∧ -1 ≤ m.c ∧ m.c ≤ 201) ∧ SrcAt b bs (N + 20) w' ∧ Only b (b + 1) w w' := by
  have hbl := h.lt
  have HP := hide fun M n W (hM : M ≤ 1099511000000) (hW : SrcAt b bs M W) => pick_any b bs M n W hbs hM hW
  have HAM := hide fun M g o c xs W (hM : M ≤ 1099511000000) (hW : SrcAt b bs M W) => among_any b bs M g o c xs W hbs hM hW
  have X0 := hide (BoxN.new w #[.int .i64 0, .int .i64 0, .int .i64 0] 143)
  have S0 := hide (h.alloc (.cells #[.int .i64 0, .int .i64 0, .int .i64 0] 143))
  have O0 : Hid (Only b (b + 1) w (w.alloc (.cells #[.int .i64 0, .int .i64 0, .int .i64 0] 143))) := only_of_below ((Below.refl _ _).alloc (Nat.le_refl _) _)
  have z0 : w.heap.size + 1 ≤ (w.alloc (.cells #[.int .i64 0, .int .i64 0, .int .i64 0] 143)).heap.size := by simp
  have C0 := hide (HP.out N n _ (by omega) S0.out)
  clear h
  go_enter Try.func235, Try.ntmps235
  go_upto_region 2 with (first | (go_at_call 134; (with_reducible refine (C0.out).mono ?_); rintro e w1 ⟨a, rfl, ⟨ha0, ha1', _⟩, hs1, ho1⟩; have ha1 := ha1' hn; have X1 := hide (X0.out.only ho1 (.inr (by omega))); have z1 := ho1.size; have O1 := hide (only_trans O0.out ho1); have C1 := hide (HP.out (N + 2) n _ (by omega) hs1); clear hs1 ho1 C0 X0 S0 O0 ha1') | (go_at_call 134; (with_reducible refine (C1.out).mono ?_); rintro e w2 ⟨c, rfl, ⟨hc0, hc1', _⟩, hs2, ho2⟩; have hc1 := hc1' hn; have X2 := hide (X1.out.only ho2 (.inr (by omega))); have z2 := ho2.size; have O2 := hide (only_trans O1.out ho2); have S2 := hide hs2; clear hs2 ho2 C1 X1 O1 hc1'))
  have X3 := hide (X2.out.alloc (.cells #[.int .i64 a, .int .i64 c, .int .i64 0] 143))
  have Y3 := hide (BoxN.new w2 #[.int .i64 a, .int .i64 c, .int .i64 0] 143)
  have S3 := hide (S2.out.alloc (.cells #[.int .i64 a, .int .i64 c, .int .i64 0] 143))
  have O3 := hide (only_alloc O2.out (.cells #[.int .i64 a, .int .i64 c, .int .i64 0] 143))
  have z3 : w2.heap.size + 1 ≤ (w2.alloc (.cells #[.int .i64 a, .int .i64 c, .int .i64 0] 143)).heap.size := by simp
  have zz : w.heap.size < w2.heap.size := by omega
  have C3 := hide (HP.out (N + 2 + 2) 4 _ (by omega) S3.out)
  clear X2 S2 O2 S3
  go_upto_region 3 with (go_at_call 134; (with_reducible refine (C3.out).mono ?_); rintro e w4 ⟨d, rfl, ⟨hd0, hd1', _⟩, hs4, ho4⟩; have hd1 := hd1' (by omega); have X4 := hide (X3.out.only ho4 (.inr (by omega))); have Y4 := hide (Y3.out.only ho4 (.inr (by omega))); have y4 : w4.cell? ⟨w2.heap.size, 2, none⟩ = some (.int .i64 0) := Y4.out.cell 2; have f4 := Y4.out.fro 2; have O4 := hide (only_trans O3.out ho4); have z4 := ho4.size; have S4 := hide hs4; clear hs4 ho4 hd1')
  have X5 := hide (X4.out.other (b' := w2.heap.size) (by omega) 2 (.int .i64 (1 + d)))
  have Y5 : Hid (BoxN (w4.setCell ⟨w2.heap.size, 2, none⟩ (.int .i64 (1 + d))) w2.heap.size #[.int .i64 a, .int .i64 c, .int .i64 (1 + d)] 143) := Y4.out.set 2 (.int .i64 (1 + d))
  have S5 := hide (S4.out.set ⟨w2.heap.size, 2, none⟩ (.int .i64 (1 + d)) (by dsimp only; omega))
  have O5 := hide (only_setNew O4.out ⟨w2.heap.size, 2, none⟩ (.int .i64 (1 + d)) (by dsimp only; omega))
  have z5 : w2.heap.size < (w4.setCell ⟨w2.heap.size, 2, none⟩ (.int .i64 (1 + d))).heap.size := by simp [World.setCell]; omega
  clear X3 Y3 O3 C3 X4 Y4 y4 f4 S4 O4
  generalize w4.setCell ⟨w2.heap.size, 2, none⟩ (.int .i64 (1 + d)) = w5 at *
  have C5 := hide (HP.out (N + 2 + 2 + 2) 16 _ (by omega) S5.out)
  go_upto_region 4 with (go_at_call 134; (with_reducible refine (C5.out).mono ?_); rintro e w6 ⟨v, rfl, ⟨hv0, hv1', _⟩, hs6, ho6⟩; have X6 := hide (X5.out.only ho6 (.inr (by omega))); have Y6 := hide (Y5.out.only ho6 (.inr (by omega))); have O6 := hide (only_trans O5.out ho6); have z6 := ho6.size; have S6 := hide hs6; clear hs6 ho6 hv1')
  clear X5 Y5 S5 O5 C5 z1 z3 z4
  by_cases hv0 : v = 0
  · subst hv0
    have S7 := hide (S6.out.alloc (.cells #[.int .i64 (-1), .int .i64 0, .int .i64 1, .int .i64 200, .int .i64 201] 2))
    have X7 := hide (X6.out.alloc (.cells #[.int .i64 (-1), .int .i64 0, .int .i64 1, .int .i64 200, .int .i64 201] 2))
    have Y7 := hide (Y6.out.alloc (.cells #[.int .i64 (-1), .int .i64 0, .int .i64 1, .int .i64 200, .int .i64 201] 2))
    have O7 := hide (only_alloc O6.out (.cells #[.int .i64 (-1), .int .i64 0, .int .i64 1, .int .i64 200, .int .i64 201] 2))
    have z7 : w6.heap.size + 1 ≤ (w6.alloc (.cells #[.int .i64 (-1), .int .i64 0, .int .i64 1, .int .i64 200, .int .i64 201] 2)).heap.size := by simp
    have ham : Calls Try.prog 150 #[.pointer (some ⟨b, 0, none⟩), .slice (some ⟨w6.heap.size, 0, none⟩) 5 5] (w6.alloc (.cells #[.int .i64 (-1), .int .i64 0, .int .i64 1, .int .i64 200, .int .i64 201] 2)) fun e w' => ∃ z, e = .returned (.int .i64 z) ∧ z ∈ ([(-1), 0, 1, 200, 201] : List Int) ∧ SrcAt b bs (N + 2 + 2 + 2 + 2 + 2) w' ∧ Only b (b + 1) (w6.alloc (.cells #[.int .i64 (-1), .int .i64 0, .int .i64 1, .int .i64 200, .int .i64 201] 2)) w' := HAM.out (N + 2 + 2 + 2 + 2) w6.heap.size 0 5 ([(-1), 0, 1, 200, 201] : List Int) _ (by omega) S7.out (by omega) (by simp) (by simp) (by simp) (fun j z hj => by
        match j, hj with
        | 0, hj => simp at hj; subst hj; simp [go_sem]
        | 1, hj => simp at hj; subst hj; simp [go_sem]
        | 2, hj => simp at hj; subst hj; simp [go_sem]
        | 3, hj => simp at hj; subst hj; simp [go_sem]
        | 4, hj => simp at hj; subst hj; simp [go_sem]
        | j + 5, hj => simp at hj)
    have HAMH := hide ham
    clear ham
    go_upto_region 8 with (go_at_call 150; (with_reducible refine (HAMH.out).mono ?_); rintro e w8 ⟨z, rfl, hz, hs8, ho8⟩; have X8 := hide (X7.out.only ho8 (.inr (by omega))); have Y8 := hide (Y7.out.only ho8 (.inr (by omega))); have y8 : w8.cell? ⟨w2.heap.size, 2, none⟩ = some (.int .i64 (1 + d)) := Y8.out.cell 2; have f8 := Y8.out.fro 2; have S8 := hide hs8; have O8 := hide (only_trans O7.out ho8); clear hs8 ho8)
    have hzb : -1 ≤ z ∧ z ≤ 201 := by simp at hz; omega
    have X9 := hide (X8.out.other (b' := w2.heap.size) (by omega) 2 (.int .i64 z))
    have Y9 : Hid (BoxN (w8.setCell ⟨w2.heap.size, 2, none⟩ (.int .i64 z)) w2.heap.size #[.int .i64 a, .int .i64 c, .int .i64 z] 143) := Y8.out.set 2 (.int .i64 z)
    have S9 := hide (S8.out.set ⟨w2.heap.size, 2, none⟩ (.int .i64 z) (by dsimp only; omega))
    have O9 := hide (only_setNew O8.out ⟨w2.heap.size, 2, none⟩ (.int .i64 z) (by dsimp only; omega))
    clear X8 Y8 S8 O8 y8 f8 HAMH
    generalize w8.setCell ⟨w2.heap.size, 2, none⟩ (.int .i64 z) = w9 at *
    have l0 : w9.cell? ⟨w2.heap.size, 0, none⟩ = some (.int .i64 a) := Y9.out.cell 0
    have l1 : w9.cell? ⟨w2.heap.size, 1, none⟩ = some (.int .i64 c) := Y9.out.cell 1
    have l2 : w9.cell? ⟨w2.heap.size, 2, none⟩ = some (.int .i64 z) := Y9.out.cell 2
    have T0 := hide (X9.out.set 0 (.int .i64 a))
    have T1 := hide (T0.out.set 1 (.int .i64 c))
    have T2 := hide (T1.out.set 2 (.int .i64 z))
    have m0 : w9.cell? ⟨w.heap.size, 0, none⟩ = some (.int .i64 0) := X9.out.cell 0
    have n0 := X9.out.fro 0
    have m1 : (w9.setCell ⟨w.heap.size, 0, none⟩ (.int .i64 a)).cell? ⟨w.heap.size, 1, none⟩ = some (.int .i64 0) := T0.out.cell 1
    have n1 := T0.out.fro 1
    have m2 : ((w9.setCell ⟨w.heap.size, 0, none⟩ (.int .i64 a)).setCell ⟨w.heap.size, 1, none⟩ (.int .i64 c)).cell? ⟨w.heap.size, 2, none⟩ = some (.int .i64 0) := T1.out.cell 2
    have n2 := T1.out.fro 2
    go_wp2_with fail
    have q0 : (((w9.setCell ⟨w.heap.size, 0, none⟩ (.int .i64 a)).setCell ⟨w.heap.size, 1, none⟩ (.int .i64 c)).setCell ⟨w.heap.size, 2, none⟩ (.int .i64 z)).cell? ⟨w.heap.size, 0, none⟩ = some (.int .i64 a) := T2.out.cell 0
    have q1 : (((w9.setCell ⟨w.heap.size, 0, none⟩ (.int .i64 a)).setCell ⟨w.heap.size, 1, none⟩ (.int .i64 c)).setCell ⟨w.heap.size, 2, none⟩ (.int .i64 z)).cell? ⟨w.heap.size, 1, none⟩ = some (.int .i64 c) := T2.out.cell 1
    have q2 : (((w9.setCell ⟨w.heap.size, 0, none⟩ (.int .i64 a)).setCell ⟨w.heap.size, 1, none⟩ (.int .i64 c)).setCell ⟨w.heap.size, 2, none⟩ (.int .i64 z)).cell? ⟨w.heap.size, 2, none⟩ = some (.int .i64 z) := T2.out.cell 2
    refine bodyPost_ret (v := .agg #[.int .i64 a, .int .i64 c, .int .i64 z]) (by simp [results, Try.results235, go_sem, q0, q1, q2]) rfl ⟨⟨a, c, z⟩, rfl, ⟨⟨ha0, ha1⟩, ⟨by dsimp only; omega, by dsimp only; omega⟩, by dsimp only; omega, by dsimp only; omega⟩, ?_, ?_⟩
    · exact (((S9.out.set ⟨w.heap.size, 0, none⟩ (.int .i64 a) hbl).set ⟨w.heap.size, 1, none⟩ (.int .i64 c) hbl).set ⟨w.heap.size, 2, none⟩ (.int .i64 z) hbl).more (by omega)
    · exact only_setNew (only_setNew (only_setNew O9.out ⟨w.heap.size, 0, none⟩ (.int .i64 a) (Nat.le_refl _)) ⟨w.heap.size, 1, none⟩ (.int .i64 c) (Nat.le_refl _)) ⟨w.heap.size, 2, none⟩ (.int .i64 z) (Nat.le_refl _)
  · have hB0 : (v == 0) = false := by simp [hv0]
    by_cases hv1 : v = 1
    · subst hv1
      have hwn : IntKind.i64.wrap (n - 1) = n - 1 := by rw [IntKind.wrap_i64] <;> omega
      have S7 := hide (S6.out.alloc (.cells #[.int .i64 (-1), .int .i64 0, .int .i64 (n - 1), .int .i64 n] 2))
      have X7 := hide (X6.out.alloc (.cells #[.int .i64 (-1), .int .i64 0, .int .i64 (n - 1), .int .i64 n] 2))
      have Y7 := hide (Y6.out.alloc (.cells #[.int .i64 (-1), .int .i64 0, .int .i64 (n - 1), .int .i64 n] 2))
      have O7 := hide (only_alloc O6.out (.cells #[.int .i64 (-1), .int .i64 0, .int .i64 (n - 1), .int .i64 n] 2))
      have z7 : w6.heap.size + 1 ≤ (w6.alloc (.cells #[.int .i64 (-1), .int .i64 0, .int .i64 (n - 1), .int .i64 n] 2)).heap.size := by simp
      have ham : Calls Try.prog 150 #[.pointer (some ⟨b, 0, none⟩), .slice (some ⟨w6.heap.size, 0, none⟩) 4 4] (w6.alloc (.cells #[.int .i64 (-1), .int .i64 0, .int .i64 (n - 1), .int .i64 n] 2)) fun e w' => ∃ z, e = .returned (.int .i64 z) ∧ z ∈ ([(-1), 0, (n - 1), n] : List Int) ∧ SrcAt b bs (N + 2 + 2 + 2 + 2 + 2) w' ∧ Only b (b + 1) (w6.alloc (.cells #[.int .i64 (-1), .int .i64 0, .int .i64 (n - 1), .int .i64 n] 2)) w' := HAM.out (N + 2 + 2 + 2 + 2) w6.heap.size 0 4 ([(-1), 0, (n - 1), n] : List Int) _ (by omega) S7.out (by omega) (by simp) (by simp) (by simp) (fun j z hj => by
          match j, hj with
          | 0, hj => simp at hj; subst hj; simp [go_sem]
          | 1, hj => simp at hj; subst hj; simp [go_sem]
          | 2, hj => simp at hj; subst hj; simp [go_sem]
          | 3, hj => simp at hj; subst hj; simp [go_sem]
          | j + 4, hj => simp at hj)
      have HAMH := hide ham
      clear ham
      go_upto_region 8 with (go_at_call 150; (with_reducible refine (HAMH.out).mono ?_); rintro e w8 ⟨z, rfl, hz, hs8, ho8⟩; have X8 := hide (X7.out.only ho8 (.inr (by omega))); have Y8 := hide (Y7.out.only ho8 (.inr (by omega))); have y8 : w8.cell? ⟨w2.heap.size, 1, none⟩ = some (.int .i64 c) := Y8.out.cell 1; have f8 := Y8.out.fro 1; have S8 := hide hs8; have O8 := hide (only_trans O7.out ho8); clear hs8 ho8)
      have hzb : -1 ≤ z ∧ z ≤ n := by simp at hz; omega
      have X9 := hide (X8.out.other (b' := w2.heap.size) (by omega) 1 (.int .i64 z))
      have Y9 : Hid (BoxN (w8.setCell ⟨w2.heap.size, 1, none⟩ (.int .i64 z)) w2.heap.size #[.int .i64 a, .int .i64 z, .int .i64 (1 + d)] 143) := Y8.out.set 1 (.int .i64 z)
      have S9 := hide (S8.out.set ⟨w2.heap.size, 1, none⟩ (.int .i64 z) (by dsimp only; omega))
      have O9 := hide (only_setNew O8.out ⟨w2.heap.size, 1, none⟩ (.int .i64 z) (by dsimp only; omega))
      clear X8 Y8 S8 O8 y8 f8 HAMH
      generalize w8.setCell ⟨w2.heap.size, 1, none⟩ (.int .i64 z) = w9 at *
      have l0 : w9.cell? ⟨w2.heap.size, 0, none⟩ = some (.int .i64 a) := Y9.out.cell 0
      have l1 : w9.cell? ⟨w2.heap.size, 1, none⟩ = some (.int .i64 z) := Y9.out.cell 1
      have l2 : w9.cell? ⟨w2.heap.size, 2, none⟩ = some (.int .i64 (1 + d)) := Y9.out.cell 2
      have T0 := hide (X9.out.set 0 (.int .i64 a))
      have T1 := hide (T0.out.set 1 (.int .i64 z))
      have T2 := hide (T1.out.set 2 (.int .i64 (1 + d)))
      have m0 : w9.cell? ⟨w.heap.size, 0, none⟩ = some (.int .i64 0) := X9.out.cell 0
      have n0 := X9.out.fro 0
      have m1 : (w9.setCell ⟨w.heap.size, 0, none⟩ (.int .i64 a)).cell? ⟨w.heap.size, 1, none⟩ = some (.int .i64 0) := T0.out.cell 1
      have n1 := T0.out.fro 1
      have m2 : ((w9.setCell ⟨w.heap.size, 0, none⟩ (.int .i64 a)).setCell ⟨w.heap.size, 1, none⟩ (.int .i64 z)).cell? ⟨w.heap.size, 2, none⟩ = some (.int .i64 0) := T1.out.cell 2
      have n2 := T1.out.fro 2
      go_wp2_with fail
      have q0 : (((w9.setCell ⟨w.heap.size, 0, none⟩ (.int .i64 a)).setCell ⟨w.heap.size, 1, none⟩ (.int .i64 z)).setCell ⟨w.heap.size, 2, none⟩ (.int .i64 (1 + d))).cell? ⟨w.heap.size, 0, none⟩ = some (.int .i64 a) := T2.out.cell 0
      have q1 : (((w9.setCell ⟨w.heap.size, 0, none⟩ (.int .i64 a)).setCell ⟨w.heap.size, 1, none⟩ (.int .i64 z)).setCell ⟨w.heap.size, 2, none⟩ (.int .i64 (1 + d))).cell? ⟨w.heap.size, 1, none⟩ = some (.int .i64 z) := T2.out.cell 1
      have q2 : (((w9.setCell ⟨w.heap.size, 0, none⟩ (.int .i64 a)).setCell ⟨w.heap.size, 1, none⟩ (.int .i64 z)).setCell ⟨w.heap.size, 2, none⟩ (.int .i64 (1 + d))).cell? ⟨w.heap.size, 2, none⟩ = some (.int .i64 (1 + d)) := T2.out.cell 2
      refine bodyPost_ret (v := .agg #[.int .i64 a, .int .i64 z, .int .i64 (1 + d)]) (by simp [results, Try.results235, go_sem, q0, q1, q2]) rfl ⟨⟨a, z, (1 + d)⟩, rfl, ⟨⟨ha0, ha1⟩, ⟨by dsimp only; omega, by dsimp only; omega⟩, by dsimp only; omega, by dsimp only; omega⟩, ?_, ?_⟩
      · exact (((S9.out.set ⟨w.heap.size, 0, none⟩ (.int .i64 a) hbl).set ⟨w.heap.size, 1, none⟩ (.int .i64 z) hbl).set ⟨w.heap.size, 2, none⟩ (.int .i64 (1 + d)) hbl).more (by omega)
      · exact only_setNew (only_setNew (only_setNew O9.out ⟨w.heap.size, 0, none⟩ (.int .i64 a) (Nat.le_refl _)) ⟨w.heap.size, 1, none⟩ (.int .i64 z) (Nat.le_refl _)) ⟨w.heap.size, 2, none⟩ (.int .i64 (1 + d)) (Nat.le_refl _)
    · have hB1 : (v == 1) = false := by simp [hv1]
      have HV := hide hv0
      have HV1 := hide hv1
      clear hv0 hv1
      go_upto_region 8 with fail
      have l0 : w6.cell? ⟨w2.heap.size, 0, none⟩ = some (.int .i64 a) := Y6.out.cell 0
      have l1 : w6.cell? ⟨w2.heap.size, 1, none⟩ = some (.int .i64 c) := Y6.out.cell 1
      have l2 : w6.cell? ⟨w2.heap.size, 2, none⟩ = some (.int .i64 (1 + d)) := Y6.out.cell 2
      have T0 := hide (X6.out.set 0 (.int .i64 a))
      have T1 := hide (T0.out.set 1 (.int .i64 c))
      have T2 := hide (T1.out.set 2 (.int .i64 (1 + d)))
      have m0 : w6.cell? ⟨w.heap.size, 0, none⟩ = some (.int .i64 0) := X6.out.cell 0
      have n0 := X6.out.fro 0
      have m1 : (w6.setCell ⟨w.heap.size, 0, none⟩ (.int .i64 a)).cell? ⟨w.heap.size, 1, none⟩ = some (.int .i64 0) := T0.out.cell 1
      have n1 := T0.out.fro 1
      have m2 : ((w6.setCell ⟨w.heap.size, 0, none⟩ (.int .i64 a)).setCell ⟨w.heap.size, 1, none⟩ (.int .i64 c)).cell? ⟨w.heap.size, 2, none⟩ = some (.int .i64 0) := T1.out.cell 2
      have n2 := T1.out.fro 2
      go_wp2_with fail
      have q0 : (((w6.setCell ⟨w.heap.size, 0, none⟩ (.int .i64 a)).setCell ⟨w.heap.size, 1, none⟩ (.int .i64 c)).setCell ⟨w.heap.size, 2, none⟩ (.int .i64 (1 + d))).cell? ⟨w.heap.size, 0, none⟩ = some (.int .i64 a) := T2.out.cell 0
      have q1 : (((w6.setCell ⟨w.heap.size, 0, none⟩ (.int .i64 a)).setCell ⟨w.heap.size, 1, none⟩ (.int .i64 c)).setCell ⟨w.heap.size, 2, none⟩ (.int .i64 (1 + d))).cell? ⟨w.heap.size, 1, none⟩ = some (.int .i64 c) := T2.out.cell 1
      have q2 : (((w6.setCell ⟨w.heap.size, 0, none⟩ (.int .i64 a)).setCell ⟨w.heap.size, 1, none⟩ (.int .i64 c)).setCell ⟨w.heap.size, 2, none⟩ (.int .i64 (1 + d))).cell? ⟨w.heap.size, 2, none⟩ = some (.int .i64 (1 + d)) := T2.out.cell 2
      refine bodyPost_ret (v := .agg #[.int .i64 a, .int .i64 c, .int .i64 (1 + d)]) (by simp [results, Try.results235, go_sem, q0, q1, q2]) rfl ⟨⟨a, c, (1 + d)⟩, rfl, ⟨⟨ha0, ha1⟩, ⟨by dsimp only; omega, by dsimp only; omega⟩, by dsimp only; omega, by dsimp only; omega⟩, ?_, ?_⟩
      · exact (((S6.out.set ⟨w.heap.size, 0, none⟩ (.int .i64 a) hbl).set ⟨w.heap.size, 1, none⟩ (.int .i64 c) hbl).set ⟨w.heap.size, 2, none⟩ (.int .i64 (1 + d)) hbl).more (by omega)
      · exact only_setNew (only_setNew (only_setNew O6.out ⟨w.heap.size, 0, none⟩ (.int .i64 a) (Nat.le_refl _)) ⟨w.heap.size, 1, none⟩ (.int .i64 c) (Nat.le_refl _)) ⟨w.heap.size, 2, none⟩ (.int .i64 (1 + d)) (Nat.le_refl _)
end Go.Proofs.Ytklfjekpeoigoaa
namespace Go.Proofs.Ytklfjekpeoigoaa
open Go.RowKit

def at0 (xs : List Int) (i : Nat) : Int := (xs[i]?).getD 0
theorem at0_get {xs : List Int} {i : Nat} {z : Int} (h : xs[i]? = some z) : at0 xs i = z := by simp [at0, h]
/-- The least station from which the next carrier is looked for. -/
def firstOf (gs tk : List Int) : Nat := if 0 < tk.length ∧ at0 gs (tk.length - 1) = at0 gs tk.length then (at0 tk (tk.length - 1)).toNat else 0
def srch (gs : List Int) (cs : List TN) (nm : Nat) : Nat → List Int → List Int → Int → List Int × Int → List Int × Int
  | 0, tk, _, cost, st => if 0 ≤ st.2 ∧ st.2 ≤ cost then st else (tk, cost)
  | r + 1, tk, more, cost, st => if 0 ≤ st.2 ∧ st.2 ≤ cost then st else
    ((List.range nm).drop (firstOf gs tk)).foldl (fun st i => if at0 more i = 0 then st else srch gs cs nm r (tk ++ [(i : Int)]) (more.set i (at0 more i - 1)) (cost + costAt cs (i : Int) (at0 gs tk.length)) st) st
/-- The numbers of a search are right for its stations. -/
def OkS (nm : Nat) (gs : List Int) (cs : List TN) : Prop := nm ≤ 10 ∧ gs.length ≤ 6 ∧ (∀ z ∈ gs, 0 ≤ z ∧ z < nm) ∧ cs.length = nm ∧ ∀ e ∈ cs, e.way.length = nm ∧ ∀ z ∈ e.way, 0 ≤ z ∧ z ≤ 1000
def OkM (nm : Nat) (more : List Int) : Prop := more.length = nm ∧ ∀ z ∈ more, 0 ≤ z ∧ z ≤ 1000
theorem OkM.set {nm : Nat} {more : List Int} (h : OkM nm more) {i : Nat} {z : Int} (hz : 0 ≤ z ∧ z ≤ 1000) : OkM nm (more.set i z) := by
  refine ⟨by rw [List.length_set]; exact h.1, fun u hu => ?_⟩
  rcases List.mem_or_eq_of_mem_set hu with hu | rfl
  · exact h.2 u hu
  · exact hz
theorem cost_at {nm : Nat} {gs : List Int} {cs : List TN} (h : OkS nm gs cs) {i j : Nat} (hi : i < nm) (hj : j < nm) : ∃ e z, cs[i]? = some e ∧ e.way[j]? = some z ∧ costAt cs (i : Int) (j : Int) = z ∧ 0 ≤ z ∧ z ≤ 1000 := by
  obtain ⟨_, _, _, hl, hc⟩ := h
  have he := List.getElem?_eq_getElem (show i < cs.length by omega)
  obtain ⟨h1, h2⟩ := hc _ (List.mem_of_getElem? he)
  have hz := List.getElem?_eq_getElem (show j < cs[i].way.length by omega)
  have hb := h2 _ (List.mem_of_getElem? hz)
  refine ⟨_, _, he, hz, ?_, hb⟩
  unfold costAt
  rw [Int.toNat_natCast, Int.toNat_natCast, he]
  simp only [Option.map_some, Option.getD_some, hz]
/-- The program's search in memory. -/
structure SrI (w0 : World) (gp gm gf cm cf : Nat) (Ac Ag : Option Addr) (cc cg : Nat) (cs : List TN) (gs : List Int) (w : World) (more F best : List Int) (vb : Value) (least : Int) : Prop where
  box : BoxN w gp #[.slice Ac cs.length cc, .slice Ag gs.length cg, .slice (some ⟨gm, 0, none⟩) more.length cm, .slice (some ⟨gf, 0, none⟩) F.length cf, vb, .int .i64 least] 146
  rm : w.ownsRow w0.heap.size 2 1 (.slice (some ⟨gm, 0, none⟩) more.length cm) more.length (more.map (Value.int .i64))
  rf : w.ownsRow w0.heap.size 2 1 (.slice (some ⟨gf, 0, none⟩) F.length cf) F.length (F.map (Value.int .i64))
  rb : w.ownsRow w0.heap.size 2 1 vb best.length (best.map (Value.int .i64))
  rg : w.ownsRow w0.heap.size 2 1 (.slice Ag gs.length cg) gs.length (gs.map (Value.int .i64))
  hc : RN 0 w0 w0.heap.size Ac cs
  bel : Below w0.heap.size w0 w
  np : w0.heap.size ≤ gp ∧ gp ≠ gm ∧ gp ≠ gf ∧ gm ≠ gf
  nb : vb.ownBlock ≠ some gp ∧ vb.ownBlock ≠ some gm ∧ vb.ownBlock ≠ some gf
  ng : (Value.slice Ag gs.length cg).ownBlock ≠ some gp ∧ (Value.slice Ag gs.length cg).ownBlock ≠ some gm ∧ (Value.slice Ag gs.length cg).ownBlock ≠ some gf
section
variable {w0 : World} {gp gm gf cm cf : Nat} {Ac Ag : Option Addr} {cc cg : Nat} {cs : List TN} {gs : List Int} {w w' : World} {more F best : List Int} {vb : Value} {least : Int}
theorem SrI.below (h : SrI w0 gp gm gf cm cf Ac Ag cc cg cs gs w more F best vb least) (k : Below w.heap.size w w') : SrI w0 gp gm gf cm cf Ac Ag cc cg cs gs w' more F best vb least :=
  ⟨h.box.below k h.box.lt, own_below h.rm k (Nat.le_refl _), own_below h.rf k (Nat.le_refl _), own_below h.rb k (Nat.le_refl _), own_below h.rg k (Nat.le_refl _), h.hc, h.bel.trans (k.mono h.bel.size), h.np, h.nb, h.ng⟩
theorem ne_blk {v : Value} {g : Nat} (h : v.ownBlock ≠ some g) : v.ownBlock = none ∨ v.ownBlock ≠ some g := .inr h
theorem SrI.setm (h : SrI w0 gp gm gf cm cf Ac Ag cc cg cs gs w more F best vb least) (j : Nat) (z : Int) : SrI w0 gp gm gf cm cf Ac Ag cc cg cs gs (w.setCell ⟨gm, j, none⟩ (.int .i64 z)) (more.set j z) F best vb least := by
  have hg := grown_setCell w ⟨gm, j, none⟩ (.int .i64 z)
  have hlm := (h.rm.lt gm rfl).1
  refine ⟨by rw [List.length_set]; exact h.box.other (fun e => h.np.2.1 e.symm) j _, ?_, h.rf.kept hg (.inr (fun e => h.np.2.2.2 (Option.some.inj e).symm)), h.rb.kept hg (.inr h.nb.2.1), h.rg.kept hg (.inr h.ng.2.1), h.hc, h.bel.setCell hlm _, h.np, h.nb, h.ng⟩
  have h1 := (h.rm.stored j (.int .i64 z)).1
  rw [← List.map_set] at h1
  rw [List.length_set]; exact h1
theorem SrI.setf (h : SrI w0 gp gm gf cm cf Ac Ag cc cg cs gs w more F best vb least) (j : Nat) (z : Int) : SrI w0 gp gm gf cm cf Ac Ag cc cg cs gs (w.setCell ⟨gf, j, none⟩ (.int .i64 z)) more (F.set j z) best vb least := by
  have hg := grown_setCell w ⟨gf, j, none⟩ (.int .i64 z)
  have hlf := (h.rf.lt gf rfl).1
  refine ⟨by rw [List.length_set]; exact h.box.other (fun e => h.np.2.2.1 e.symm) j _, h.rm.kept hg (.inr (fun e => h.np.2.2.2 (Option.some.inj e))), ?_, h.rb.kept hg (.inr h.nb.2.2), h.rg.kept hg (.inr h.ng.2.2), h.hc, h.bel.setCell hlf _, h.np, h.nb, h.ng⟩
  have h1 := (h.rf.stored j (.int .i64 z)).1
  rw [← List.map_set] at h1
  rw [List.length_set]; exact h1
theorem SrI.found (h : SrI w0 gp gm gf cm cf Ac Ag cc cg cs gs w more F best vb least) {v2 : Value} {b2 : List Int} {l2 : Int} (hr : w.ownsRow w0.heap.size 2 1 v2 b2.length (b2.map (Value.int .i64))) (hn : v2.ownBlock ≠ some gp ∧ v2.ownBlock ≠ some gm ∧ v2.ownBlock ≠ some gf) :
    SrI w0 gp gm gf cm cf Ac Ag cc cg cs gs ((w.setCell ⟨gp, 4, none⟩ v2).setCell ⟨gp, 5, none⟩ (.int .i64 l2)) more F b2 v2 l2 := by
  have hg4 := grown_setCell w ⟨gp, 4, none⟩ v2
  have hg5 := grown_setCell (w.setCell ⟨gp, 4, none⟩ v2) ⟨gp, 5, none⟩ (.int .i64 l2)
  have hx := (h.box.set 4 v2).set 5 (.int .i64 l2)
  have hm : (some gm : Option Nat) ≠ some gp := fun e => h.np.2.1 (Option.some.inj e).symm
  have hf : (some gf : Option Nat) ≠ some gp := fun e => h.np.2.2.1 (Option.some.inj e).symm
  exact ⟨hx, (h.rm.kept hg4 (.inr hm)).kept hg5 (.inr hm), (h.rf.kept hg4 (.inr hf)).kept hg5 (.inr hf), (hr.kept hg4 (.inr hn.1)).kept hg5 (.inr hn.1), (h.rg.kept hg4 (.inr h.ng.1)).kept hg5 (.inr h.ng.1), h.hc, (h.bel.setCell h.np.1 _).setCell h.np.1 _, h.np, hn, h.ng⟩
end
end Go.Proofs.Ytklfjekpeoigoaa
