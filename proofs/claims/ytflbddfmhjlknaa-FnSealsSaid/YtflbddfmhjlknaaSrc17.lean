/-
  Drawn arguments of SendCarriers.
-/
import Derived.Test.YtflbddfmhjlknaaSrc16
namespace Go.Proofs.Ytflbddfmhjlknaa
open Go.RowKit
set_option maxRecDepth 100000 in
set_option maxHeartbeats 4000000 in
theorem drawSend_any (bs : List Int) (A : Option Addr) (c : Nat) (w : World) (hbs : BsOk bs) (h1 : RdB w w.heap.size A bs) :
    Calls Try.prog 20 #[.slice A bs.length c] w fun e w' => ∃ (A' : Option Addr) (c' : Nat) (l : List Int) (m : T3), e = .returned (.tuple #[.slice A' l.length c', .agg #[.int .i64 m.a, .int .i64 m.b, .int .i64 m.c]]) ∧ O_Int64S w' w.heap.size w'.heap.size (.slice A' l.length c') l ∧ ((1 ≤ l.length ∧ l.length ≤ 11) ∧ ∀ z ∈ l, -9223372036854775808 ≤ z ∧ z ≤ 9223372036854775807) ∧ MvOk l.length m ∧ Below w.heap.size w w' := by
  have hbA : Below w.heap.size w (w.alloc (.cells #[.int .i64 0, .int .i64 0, .int .i64 0] 34)) := (Below.refl _ _).alloc (Nat.le_refl _) _
  have X0 := hide (BoxN.new w #[.int .i64 0, .int .i64 0, .int .i64 0] 34)
  have z0 : w.heap.size < (w.alloc (.cells #[.int .i64 0, .int .i64 0, .int .i64 0] 34)).heap.size := by simp
  have HF := hide (l00From_any bs A c _ hbs.1 ((h1.below hbA).more (Nat.le_of_lt z0)))
  have HBA := hide hbA
  clear h1 hbA
  go_enter Try.func20, Try.ntmps20
  go_upto_region 1 with fail
  generalize w.alloc (.cells #[.int .i64 0, .int .i64 0, .int .i64 0] 34) = W0 at *
  have HD := hide fun W (hW : SrcAt W0.heap.size bs 0 W) => draw07_any W0.heap.size bs 0 W hbs (by omega) hW
  have HM := hide fun n W (hn : 1 ≤ n) (hn2 : n ≤ 1000) (hW : SrcAt W0.heap.size bs (0 + 20) W) => drawMove_any W0.heap.size bs (0 + 20) n W hbs (by omega) hn hn2 hW
  go_upto_region 3 with (first | (go_at_call 77; (with_reducible refine (HF.out).mono ?_); rintro e w1 ⟨rfl, hs1, hz1, hb1⟩; have HS := hide hs1; have hz1a := Nat.le_of_eq hz1.symm; have X1 := hide (X0.out.only (lo := W0.heap.size) (hi := W0.heap.size) (only_of_below hb1) (.inl (by omega))); have HB1 := hide (HBA.out.trans (hb1.mono (Nat.le_of_lt z0))); clear hs1 hz1 hb1) | (go_at_call 84; (with_reducible refine (HD.out _ HS.out).mono ?_); rintro e w2 ⟨A2, c2, l, rfl, hown, hl, hs2, ho2⟩))
  have HS2 := hide hs2
  have HL := hide hl
  have hl1 := hl.1.1
  have hl11 := hl.1.2
  have hzz := ho2.size
  have HW2 := hide hown
  have X2 := hide (X1.out.only ho2 (.inl z0))
  have HB2 := hide (HB1.out.trans (ho2.below (B := w.heap.size) (Nat.le_of_lt z0) (Nat.le_trans (Nat.le_of_lt (Nat.lt_of_lt_of_le z0 (Nat.le_of_succ_le hz1a))) (Nat.le_refl _))))
  have hw1 : w.heap.size < w1.heap.size := by omega
  have HC := hide (HM.out (l.length : Int) _ (by omega) (by omega) HS2.out)
  clear hs2 hl hown ho2 HD HM HF HS X0 X1 HB1 HBA
  go_upto_if 99 with (go_at_call 85; (with_reducible refine (HC.out).mono ?_); rintro e w3 ⟨m, rfl, hm, hs3, ho3⟩; have X3 := hide (X2.out.only ho3 (.inl z0)); have m0 : w3.cell? ⟨w.heap.size, 0, none⟩ = some (.int .i64 0) := X3.out.cell 0; have n0 := X3.out.fro 0; have T0 := hide (X3.out.set 0 (.int .i64 m.a)); have T1 := hide (T0.out.set 1 (.int .i64 m.b)); have T2 := hide (T1.out.set 2 (.int .i64 m.c)); have m1 : (w3.setCell ⟨w.heap.size, 0, none⟩ (.int .i64 m.a)).cell? ⟨w.heap.size, 1, none⟩ = some (.int .i64 0) := T0.out.cell 1; have n1 := T0.out.fro 1; have m2 : ((w3.setCell ⟨w.heap.size, 0, none⟩ (.int .i64 m.a)).setCell ⟨w.heap.size, 1, none⟩ (.int .i64 m.b)).cell? ⟨w.heap.size, 2, none⟩ = some (.int .i64 0) := T1.out.cell 2; have n2 := T1.out.fro 2)
  have q0 : (((w3.setCell ⟨w.heap.size, 0, none⟩ (.int .i64 m.a)).setCell ⟨w.heap.size, 1, none⟩ (.int .i64 m.b)).setCell ⟨w.heap.size, 2, none⟩ (.int .i64 m.c)).cell? ⟨w.heap.size, 0, none⟩ = some (.int .i64 m.a) := T2.out.cell 0
  have q1 : (((w3.setCell ⟨w.heap.size, 0, none⟩ (.int .i64 m.a)).setCell ⟨w.heap.size, 1, none⟩ (.int .i64 m.b)).setCell ⟨w.heap.size, 2, none⟩ (.int .i64 m.c)).cell? ⟨w.heap.size, 1, none⟩ = some (.int .i64 m.b) := T2.out.cell 1
  have q2 : (((w3.setCell ⟨w.heap.size, 0, none⟩ (.int .i64 m.a)).setCell ⟨w.heap.size, 1, none⟩ (.int .i64 m.b)).setCell ⟨w.heap.size, 2, none⟩ (.int .i64 m.c)).cell? ⟨w.heap.size, 2, none⟩ = some (.int .i64 m.c) := T2.out.cell 2
  have hne : (Value.slice A2 l.length c2).ownBlock = none ∨ (Value.slice A2 l.length c2).ownBlock ≠ some w.heap.size := .inr (fun e => by have := (HW2.out.lt _ e).1; omega)
  have hrow := ((((row_only HW2.out ho3 (by omega)).kept (grown_setC w3 w.heap.size 0 (.int .i64 m.a)) hne).kept (grown_setC _ w.heap.size 1 (.int .i64 m.b)) hne).kept (grown_setC _ w.heap.size 2 (.int .i64 m.c)) hne)
  have hB3 := HB2.out.trans (ho3.below (B := w.heap.size) (Nat.le_of_lt z0) HB2.out.size)
  refine bodyPost_ret (v := .tuple #[.slice A2 l.length c2, .agg #[.int .i64 m.a, .int .i64 m.b, .int .i64 m.c]]) (by simp [results, Try.results20, go_sem, q0, q1, q2]) rfl ⟨A2, c2, l, m, rfl, OwnV.of_row (own_base hrow (Nat.le_of_lt hw1)) (by omega), HL.out, hm, ?_⟩
  exact ((hB3.setCell (Nat.le_refl _) _).setCell (Nat.le_refl _) _).setCell (Nat.le_refl _) _
end Go.Proofs.Ytflbddfmhjlknaa
