/-
  Drawing numbers from bytes: what the source keeps, and the bounds of what it gives.
-/
import Derived.Test.YtofjnmeblmbnmaaNestL
import Derived.Test.YtofjnmeblmbnmaaOpenB
import Derived.Laws.BitsLemmas
namespace Go.Proofs.Ytofjnmeblmbnmaa
open Go.RowKit

/-- The source lies in block b: its code, where it stands (at most N), and its seed. -/
def SrcAt (b : Nat) (bs : List Int) (N : Int) (W : World) : Prop :=
  ∃ A c at_ sd, BoxN W b #[.slice A bs.length c, .int .i64 at_, .int .u64 sd] 60 ∧ (0 ≤ at_ ∧ at_ ≤ N) ∧ RdB W b A bs
/-- What all draws take for granted. -/
def BsOk (bs : List Int) : Prop := bs.length ≤ 4096 ∧ ∀ z ∈ bs, 0 ≤ z ∧ z ≤ 255
theorem SrcAt.below {b : Nat} {bs : List Int} {N : Int} {W W' : World} {B : Nat} (h : SrcAt b bs N W) (k : Below B W W') (hb : b < B) : SrcAt b bs N W' := by
  obtain ⟨A, c, at_, sd, X, h1, h2⟩ := h
  exact ⟨A, c, at_, sd, X.below k hb, h1, h2.below (k.mono (by omega))⟩
theorem SrcAt.lt {b : Nat} {bs : List Int} {N : Int} {W : World} (h : SrcAt b bs N W) : b < W.heap.size := by
  obtain ⟨A, c, at_, sd, X, _⟩ := h
  exact X.lt
theorem SrcAt.more {b : Nat} {bs : List Int} {N N' : Int} {W : World} (h : SrcAt b bs N W) (hN : N ≤ N') : SrcAt b bs N' W := by
  obtain ⟨A, c, at_, sd, X, h1, h2⟩ := h
  exact ⟨A, c, at_, sd, X, ⟨h1.1, by omega⟩, h2⟩
theorem only_setC {lo hi : Nat} (w : World) (a : Addr) (v : Value) (h : lo ≤ a.block ∧ a.block < hi) : Only lo hi w (w.setCell a v) :=
  ⟨rfl, rfl, rfl, by simp [World.setCell], fun k _ ho => Below.heap_setCell _ _ _ _ (by omega)⟩
theorem u64_range (n : Int) : 0 ≤ IntKind.u64.wrap n ∧ IntKind.u64.wrap n < 18446744073709551616 := by
  simp [IntKind.wrap, IntKind.bits, IntKind.signed]; omega
theorem u64_self (n : Int) (h0 : 0 ≤ n) (h1 : n < 2 ^ 64) : IntKind.u64.wrap n = n := by
  simp [IntKind.wrap, IntKind.bits, IntKind.signed]; omega
theorem next_val (s : Int) (h0 : 0 ≤ s) (h1 : s < 18446744073709551616) : 0 ≤ wrap64 (bits BinOp.and IntKind.u64 (s / 1099511627776) 255) ∧ wrap64 (bits BinOp.and IntKind.u64 (s / 1099511627776) 255) ≤ 255 := by
  have hm := bits_mask .u64 64 (by decide) u64_self 8 (by decide) (s / 1099511627776) (by omega) (by omega)
  have e : (2 : Int) ^ 8 - 1 = 255 := by decide
  rw [e] at hm
  rw [hm]
  unfold wrap64
  omega
set_option maxRecDepth 100000 in
set_option maxHeartbeats 4000000 in
theorem l00From_any (bs : List Int) (A : Option Addr) (c : Nat) (w : World) (hl : bs.length ≤ 4096) (h1 : RdB w w.heap.size A bs) :
    Calls Try.prog 23 #[.slice A bs.length c] w fun e w' => e = .returned (.pointer (some ⟨w.heap.size, 0, none⟩)) ∧ SrcAt w.heap.size bs 0 w' ∧ w'.heap.size = w.heap.size + 1 ∧ Below w.heap.size w w' := by
  have hb : Below w.heap.size w (w.alloc (.cells #[.slice A bs.length c, .int .i64 0, .int .u64 0] 60)) := (by repeat (first | exact Below.refl _ _ | assumption | (refine Below.alloc ?_ (by simp <;> omega) _) | refine Below.drew ?_ | refine bdn ?_ _))
  have hr := h1.below hb
  have X := BoxN.new w #[.slice A bs.length c, .int .i64 0, .int .u64 0] 60
  clear h1
  go_enter Try.func23, Try.ntmps23
  go_wp2_with fail
  go_ret
  exact ⟨rfl, ⟨A, c, 0, 0, X, ⟨by omega, by omega⟩, hr⟩, by simp, hb⟩
set_option maxRecDepth 100000 in
set_option maxHeartbeats 4000000 in
theorem next_any (b : Nat) (bs : List Int) (N : Int) (w : World) (hbs : BsOk bs) (hN : N ≤ 1099511627776) (h : SrcAt b bs N w) :
    Calls Try.prog 45 #[.pointer (some ⟨b, 0, none⟩)] w fun e w' => ∃ z, e = .returned (.int .i64 z) ∧ (0 ≤ z ∧ z ≤ 255) ∧ SrcAt b bs (N + 1) w' ∧ Only b (b + 1) w w' := by
  obtain ⟨A, c, at_, sd, X, ⟨h0, h1⟩, hr⟩ := h
  obtain ⟨n, rfl⟩ := Int.eq_ofNat_of_zero_le h0
  obtain ⟨hl, hb⟩ := hbs
  have hN2 := hN
  have k0 : w.cell? ⟨b, 0, none⟩ = some (.slice A bs.length c) := X.cell 0
  have k1 : w.cell? ⟨b, 1, none⟩ = some (.int .i64 n) := X.cell 1
  have X0 := hide X
  have HR := hide hr
  have HBD := hide hb
  clear X hr hb
  by_cases hlt : n < bs.length
  · obtain ⟨b1, o1, z, rfl, hb1, hz, hcz⟩ := HR.out.at_ hlt
    obtain ⟨hz0, hz1⟩ := HBD.out z (List.mem_of_getElem? hz)
    have hnl : (n : Int) < bs.length := by omega
    have hB1 : decide ((n : Int) < bs.length) = true := decide_eq_true hnl
    clear hz
    go_enter Try.func45, Try.ntmps45
    go_wp2_with fail
    go_quiet (fail)
    have X1 : Hid (BoxN (w.drewN nq) b #[.slice (some ⟨b1, o1, none⟩) bs.length c, .int .i64 n, .int .u64 sd] 60) := X0.out
    have hcz1 : (w.drewN nq).cell? ⟨b1, o1 + n, none⟩ = some (.int .u8 z) := hcz
    have k01 : (w.drewN nq).cell? ⟨b, 0, none⟩ = some (.slice (some ⟨b1, o1, none⟩) bs.length c) := k0
    have k11 : (w.drewN nq).cell? ⟨b, 1, none⟩ = some (.int .i64 n) := k1
    have o1' : Only b (b + 1) w (w.drewN nq) := only_of_below (bdn (Below.refl _ _) nq)
    clear k0 k1 hcz
    generalize w.drewN nq = wq at *
    go_wp2_with fail
    go_quiet (fail)
    have X2 : Hid (BoxN (wq.drewN nq) b #[.slice (some ⟨b1, o1, none⟩) bs.length c, .int .i64 n, .int .u64 sd] 60) := X1.out
    have o2' : Only b (b + 1) w (wq.drewN nq) := only_trans o1' (only_of_below (bdn (Below.refl _ _) nq))
    clear k01 k11 hcz1
    generalize wq.drewN nq = wp at *
    have k12 : wp.cell? ⟨b, 1, none⟩ = some (.int .i64 n) := X2.out.cell 1
    have f12 := X2.out.fro 1
    have X3 := hide (X2.out.set 1 (.int .i64 ((n : Int) + 1)))
    have k22 : (wp.setCell ⟨b, 1, none⟩ (.int .i64 ((n : Int) + 1))).cell? ⟨b, 2, none⟩ = some (.int .u64 sd) := X3.out.cell 2
    have f22 := X3.out.fro 2
    go_wp2_with fail
    generalize hE : IntKind.u64.wrap (IntKind.u64.wrap (IntKind.u64.wrap (sd * 6364136223846793005) + z) + 1442695040888963407) = s2 at *
    clear hE k12 f12 k22 f22
    have X4 := hide (X3.out.set 2 (.int .u64 s2))
    have o4 := only_trans o2' (only_trans (only_setC wp ⟨b, 1, none⟩ (.int .i64 ((n : Int) + 1)) ⟨Nat.le_refl b, Nat.lt_succ_self b⟩) (only_setC _ ⟨b, 2, none⟩ (.int .u64 s2) ⟨Nat.le_refl b, Nat.lt_succ_self b⟩))
    generalize (wp.setCell ⟨b, 1, none⟩ (.int .i64 ((n : Int) + 1))).setCell ⟨b, 2, none⟩ (.int .u64 s2) = w4 at *
    have k0 : w4.cell? ⟨b, 0, none⟩ = some (.slice (some ⟨b1, o1, none⟩) bs.length c) := X4.out.cell 0
    have k1 : w4.cell? ⟨b, 1, none⟩ = some (.int .i64 ((n : Int) + 1)) := X4.out.cell 1
    have hB2 : decide ((n : Int) + 1 ≤ bs.length) = true := decide_eq_true (by omega)
    go_quiet (fail)
    go_wp2_with fail
    go_ret
    exact ⟨z, rfl, ⟨hz0, hz1⟩, ⟨_, c, (n : Int) + 1, s2, X4.out, ⟨by omega, by omega⟩, HR.out.below ((o4.below (B := b) (Nat.le_refl _) (Nat.le_of_lt X0.out.lt)).trans (bdn (Below.refl _ _) nq))⟩, only_trans o4 (only_of_below (bdn (Below.refl _ _) nq))⟩
  · have hnl : (bs.length : Int) ≤ n := by omega
    have hB1 : decide ((n : Int) < bs.length) = false := decide_eq_false (by omega)
    go_enter Try.func45, Try.ntmps45
    go_wp2_with fail
    go_quiet (fail)
    have X2 : Hid (BoxN (w.drewN nq) b #[.slice A bs.length c, .int .i64 n, .int .u64 sd] 60) := X0.out
    have o2' : Only b (b + 1) w (w.drewN nq) := only_of_below (bdn (Below.refl _ _) nq)
    clear k0 k1
    generalize w.drewN nq = wp at *
    have k12 : wp.cell? ⟨b, 1, none⟩ = some (.int .i64 n) := X2.out.cell 1
    have f12 := X2.out.fro 1
    have X3 := hide (X2.out.set 1 (.int .i64 ((n : Int) + 1)))
    have k22 : (wp.setCell ⟨b, 1, none⟩ (.int .i64 ((n : Int) + 1))).cell? ⟨b, 2, none⟩ = some (.int .u64 sd) := X3.out.cell 2
    have f22 := X3.out.fro 2
    go_wp2_with fail
    generalize hE : IntKind.u64.wrap (IntKind.u64.wrap (IntKind.u64.wrap (sd * 6364136223846793005)) + 1442695040888963407) = s2 at *
    have HS2 := hide (hE ▸ u64_range (IntKind.u64.wrap (IntKind.u64.wrap (sd * 6364136223846793005)) + 1442695040888963407) : 0 ≤ s2 ∧ s2 < 18446744073709551616)
    clear hE k12 f12 k22 f22
    have X4 := hide (X3.out.set 2 (.int .u64 s2))
    have o4 := only_trans o2' (only_trans (only_setC wp ⟨b, 1, none⟩ (.int .i64 ((n : Int) + 1)) ⟨Nat.le_refl b, Nat.lt_succ_self b⟩) (only_setC _ ⟨b, 2, none⟩ (.int .u64 s2) ⟨Nat.le_refl b, Nat.lt_succ_self b⟩))
    generalize (wp.setCell ⟨b, 1, none⟩ (.int .i64 ((n : Int) + 1))).setCell ⟨b, 2, none⟩ (.int .u64 s2) = w4 at *
    have k0 : w4.cell? ⟨b, 0, none⟩ = some (.slice A bs.length c) := X4.out.cell 0
    have k1 : w4.cell? ⟨b, 1, none⟩ = some (.int .i64 ((n : Int) + 1)) := X4.out.cell 1
    have k2 : w4.cell? ⟨b, 2, none⟩ = some (.int .u64 s2) := X4.out.cell 2
    have hB2 : decide ((n : Int) + 1 ≤ bs.length) = false := decide_eq_false (by omega)
    go_quiet (fail)
    go_wp2_with fail
    have hv := next_val s2 HS2.out.1 HS2.out.2
    go_ret
    exact ⟨_, rfl, hv, ⟨_, c, (n : Int) + 1, s2, X4.out, ⟨by omega, by omega⟩, HR.out.below ((o4.below (B := b) (Nat.le_refl _) (Nat.le_of_lt X0.out.lt)).trans (bdn (Below.refl _ _) nq))⟩, only_trans o4 (only_of_below (bdn (Below.refl _ _) nq))⟩
end Go.Proofs.Ytofjnmeblmbnmaa
