/-
  Drawing numbers from bytes: what the source keeps, and the bounds of what it gives.
  Drawing a number below another one, and one of some numbers.
  Runs and their spans: the plain law of the earliest start.
  Times, ways, runs and wishes: which are valid; in the program and in the reference.
  The laws' helpers mark and held for lists whose elements hold a list of numbers, by contract.
  Runs: copies of their own, and a run delayed; in the program and in the reference.
  Drawn times and ways.
  Drawing: one of some numbers, and yes once in so many times.
-/
import Derived.Test.YtaajkmjilcamgaaGreatDoorQWays3
import Derived.Laws.BitsLemmas
import Derived.Test.YtaajkmjilcamgaaGreatDoorQWays1
import Derived.Deep.RegionHeld3
namespace Go.Proofs.YtaajkmjilcamgaaGreatDoor
open Go.RowKit

/-- The source lies in block b: its code, where it stands (at most N), and its seed. -/
def SrcAt (b : Nat) (bs : List Int) (N : Int) (W : World) : Prop :=
  ∃ A c at_ sd, BoxN W b #[.slice A bs.length c, .int .i64 at_, .int .u64 sd] 98 ∧ (0 ≤ at_ ∧ at_ ≤ N) ∧ RdB W b A bs
/-- What all draws take for granted. -/
def BsOk (bs : List Int) : Prop := bs.length ≤ 4096 ∧ ∀ z ∈ bs, 0 ≤ z ∧ z ≤ 255
theorem SrcAt.below {b : Nat} {bs : List Int} {N : Int} {W W' : World} {B : Nat} (h : SrcAt b bs N W) (k : Below B W W') (hb : b < B) : SrcAt b bs N W' := by
  obtain ⟨A, c, at_, sd, X, h1, h2⟩ := h
  exact ⟨A, c, at_, sd, X.below k hb, h1, h2.below (k.mono (by omega))⟩
theorem SrcAt.lt {b : Nat} {bs : List Int} {N : Int} {W : World} (h : SrcAt b bs N W) : b < W.heap.size := by
  obtain ⟨A, c, at_, sd, X, _⟩ := h
  exact X.lt
theorem SrcAt.more {b : Nat} {bs : List Int} {N N' : Int} {W : World} (h : SrcAt b bs N W) (hN : N ≤ N') : SrcAt b bs N' W := by
  obtain ⟨A, c, at_, sd, X, h1, h2⟩ := h
  exact ⟨A, c, at_, sd, X, ⟨h1.1, by omega⟩, h2⟩
theorem only_setC {lo hi : Nat} (w : World) (a : Addr) (v : Value) (h : lo ≤ a.block ∧ a.block < hi) : Only lo hi w (w.setCell a v) :=
  ⟨rfl, rfl, rfl, by simp [World.setCell], fun k _ ho => Below.heap_setCell _ _ _ _ (by omega)⟩
theorem u64_range (n : Int) : 0 ≤ IntKind.u64.wrap n ∧ IntKind.u64.wrap n < 18446744073709551616 := by
  simp [IntKind.wrap, IntKind.bits, IntKind.signed]; omega
theorem u64_self (n : Int) (h0 : 0 ≤ n) (h1 : n < 2 ^ 64) : IntKind.u64.wrap n = n := by
  simp [IntKind.wrap, IntKind.bits, IntKind.signed]; omega
theorem next_val (s : Int) (h0 : 0 ≤ s) (h1 : s < 18446744073709551616) : 0 ≤ wrap64 (bits BinOp.and IntKind.u64 (s / 1099511627776) 255) ∧ wrap64 (bits BinOp.and IntKind.u64 (s / 1099511627776) 255) ≤ 255 := by
  have hm := bits_mask .u64 64 (by decide) u64_self 8 (by decide) (s / 1099511627776) (by omega) (by omega)
  have e : (2 : Int) ^ 8 - 1 = 255 := by decide
  rw [e] at hm
  rw [hm]
  unfold wrap64
  omega
set_option maxRecDepth 100000 in
set_option maxHeartbeats 4000000 in
theorem l00From_any (bs : List Int) (A : Option Addr) (c : Nat) (w : World) (hl : bs.length ≤ 4096) (h1 : RdB w w.heap.size A bs) :
    Calls Tryz.prog 35 #[.slice A bs.length c] w fun e w' => e = .returned (.pointer (some ⟨w.heap.size, 0, none⟩)) ∧ SrcAt w.heap.size bs 0 w' ∧ w'.heap.size = w.heap.size + 1 ∧ Below w.heap.size w w' := by
  have hb : Below w.heap.size w (w.alloc (.cells #[.slice A bs.length c, .int .i64 0, .int .u64 0] 98)) := (by repeat (first | exact Below.refl _ _ | assumption | (refine Below.alloc ?_ (by simp <;> omega) _) | refine Below.drew ?_ | refine bdn ?_ _))
  have hr := h1.below hb
  have X := BoxN.new w #[.slice A bs.length c, .int .i64 0, .int .u64 0] 98
  clear h1
  go_enter Tryz.func35, Tryz.ntmps35
  go_wp2_with fail
  go_ret
  exact ⟨rfl, ⟨A, c, 0, 0, X, ⟨by omega, by omega⟩, hr⟩, by simp, hb⟩
set_option maxRecDepth 100000 in
set_option maxHeartbeats 4000000 in
theorem next_any (b : Nat) (bs : List Int) (N : Int) (w : World) (hbs : BsOk bs) (hN : N ≤ 1099511627776) (h : SrcAt b bs N w) :
    Calls Tryz.prog 94 #[.pointer (some ⟨b, 0, none⟩)] w fun e w' => ∃ z, e = .returned (.int .i64 z) ∧ (0 ≤ z ∧ z ≤ 255) ∧ SrcAt b bs (N + 1) w' ∧ Only b (b + 1) w w' := by
  obtain ⟨A, c, at_, sd, X, ⟨h0, h1⟩, hr⟩ := h
  obtain ⟨n, rfl⟩ := Int.eq_ofNat_of_zero_le h0
  obtain ⟨hl, hb⟩ := hbs
  have hN2 := hN
  have k0 : w.cell? ⟨b, 0, none⟩ = some (.slice A bs.length c) := X.cell 0
  have k1 : w.cell? ⟨b, 1, none⟩ = some (.int .i64 n) := X.cell 1
  have X0 := hide X
  have HR := hide hr
  have HBD := hide hb
  clear X hr hb
  by_cases hlt : n < bs.length
  · obtain ⟨b1, o1, z, rfl, hb1, hz, hcz⟩ := HR.out.at_ hlt
    obtain ⟨hz0, hz1⟩ := HBD.out z (List.mem_of_getElem? hz)
    have hnl : (n : Int) < bs.length := by omega
    have hB1 : decide ((n : Int) < bs.length) = true := decide_eq_true hnl
    clear hz
    go_enter Tryz.func94, Tryz.ntmps94
    go_wp2_with fail
    go_quiet (fail)
    have X1 : Hid (BoxN (w.drewN nq) b #[.slice (some ⟨b1, o1, none⟩) bs.length c, .int .i64 n, .int .u64 sd] 98) := X0.out
    have hcz1 : (w.drewN nq).cell? ⟨b1, o1 + n, none⟩ = some (.int .u8 z) := hcz
    have k01 : (w.drewN nq).cell? ⟨b, 0, none⟩ = some (.slice (some ⟨b1, o1, none⟩) bs.length c) := k0
    have k11 : (w.drewN nq).cell? ⟨b, 1, none⟩ = some (.int .i64 n) := k1
    have o1' : Only b (b + 1) w (w.drewN nq) := only_of_below (bdn (Below.refl _ _) nq)
    clear k0 k1 hcz
    generalize w.drewN nq = wq at *
    go_wp2_with fail
    go_quiet (fail)
    have X2 : Hid (BoxN (wq.drewN nq) b #[.slice (some ⟨b1, o1, none⟩) bs.length c, .int .i64 n, .int .u64 sd] 98) := X1.out
    have o2' : Only b (b + 1) w (wq.drewN nq) := only_trans o1' (only_of_below (bdn (Below.refl _ _) nq))
    clear k01 k11 hcz1
    generalize wq.drewN nq = wp at *
    have k12 : wp.cell? ⟨b, 1, none⟩ = some (.int .i64 n) := X2.out.cell 1
    have f12 := X2.out.fro 1
    have X3 := hide (X2.out.set 1 (.int .i64 ((n : Int) + 1)))
    have k22 : (wp.setCell ⟨b, 1, none⟩ (.int .i64 ((n : Int) + 1))).cell? ⟨b, 2, none⟩ = some (.int .u64 sd) := X3.out.cell 2
    have f22 := X3.out.fro 2
    go_wp2_with fail
    generalize hE : IntKind.u64.wrap (IntKind.u64.wrap (IntKind.u64.wrap (sd * 6364136223846793005) + z) + 1442695040888963407) = s2 at *
    clear hE k12 f12 k22 f22
    have X4 := hide (X3.out.set 2 (.int .u64 s2))
    have o4 := only_trans o2' (only_trans (only_setC wp ⟨b, 1, none⟩ (.int .i64 ((n : Int) + 1)) ⟨Nat.le_refl b, Nat.lt_succ_self b⟩) (only_setC _ ⟨b, 2, none⟩ (.int .u64 s2) ⟨Nat.le_refl b, Nat.lt_succ_self b⟩))
    generalize (wp.setCell ⟨b, 1, none⟩ (.int .i64 ((n : Int) + 1))).setCell ⟨b, 2, none⟩ (.int .u64 s2) = w4 at *
    have k0 : w4.cell? ⟨b, 0, none⟩ = some (.slice (some ⟨b1, o1, none⟩) bs.length c) := X4.out.cell 0
    have k1 : w4.cell? ⟨b, 1, none⟩ = some (.int .i64 ((n : Int) + 1)) := X4.out.cell 1
    have hB2 : decide ((n : Int) + 1 ≤ bs.length) = true := decide_eq_true (by omega)
    go_quiet (fail)
    go_wp2_with fail
    go_ret
    exact ⟨z, rfl, ⟨hz0, hz1⟩, ⟨_, c, (n : Int) + 1, s2, X4.out, ⟨by omega, by omega⟩, HR.out.below ((o4.below (B := b) (Nat.le_refl _) (Nat.le_of_lt X0.out.lt)).trans (bdn (Below.refl _ _) nq))⟩, only_trans o4 (only_of_below (bdn (Below.refl _ _) nq))⟩
  · have hnl : (bs.length : Int) ≤ n := by omega
    have hB1 : decide ((n : Int) < bs.length) = false := decide_eq_false (by omega)
    go_enter Tryz.func94, Tryz.ntmps94
    go_wp2_with fail
    go_quiet (fail)
    have X2 : Hid (BoxN (w.drewN nq) b #[.slice A bs.length c, .int .i64 n, .int .u64 sd] 98) := X0.out
    have o2' : Only b (b + 1) w (w.drewN nq) := only_of_below (bdn (Below.refl _ _) nq)
    clear k0 k1
    generalize w.drewN nq = wp at *
    have k12 : wp.cell? ⟨b, 1, none⟩ = some (.int .i64 n) := X2.out.cell 1
    have f12 := X2.out.fro 1
    have X3 := hide (X2.out.set 1 (.int .i64 ((n : Int) + 1)))
    have k22 : (wp.setCell ⟨b, 1, none⟩ (.int .i64 ((n : Int) + 1))).cell? ⟨b, 2, none⟩ = some (.int .u64 sd) := X3.out.cell 2
    have f22 := X3.out.fro 2
    go_wp2_with fail
    generalize hE : IntKind.u64.wrap (IntKind.u64.wrap (IntKind.u64.wrap (sd * 6364136223846793005)) + 1442695040888963407) = s2 at *
    have HS2 := hide (hE ▸ u64_range (IntKind.u64.wrap (IntKind.u64.wrap (sd * 6364136223846793005)) + 1442695040888963407) : 0 ≤ s2 ∧ s2 < 18446744073709551616)
    clear hE k12 f12 k22 f22
    have X4 := hide (X3.out.set 2 (.int .u64 s2))
    have o4 := only_trans o2' (only_trans (only_setC wp ⟨b, 1, none⟩ (.int .i64 ((n : Int) + 1)) ⟨Nat.le_refl b, Nat.lt_succ_self b⟩) (only_setC _ ⟨b, 2, none⟩ (.int .u64 s2) ⟨Nat.le_refl b, Nat.lt_succ_self b⟩))
    generalize (wp.setCell ⟨b, 1, none⟩ (.int .i64 ((n : Int) + 1))).setCell ⟨b, 2, none⟩ (.int .u64 s2) = w4 at *
    have k0 : w4.cell? ⟨b, 0, none⟩ = some (.slice A bs.length c) := X4.out.cell 0
    have k1 : w4.cell? ⟨b, 1, none⟩ = some (.int .i64 ((n : Int) + 1)) := X4.out.cell 1
    have k2 : w4.cell? ⟨b, 2, none⟩ = some (.int .u64 s2) := X4.out.cell 2
    have hB2 : decide ((n : Int) + 1 ≤ bs.length) = false := decide_eq_false (by omega)
    go_quiet (fail)
    go_wp2_with fail
    have hv := next_val s2 HS2.out.1 HS2.out.2
    go_ret
    exact ⟨_, rfl, hv, ⟨_, c, (n : Int) + 1, s2, X4.out, ⟨by omega, by omega⟩, HR.out.below ((o4.below (B := b) (Nat.le_refl _) (Nat.le_of_lt X0.out.lt)).trans (bdn (Below.refl _ _) nq))⟩, only_trans o4 (only_of_below (bdn (Below.refl _ _) nq))⟩
end Go.Proofs.YtaajkmjilcamgaaGreatDoor
namespace Go.Proofs.YtaajkmjilcamgaaGreatDoor
open Go.RowKit

set_option maxRecDepth 100000 in
set_option maxHeartbeats 4000000 in
theorem pick_any (b : Nat) (bs : List Int) (N n : Int) (w : World) (hbs : BsOk bs) (hN : N ≤ 1099511000000) (h : SrcAt b bs N w) :
    Calls Tryz.prog 68 #[.pointer (some ⟨b, 0, none⟩), .int .i64 n] w fun e w' => ∃ z, e = .returned (.int .i64 z) ∧ (0 ≤ z ∧ (1 ≤ n → z < n) ∧ (n ≤ 1 → z = 0)) ∧ SrcAt b bs (N + 2) w' ∧ Only b (b + 1) w w' := by
  by_cases h1 : n ≤ 1
  · have HS := hide h
    clear h
    go_enter Tryz.func68, Tryz.ntmps68
    go_wp2_with fail
    go_ret
    exact ⟨0, rfl, ⟨by omega, by omega, fun _ => rfl⟩, HS.out.more (by omega), only_of_below (Below.refl _ _)⟩
  have HC := hide (next_any b bs N w hbs (by omega) h)
  clear h
  by_cases h2 : n ≤ 200
  · go_enter Tryz.func68, Tryz.ntmps68
    go_wp2_with (go_at_call 94; refine (HC.out).mono ?_; rintro e w1 ⟨z, rfl, ⟨hz0, hz1⟩, hs1, ho1⟩)
    have hm0 := Int.emod_nonneg z (show n ≠ 0 by omega)
    have hm1 := Int.emod_lt_of_pos z (show 0 < n by omega)
    go_ret
    exact ⟨z % n, rfl, ⟨hm0, fun _ => hm1, fun h => by omega⟩, hs1.more (by omega), ho1⟩
  · have HC2 := hide fun W (hW : SrcAt b bs (N + 1) W) => next_any b bs (N + 1) W hbs (by omega) hW
    go_enter Tryz.func68, Tryz.ntmps68
    go_wp2_with (go_at_call 94; refine (HC.out).mono ?_; rintro e w1 ⟨z, rfl, ⟨hz0, hz1⟩, hs1, ho1⟩)
    have HS1 := hide hs1
    clear hs1 HC
    go_wp2_with (go_at_call 94; refine (HC2.out _ HS1.out).mono ?_; rintro e w2 ⟨z2, rfl, ⟨hy0, hy1⟩, hs2, ho2⟩)
    have hm0 := Int.emod_nonneg (z * 256 + z2) (show n ≠ 0 by omega)
    have hm1 := Int.emod_lt_of_pos (z * 256 + z2) (show 0 < n by omega)
    go_ret
    exact ⟨(z * 256 + z2) % n, rfl, ⟨hm0, fun _ => hm1, fun h => by omega⟩, hs2.more (by omega), only_trans ho1 ho2⟩
end Go.Proofs.YtaajkmjilcamgaaGreatDoor
namespace Go.Proofs.YtaajkmjilcamgaaGreatDoor
open Go.RowKit

def tmOf (ts : List Int) (t : Int) : Int := (ts[t.toNat]?).getD 0
/-- The spans of a run: tube, begin, end. -/
def spGo (ts : List Int) : Int → List Int → List T3
  | _, [] => []
  | f, t :: r => ⟨t, f, f + tmOf ts t⟩ :: spGo ts (f + tmOf ts t) r
def meet (s o : T3) : Bool := decide (s.a = o.a ∧ s.b < o.c ∧ o.b < s.c)
theorem meet_iff {s o : T3} : meet s o = true ↔ s.a = o.a ∧ s.b < o.c ∧ o.b < s.c := by simp [meet]
def fits (ts : List Int) (tk : List T3) (way : List Int) (f : Int) : Bool := (spGo ts f way).all fun s => tk.all fun o => !meet s o
def OkTimes (ts : List Int) : Prop := (1 ≤ ts.length ∧ ts.length ≤ 24) ∧ ∀ z ∈ ts, 1 ≤ z ∧ z ≤ 1000
def OkWay (ts way : List Int) : Prop := (1 ≤ way.length ∧ way.length ≤ 12) ∧ ∀ t ∈ way, 0 ≤ t ∧ t ≤ (ts.length : Int) - 1
theorem tmOf_bd {ts : List Int} (h : OkTimes ts) {t : Int} (ht : 0 ≤ t ∧ t ≤ (ts.length : Int) - 1) : 1 ≤ tmOf ts t ∧ tmOf ts t ≤ 1000 := by
  unfold tmOf
  rw [List.getElem?_eq_getElem (show t.toNat < ts.length by omega)]
  exact h.2 _ (List.getElem_mem _)
theorem spGo_shift (ts : List Int) (d : Int) : ∀ (way : List Int) (f : Int), spGo ts (f + d) way = (spGo ts f way).map fun s => ⟨s.a, s.b + d, s.c + d⟩ := by
  intro way
  induction way with
  | nil => intro f; rfl
  | cons t r ih =>
    intro f
    rw [spGo, spGo, List.map_cons, ← ih, show f + d + tmOf ts t = f + tmOf ts t + d by omega]
theorem spGo_ge {ts : List Int} (hts : OkTimes ts) : ∀ {way : List Int} {f : Int}, (∀ t ∈ way, 0 ≤ t ∧ t ≤ (ts.length : Int) - 1) → ∀ s ∈ spGo ts f way, f ≤ s.b ∧ s.b < s.c ∧ s.c ≤ f + 1000 * way.length := by
  intro way
  induction way with
  | nil => intro f _ s hs; cases hs
  | cons t r ih =>
    intro f h s hs
    have ht := tmOf_bd hts (h t (List.mem_cons_self ..))
    rw [spGo] at hs
    rw [List.length_cons]
    rcases List.mem_cons.1 hs with rfl | hs
    · dsimp only; omega
    · have := ih (fun t ht => h t (List.mem_cons_of_mem _ ht)) s hs
      omega
theorem spGo_len (ts : List Int) : ∀ (way : List Int) (f : Int), (spGo ts f way).length = way.length := by
  intro way
  induction way with
  | nil => intro f; rfl
  | cons t r ih => intro f; rw [spGo, List.length_cons, List.length_cons, ih]
/-- The longest wait for spans that meet. -/
def waitIn (s : T3) : List T3 → Int → Int
  | [], w => w
  | o :: os, w => waitIn s os (if meet s o then max w (o.c - s.b) else w)
def waitOf (tk : List T3) : List T3 → Int → Int
  | [], w => w
  | s :: ss, w => waitOf tk ss (waitIn s tk w)
theorem waitIn_spec (s : T3) : ∀ (os : List T3) (w : Int), w ≤ waitIn s os w ∧ (∀ o ∈ os, meet s o = true → o.c - s.b ≤ waitIn s os w) ∧ (waitIn s os w = w ∨ ∃ o ∈ os, meet s o = true ∧ waitIn s os w = o.c - s.b) := by
  intro os
  induction os with
  | nil => intro w; exact ⟨Int.le_refl _, fun o ho => (by cases ho), .inl rfl⟩
  | cons o os ih =>
    intro w
    rw [waitIn]
    obtain ⟨i1, i2, i3⟩ := ih (if meet s o then max w (o.c - s.b) else w)
    by_cases hm : meet s o = true
    · rw [if_pos hm] at *
      refine ⟨by omega, fun o' ho hm' => ?_, ?_⟩
      · rcases List.mem_cons.1 ho with rfl | ho
        · omega
        · exact i2 o' ho hm'
      · rcases i3 with h | ⟨o', ho, hm', h⟩
        · by_cases hw : o.c - s.b ≤ w
          · left; rw [h]; omega
          · right; exact ⟨o, List.mem_cons_self .., hm, by rw [h]; omega⟩
        · exact .inr ⟨o', List.mem_cons_of_mem _ ho, hm', h⟩
    · rw [if_neg hm] at *
      refine ⟨i1, fun o' ho hm' => ?_, ?_⟩
      · rcases List.mem_cons.1 ho with rfl | ho
        · exact absurd hm' hm
        · exact i2 o' ho hm'
      · rcases i3 with h | ⟨o', ho, hm', h⟩
        · exact .inl h
        · exact .inr ⟨o', List.mem_cons_of_mem _ ho, hm', h⟩
theorem waitOf_spec (tk : List T3) : ∀ (ss : List T3) (w : Int), w ≤ waitOf tk ss w ∧ (∀ s ∈ ss, ∀ o ∈ tk, meet s o = true → o.c - s.b ≤ waitOf tk ss w) ∧ (waitOf tk ss w = w ∨ ∃ s ∈ ss, ∃ o ∈ tk, meet s o = true ∧ waitOf tk ss w = o.c - s.b) := by
  intro ss
  induction ss with
  | nil => intro w; exact ⟨Int.le_refl _, fun o ho => (by cases ho), .inl rfl⟩
  | cons s ss ih =>
    intro w
    rw [waitOf]
    obtain ⟨i1, i2, i3⟩ := ih (waitIn s tk w)
    obtain ⟨k1, k2, k3⟩ := waitIn_spec s tk w
    refine ⟨by omega, fun s' hs o ho hm => ?_, ?_⟩
    · rcases List.mem_cons.1 hs with rfl | hs
      · have := k2 o ho hm; omega
      · exact i2 s' hs o ho hm
    · rcases i3 with h | ⟨s', hs, o, ho, hm, h⟩
      · rcases k3 with h' | ⟨o, ho, hm, h'⟩
        · exact .inl (h.trans h')
        · exact .inr ⟨s, List.mem_cons_self .., o, ho, hm, h.trans h'⟩
      · exact .inr ⟨s', List.mem_cons_of_mem _ hs, o, ho, hm, h⟩
theorem fits_iff {ts : List Int} {tk : List T3} {way : List Int} {f : Int} : fits ts tk way f = true ↔ ∀ s ∈ spGo ts f way, ∀ o ∈ tk, meet s o = false := by
  unfold fits
  rw [List.all_eq_true]
  constructor
  · intro h s hs o ho
    have := List.all_eq_true.1 (h s hs) o ho
    simpa using this
  · intro h s hs
    exact List.all_eq_true.2 fun o ho => by simp [h s hs o ho]
/-- No wait: it fits. A wait: it does not, nor anywhere before the wait is over. -/
theorem wait_zero {ts : List Int} {tk : List T3} {way : List Int} {f : Int} (h : waitOf tk (spGo ts f way) 0 = 0) : fits ts tk way f = true := by
  rw [fits_iff]
  intro s hs o ho
  cases hm : meet s o
  · rfl
  · have h1 := (waitOf_spec tk (spGo ts f way) 0).2.1 s hs o ho hm
    have h2 := (meet_iff.1 hm).2.1
    omega
theorem wait_pos {ts : List Int} {tk : List T3} {way : List Int} {f : Int} (h : waitOf tk (spGo ts f way) 0 ≠ 0) : 0 < waitOf tk (spGo ts f way) 0 ∧ ∀ g, f ≤ g → g < f + waitOf tk (spGo ts f way) 0 → fits ts tk way g = false := by
  obtain ⟨h1, _, h3⟩ := waitOf_spec tk (spGo ts f way) 0
  rcases h3 with h3 | ⟨s, hs, o, ho, hm, h3⟩
  · exact absurd h3 h
  · refine ⟨by omega, fun g hg1 hg2 => ?_⟩
    obtain ⟨m1, m2, m3⟩ := meet_iff.1 hm
    have hs' : (⟨s.a, s.b + (g - f), s.c + (g - f)⟩ : T3) ∈ spGo ts g way := by
      have := spGo_shift ts (g - f) way f
      rw [show f + (g - f) = g by omega] at this
      rw [this]
      exact List.mem_map.2 ⟨s, hs, rfl⟩
    cases hf : fits ts tk way g
    · rfl
    · have := fits_iff.1 hf _ hs' o ho
      have h4 : meet ⟨s.a, s.b + (g - f), s.c + (g - f)⟩ o = true := meet_iff.2 ⟨m1, by dsimp only; omega, by dsimp only; omega⟩
      rw [this] at h4; cases h4
/-- The least tick from f on at which p holds, sought so many ticks long. -/
def seek (p : Int → Bool) : Nat → Int → Int
  | 0, b => b
  | n + 1, b => if p b then b else seek p n (b + 1)
theorem seek_eq {p : Int → Bool} {r : Int} : ∀ {n : Nat} {b : Int}, b ≤ r → r ≤ b + n → p r = true → (∀ c, b ≤ c → c < r → p c = false) → seek p n b = r := by
  intro n
  induction n with
  | zero => intro b h1 h2 _ _; rw [seek]; omega
  | succ n ih =>
    intro b h1 h2 h3 h4
    rw [seek]
    by_cases hb : b = r
    · subst hb; rw [if_pos h3]
    · rw [h4 b (by omega) (by omega)]
      simp only [Bool.false_eq_true, if_false]
      exact ih (by omega) (by omega) h3 fun c hc => h4 c (by omega)
def lastC : List T3 → Int → Int
  | [], f => f
  | o :: os, f => lastC os (max f o.c)
theorem lastC_spec : ∀ (os : List T3) (f : Int), f ≤ lastC os f ∧ (∀ o ∈ os, o.c ≤ lastC os f) ∧ (lastC os f = f ∨ ∃ o ∈ os, lastC os f = o.c) := by
  intro os
  induction os with
  | nil => intro f; exact ⟨Int.le_refl _, fun o ho => (by cases ho), .inl rfl⟩
  | cons o os ih =>
    intro f
    rw [lastC]
    obtain ⟨i1, i2, i3⟩ := ih (max f o.c)
    refine ⟨by omega, fun o' ho => ?_, ?_⟩
    · rcases List.mem_cons.1 ho with rfl | ho
      · omega
      · exact i2 o' ho
    · rcases i3 with h | ⟨o', ho, h⟩
      · by_cases hf : o.c ≤ f
        · left; rw [h]; omega
        · right; exact ⟨o, List.mem_cons_self .., by rw [h]; omega⟩
      · exact .inr ⟨o', List.mem_cons_of_mem _ ho, h⟩
def estOf (ts : List Int) (tk : List T3) (way : List Int) (f : Int) : Int := seek (fits ts tk way) (lastC tk f - f).toNat f
theorem fits_last {ts : List Int} (hts : OkTimes ts) {tk : List T3} {way : List Int} (hw : ∀ t ∈ way, 0 ≤ t ∧ t ≤ (ts.length : Int) - 1) {f : Int} : fits ts tk way (lastC tk f) = true := by
  rw [fits_iff]
  intro s hs o ho
  cases hm : meet s o
  · rfl
  · have h1 := (spGo_ge hts hw s hs).1
    have h2 := (lastC_spec tk f).2.1 o ho
    have h3 := (meet_iff.1 hm).2.1
    omega
theorem est_eq {ts : List Int} {tk : List T3} {way : List Int} {f r : Int} (h1 : f ≤ r) (h2 : r ≤ lastC tk f) (h3 : fits ts tk way r = true) (h4 : ∀ c, f ≤ c → c < r → fits ts tk way c = false) : estOf ts tk way f = r :=
  seek_eq h1 (by omega) h3 h4
theorem seek_spec {p : Int → Bool} : ∀ {n : Nat} {b : Int}, p (b + n) = true → b ≤ seek p n b ∧ seek p n b ≤ b + n ∧ p (seek p n b) = true ∧ ∀ c, b ≤ c → c < seek p n b → p c = false := by
  intro n
  induction n with
  | zero => intro b h; rw [seek]; simp at h; exact ⟨by omega, by omega, h, fun c _ _ => by omega⟩
  | succ n ih =>
    intro b h
    rw [seek]
    cases hb : p b
    · simp only [Bool.false_eq_true, if_false]
      obtain ⟨i1, i2, i3, i4⟩ := ih (b := b + 1) (by rw [show b + 1 + (n : Int) = b + ((n + 1 : Nat) : Int) by omega]; exact h)
      refine ⟨by omega, by omega, i3, fun c h1 h2 => ?_⟩
      by_cases hc : c = b
      · rw [hc]; exact hb
      · exact i4 c (by omega) h2
    · simp only [if_true]
      exact ⟨by omega, by omega, hb, fun c _ _ => by omega⟩
theorem est_spec {ts : List Int} (hts : OkTimes ts) {tk : List T3} {way : List Int} (hw : ∀ t ∈ way, 0 ≤ t ∧ t ≤ (ts.length : Int) - 1) (f : Int) : f ≤ estOf ts tk way f ∧ estOf ts tk way f ≤ lastC tk f ∧ fits ts tk way (estOf ts tk way f) = true ∧ ∀ c, f ≤ c → c < estOf ts tk way f → fits ts tk way c = false := by
  have hl := (lastC_spec tk f).1
  obtain ⟨i1, i2, i3, i4⟩ := seek_spec (p := fits ts tk way) (n := (lastC tk f - f).toNat) (b := f) (by rw [show f + (((lastC tk f - f).toNat : Nat) : Int) = lastC tk f by omega]; exact fits_last hts hw)
  exact ⟨i1, by unfold estOf; omega, i3, i4⟩
/-- The ticks at which a run leaves a span's end in the same tube. -/
def candJ (ts : List Int) (o : T3) : Int → List Int → List Int
  | _, [] => []
  | bf, t :: r => if t = o.a then (o.c - bf) :: candJ ts o (bf + tmOf ts t) r else candJ ts o (bf + tmOf ts t) r
theorem cand_mem {ts : List Int} {o : T3} : ∀ {way : List Int} {g bf : Int} {s : T3}, s ∈ spGo ts (g + bf) way → s.a = o.a → s.b = o.c → g ∈ candJ ts o bf way := by
  intro way
  induction way with
  | nil => intro g bf s hs; cases hs
  | cons t r ih =>
    intro g bf s hs h1 h2
    rw [spGo] at hs
    rw [candJ]
    rcases List.mem_cons.1 hs with rfl | hs
    · dsimp only at h1 h2
      rw [if_pos h1]
      exact List.mem_cons.2 (.inl (by omega))
    · rw [show g + bf + tmOf ts t = g + (bf + tmOf ts t) by omega] at hs
      split
      · exact List.mem_cons_of_mem _ (ih hs h1 h2)
      · exact ih hs h1 h2
def stepB (p : Int → Bool) (f best c : Int) : Int := if f ≤ c ∧ (best < 0 ∨ c < best) ∧ p c = true then c else best
def foldB (p : Int → Bool) (f : Int) : List Int → Int → Int
  | [], b => b
  | c :: cs, b => foldB p f cs (stepB p f b c)
theorem foldB_append (p : Int → Bool) (f : Int) : ∀ (us vs : List Int) (b : Int), foldB p f (us ++ vs) b = foldB p f vs (foldB p f us b) := by
  intro us
  induction us with
  | nil => intro vs b; rfl
  | cons c us ih => intro vs b; rw [List.cons_append, foldB, foldB, ih]
theorem foldB_spec {p : Int → Bool} {f : Int} (hf : 0 ≤ f) : ∀ (cs : List Int) (b : Int), (b = -1 ∨ (f ≤ b ∧ p b = true)) → (foldB p f cs b = -1 ∨ (f ≤ foldB p f cs b ∧ p (foldB p f cs b) = true)) ∧ (0 ≤ b → 0 ≤ foldB p f cs b ∧ foldB p f cs b ≤ b) ∧ ∀ c ∈ cs, f ≤ c → p c = true → 0 ≤ foldB p f cs b ∧ foldB p f cs b ≤ c := by
  intro cs
  induction cs with
  | nil => intro b h; exact ⟨h, fun h => ⟨h, Int.le_refl _⟩, fun c hc => (by cases hc)⟩
  | cons c cs ih =>
    intro b h
    rw [foldB]
    have hs : stepB p f b c = -1 ∨ (f ≤ stepB p f b c ∧ p (stepB p f b c) = true) := by
      unfold stepB; split
      · rename_i hh; exact .inr ⟨hh.1, hh.2.2⟩
      · exact h
    obtain ⟨i1, i2, i3⟩ := ih _ hs
    have hle : 0 ≤ b → 0 ≤ stepB p f b c ∧ stepB p f b c ≤ b := fun hb => by
      unfold stepB; split
      · omega
      · omega
    refine ⟨i1, fun hb => ?_, fun c' hc h1 h2 => ?_⟩
    · have h1 := hle hb; have h2 := i2 h1.1; omega
    · rcases List.mem_cons.1 hc with rfl | hc
      · have h3 : 0 ≤ stepB p f b c' ∧ stepB p f b c' ≤ c' := by
          unfold stepB
          by_cases hb : b < 0 ∨ c' < b
          · rw [if_pos ⟨h1, hb, h2⟩]; omega
          · rw [if_neg fun k => hb k.2.1]; omega
        have := i2 h3.1; omega
      · exact i3 c' hc h1 h2
/-- The least of the ticks that the reference tries is the earliest start. -/
theorem best_est {ts : List Int} (hts : OkTimes ts) {tk : List T3} {way : List Int} (hw : ∀ t ∈ way, 0 ≤ t ∧ t ≤ (ts.length : Int) - 1) {f : Int} (hf : 0 ≤ f) (hn : fits ts tk way f = false) : foldB (fits ts tk way) f (tk.flatMap fun o => candJ ts o 0 way) (-1) = estOf ts tk way f := by
  obtain ⟨e1, e2, e3, e4⟩ := est_spec (tk := tk) hts hw f
  generalize hr : estOf ts tk way f = r at *
  have hfr : f < r := by
    by_cases h : r = f
    · rw [h, hn] at e3; cases e3
    · omega
  have hp := e4 (r - 1) (by omega) (by omega)
  have hmem : r ∈ tk.flatMap fun o => candJ ts o 0 way := by
    have hex : ∃ s ∈ spGo ts (r - 1) way, ∃ o ∈ tk, meet s o = true := by
      refine Classical.byContradiction fun hne => ?_
      have : fits ts tk way (r - 1) = true := fits_iff.2 fun s hs o ho => by
        cases hm : meet s o
        · rfl
        · exact absurd ⟨s, hs, o, ho, hm⟩ hne
      rw [hp] at this; cases this
    obtain ⟨s, hs, o, ho, hm⟩ := hex
    obtain ⟨m1, m2, m3⟩ := meet_iff.1 hm
    have hs' : (⟨s.a, s.b + 1, s.c + 1⟩ : T3) ∈ spGo ts r way := by
      have := spGo_shift ts 1 way (r - 1)
      rw [show r - 1 + 1 = r by omega] at this
      rw [this]
      exact List.mem_map.2 ⟨s, hs, rfl⟩
    have hnm := fits_iff.1 e3 _ hs' o ho
    have hsb : s.b + 1 = o.c := by
      refine Classical.byContradiction fun hne => ?_
      have : meet ⟨s.a, s.b + 1, s.c + 1⟩ o = true := meet_iff.2 ⟨m1, by dsimp only; omega, by dsimp only; omega⟩
      rw [hnm] at this; cases this
    exact List.mem_flatMap.2 ⟨o, ho, cand_mem (s := ⟨s.a, s.b + 1, s.c + 1⟩) (by rw [Int.add_zero]; exact hs') m1 hsb⟩
  obtain ⟨i1, _, i3⟩ := foldB_spec (p := fits ts tk way) hf (tk.flatMap fun o => candJ ts o 0 way) (-1) (.inl rfl)
  have h3 := i3 r hmem (by omega) e3
  rcases i1 with h | ⟨h1, h2⟩
  · omega
  · refine Classical.byContradiction fun hne => ?_
    have := e4 _ h1 (by omega)
    rw [this] at h2; cases h2
end Go.Proofs.YtaajkmjilcamgaaGreatDoor
namespace Go.Proofs.YtaajkmjilcamgaaGreatDoor
open Go.RowKit

def okTimes (ts : List Int) : Bool := inB 1 24 ts.length && ts.all (inB 1 1000)
def okWayB (ts way : List Int) : Bool := inB 1 12 way.length && way.all (inB 0 ((ts.length : Int) - 1))
def okWishB (ts : List Int) (e : TN) : Bool := okWayB ts e.way && (inB 0 10000 e.p && inB 0 10000 e.q)
def okRunB (ts : List Int) (e : TN) : Bool := okWayB ts e.way && inB 0 100000 e.p
def vWishes (ts : List Int) (l : List TN) : Bool := okTimes ts && (decide (l.length ≤ 6) && l.all (okWishB ts))
def vRuns (ts : List Int) (l : List TN) : Bool := okTimes ts && (decide (l.length ≤ 12) && l.all (okRunB ts))
theorem okTimes_iff {ts : List Int} : okTimes ts = true ↔ OkTimes ts := by
  unfold okTimes OkTimes
  rw [Bool.and_eq_true, inB_iff, List.all_eq_true]
  constructor
  · intro h; exact ⟨⟨by omega, by omega⟩, fun z hz => inB_iff.1 (h.2 z hz)⟩
  · intro h; exact ⟨⟨by omega, by omega⟩, fun z hz => inB_iff.2 (h.2 z hz)⟩
theorem okWay_iff {ts way : List Int} : okWayB ts way = true ↔ OkWay ts way := by
  unfold okWayB OkWay
  rw [Bool.and_eq_true, inB_iff, List.all_eq_true]
  constructor
  · intro h; exact ⟨⟨by omega, by omega⟩, fun z hz => inB_iff.1 (h.2 z hz)⟩
  · intro h; exact ⟨⟨by omega, by omega⟩, fun z hz => inB_iff.2 (h.2 z hz)⟩
def OkWish (ts : List Int) (e : TN) : Prop := OkWay ts e.way ∧ (0 ≤ e.p ∧ e.p ≤ 10000) ∧ (0 ≤ e.q ∧ e.q ≤ 10000)
def OkRun (ts : List Int) (e : TN) : Prop := OkWay ts e.way ∧ (0 ≤ e.p ∧ e.p ≤ 100000)
theorem vWishes_iff {ts : List Int} {l : List TN} : vWishes ts l = true ↔ OkTimes ts ∧ l.length ≤ 6 ∧ ∀ e ∈ l, OkWish ts e := by
  unfold vWishes OkWish okWishB
  simp only [Bool.and_eq_true, okTimes_iff, decide_eq_true_eq, List.all_eq_true, okWay_iff, inB_iff]
theorem vRuns_iff {ts : List Int} {l : List TN} : vRuns ts l = true ↔ OkTimes ts ∧ l.length ≤ 12 ∧ ∀ e ∈ l, OkRun ts e := by
  unfold vRuns OkRun okRunB
  simp only [Bool.and_eq_true, okTimes_iff, decide_eq_true_eq, List.all_eq_true, okWay_iff, inB_iff]
end Go.Proofs.YtaajkmjilcamgaaGreatDoor
namespace Go.Proofs.YtaajkmjilcamgaaGreatDoor
open Go.RowKit

theorem own_only {w w' : World} {g a b n c s : Nat} {e : TypeId} {xs : List Value} (h : w.ownsRow g e s (.slice (some ⟨g, 0, none⟩) n c) n xs) (k : Only a b w w') (hd : b ≤ g ∨ g < a) : w'.ownsRow g e s (.slice (some ⟨g, 0, none⟩) n c) n xs := by
  refine ⟨h.1, ?_⟩
  rcases h.2 with h0 | ⟨g', cap, cur, he, hb, hg, rest⟩
  · exact .inl h0
  · simp only [Value.slice.injEq, Option.some.injEq, Addr.mk.injEq, and_true, true_and] at he
    obtain ⟨rfl, rfl⟩ := he
    exact .inr ⟨g, _, cur, rfl, hb, (k.2.2.2.2 g (lt_of_block hg) (by omega)).trans hg, rest⟩
theorem onv_block {e : TypeId} {s : Nat} {w : World} {lo hi n : Nat} {v : Value} {xs : List Value} (h : OwnV e s w lo hi v n xs) (hn : 0 < n) : ∃ g c, v = .slice (some ⟨g, 0, none⟩) n c ∧ lo ≤ g ∧ g < hi ∧ w.ownsRow g e s v n xs ∧ w.ownsRow lo e s v n xs := by
  obtain ⟨⟨A, c, rfl⟩, _, h0 | ⟨ho, hlt⟩⟩ := h
  · omega
  · rcases ho.2 with ⟨_, h0⟩ | ⟨g, cap, cur, he, hb, hg, rest⟩
    · omega
    · simp only [Value.slice.injEq, true_and] at he
      obtain ⟨rfl, rfl⟩ := he
      exact ⟨g, _, rfl, hb, hlt g rfl, ⟨ho.1, .inr ⟨g, _, cur, rfl, Nat.le_refl _, hg, rest⟩⟩, ho⟩
theorem set_mid {α : Type} {us vs : List α} {p q : α} {j : Nat} (h : us.length = j) : (us ++ p :: vs).set j q = (us ++ [q]) ++ vs := by
  rw [List.set_append_right _ _ (by omega), h, Nat.sub_self, List.set_cons_zero, List.append_assoc]; rfl
theorem get_mid {α : Type} {us vs : List α} {p : α} {j : Nat} (h : us.length = j) : (us ++ p :: vs)[j]? = some p := by
  rw [List.getElem?_append_right (by omega), h, Nat.sub_self]; rfl
theorem mark1 {L : List (Value × TN)} {k : Nat} {p : Value × TN} (h : L[k]? = some p) (way : List Int) (a : Int) : (L.flatMap (Nc 1)).set (k * 2 + 1) (.int .i64 a) = (L.set k (p.1, ⟨way, a, p.2.q⟩)).flatMap (Nc 1) :=
  flatMap_set (Nc 1) 2 (fun _ => rfl) L k 1 p (p.1, ⟨way, a, p.2.q⟩) (.int .i64 a) h (by omega) rfl
theorem mark2 {L : List (Value × TN)} {k : Nat} {p : Value × TN} (h : L[k]? = some p) (way : List Int) (a b : Int) : ((L.flatMap (Nc 2)).set (k * 3 + 1) (.int .i64 a)).set (k * 3 + 2) (.int .i64 b) = (L.set k (p.1, ⟨way, a, b⟩)).flatMap (Nc 2) := by
  have h1 := flatMap_set (Nc 2) 3 (fun _ => rfl) L k 1 p (p.1, ⟨way, a, p.2.q⟩) (.int .i64 a) h (by omega) rfl
  have h2 := flatMap_set (Nc 2) 3 (fun _ => rfl) (L.set k (p.1, ⟨way, a, p.2.q⟩)) k 2 (p.1, ⟨way, a, p.2.q⟩) (p.1, ⟨way, a, b⟩) (.int .i64 b) (List.getElem?_set_self (lt_of_get h)) (by omega) rfl
  rw [h1, h2, set_set_same]
theorem mark0 {L : List (Value × TN)} {k : Nat} {p : Value × TN} (h : L[k]? = some p) (z : TN) : L.flatMap (Nc 0) = (L.set k (p.1, z)).flatMap (Nc 0) := by
  have h1 := flatMap_set (Nc 0) 1 (fun _ => rfl) L k 0 p (p.1, z) p.1 h (by omega) rfl
  rw [Nat.add_zero, Nat.mul_one] at h1
  rw [← h1]
  have h2 := flatMap_get (Nc 0) 1 (fun _ => rfl) L k 0 p h (by omega)
  rw [Nat.add_zero, Nat.mul_one] at h2
  refine (List.ext_getElem? fun i => ?_)
  by_cases hi : i = k
  · subst hi; rw [List.getElem?_set_self (lt_of_get h2), h2]; rfl
  · rw [List.getElem?_set_ne (fun e => hi e.symm)]
theorem take_next {α : Type} {x : List α} {j : Nat} {e : α} (h : x[j]? = some e) : x.take (j + 1) = x.take j ++ [e] := by
  obtain ⟨hl, he⟩ := List.getElem?_eq_some_iff.1 h
  rw [List.take_succ_eq_append_getElem hl, he]
theorem mkN_next {m : Nat} {x : List TN} {j : Nat} {e : TN} (h : x[j]? = some e) (k : Int) : mkN m (x.take (j + 1)) k = mkN m (x.take j) k ++ [⟨mark_Int64S e.way (k + cntN m (x.take j)), if 1 ≤ m then k + cntN m (x.take j) + e.way.length else e.p, if 2 ≤ m then k + cntN m (x.take j) + e.way.length + 1 else e.q⟩] := by
  rw [take_next h, mkN_append, mkN, mkN]
theorem cntN_le {m : Nat} (hm : m ≤ 2) {x : List TN} (hs : SmallN x) (j : Nat) : 0 ≤ cntN m (x.take j) ∧ cntN m (x.take j) ≤ 4194304 := by
  have h1 := cntN_bd m hm x
  have h2 := cntN_bd m hm (x.take j)
  have h3 := cntN_bd m hm (x.drop j)
  have h4 := cntN_append m (x.take j) (x.drop j)
  rw [List.take_append_drop] at h4
  unfold SmallN at hs
  omega
end Go.Proofs.YtaajkmjilcamgaaGreatDoor
namespace Go.Proofs.YtaajkmjilcamgaaGreatDoor
open Go.RowKit

section
variable {P : Program}
theorem op_app {o : Oper} {a : Act} {K : Act → World → Prop} {Q : Exit → Act → World → Prop} (w : World) (s x : Operand) (t : TypeId)
    (ho : o.op = .call { callee := .builtin .append, args := #[s, x], argTypes := #[t, t] })
    (base : Nat) (e : TypeId) (i : TypeInfo) (z : Value) (size bytes : Nat) (ht : P.underlying t = some (.slice e)) (hi : P.info? e = some i) (hz : i.zero = some z)
    (hsize : i.size = size) (hby : i.bytes = bytes) (hzs : z.cells.size = size) (hsz : 0 < size)
    (v : Value) (n : Nat) (xs : List Value) (hs : a.eval s = v) (hown : w.ownsRow base e size v n xs)
    (B : Nat) (A : Option Addr) (m c : Nat) (news : List Value) (hx : a.eval x = .slice A m c) (hl : news.length = m * size) (hr : Rd w B A news) (h1 : ∀ u ∈ news, u.oneCell' = true)
    (hn : n + m ≤ 1099511627776) (hb : bytes ≤ 64) (hbase : base ≤ w.heap.size)
    (h : ∀ v' w', w'.ownsRow base e size v' (n + m) (xs ++ news) → w.grownBy w' v.ownBlock → (v'.ownBlock = v.ownBlock ∨ v'.ownBlock = some w.heap.size) → K (a.put o.dst v') w') :
    o.wp P a w K Q := by
  obtain ⟨v', w', hrun, h2, h3, h4⟩ := run_app (P := P) w base t o.type e i z size bytes ht hi hz hsize hby hzs hsz v n xs hown B A m c news hl hr h1 (by unfold maxLen; omega)
    (Nat.le_trans (Nat.mul_le_mul hn hb) (by omega)) hbase
  unfold Oper.wp execOp
  simp only [ho, resolve, invoke, builtin, Sem.run_bind, Sem.run_pure, Result.andThen_ok, List.map_toArray, List.map_cons, List.map_nil, hs, hx, hrun]
  exact h v' w' h2 h3 h4
end
theorem famO_grown {w w' : World} {v v' : Value} {lo : Nat} {ps : List (Value × TN)} {T : TypeId} {s n : Nat} {xs : List Value} (h : FamO w v.ownBlock lo w.heap.size ps) (ho : w.ownsRow lo T s v n xs) (hg : w.grownBy w' v.ownBlock) (hb : v'.ownBlock = v.ownBlock ∨ v'.ownBlock = some w.heap.size) : FamO w' v'.ownBlock lo w'.heap.size ps := by
  have key : ∀ {ps : List (Value × TN)} {lo' : Nat}, FamO w v.ownBlock lo' w.heap.size ps → FamO w' v'.ownBlock lo' w'.heap.size ps := by
    intro ps
    induction ps with
    | nil => intro lo' _; trivial
    | cons p ps ih =>
      intro lo' h
      obtain ⟨a, b, h1, h2, h3, h4, h5, h6⟩ := h
      refine ⟨a, b, h1, h2, Nat.le_trans h3 hg.size, fun g hgg => ?_, ?_, ih h6⟩
      · rcases hb with h | h
        · exact h4 g (by rw [← h]; exact hgg)
        · rw [h] at hgg; cases hgg; exact .inl h3
      · cases hv : v.ownBlock with
        | none =>
          rw [hv] at hg
          exact h5.below (B := w.heap.size) ⟨hg.os, hg.tape, hg.output, hg.size, fun k hk => hg.block k hk (by simp)⟩ h3
        | some g0 =>
          have hg0 := (ho.lt g0 hv).2
          rw [hv] at hg
          exact h5.kept (lo' := g0) (hi' := g0 + 1) ⟨hg.os, hg.tape, hg.output, hg.size, fun k hk ho' => hg.block k hk (by simp; omega)⟩ (by have := h4 g0 hv; omega)
  exact key h

def lateR (x : List TN) (k by_ : Int) : List TN := match x[k.toNat]? with | none => x | some e => x.set k.toNat ⟨e.way, e.p + by_, e.q⟩
def delayRun (ts : List Int) (x : List TN) (k by_ : Int) : List TN × Int :=
  if vRuns ts x = true then (if (0 ≤ k ∧ k ≤ (x.length : Int) - 1) ∧ (0 ≤ by_ ∧ by_ ≤ 100000) then (if ((x[k.toNat]?).map fun e => e.p + by_).getD 0 ≤ 100000 then (lateR x k by_, 0) else ([], 5)) else ([], 2)) else ([], 1)
theorem onl_set {T : TypeId} {w : World} {lo hi n g c i : Nat} {x : List TN} {e : TN} {a : Int} (h : ON T 1 w lo hi (.slice (some ⟨g, 0, none⟩) n c) x) (hi' : x[i]? = some e) (hg : lo ≤ g ∧ g < hi) : ON T 1 (w.setCell ⟨g, i * 2 + 1, none⟩ (.int .i64 a)) lo hi (.slice (some ⟨g, 0, none⟩) n c) (x.set i ⟨e.way, a, e.q⟩) := by
  obtain ⟨ps, hP, hO, hF, hS⟩ := h
  obtain ⟨p, hp, hp2⟩ : ∃ p, ps[i]? = some p ∧ p.2 = e := by
    rw [← hP, List.getElem?_map] at hi'
    cases hq : ps[i]? with
    | none => rw [hq] at hi'; cases hi'
    | some p => rw [hq] at hi'; exact ⟨p, rfl, Option.some.inj hi'⟩
  refine ⟨ps.set i (p.1, ⟨e.way, a, e.q⟩), ?_, ?_, ?_, ?_⟩
  · rw [List.map_set, hP]
  · have hm := mark1 hp e.way a
    rw [hp2] at hm
    rw [← hm]
    obtain ⟨h1, h2, h3⟩ := hO
    rw [List.length_set]
    refine ⟨h1, h2, ?_⟩
    rcases h3 with ⟨h0, hx⟩ | ⟨ho, hlt⟩
    · exact absurd (lt_of_get hi') (by omega)
    · obtain ⟨_, _, he⟩ := h1
      simp only [Value.slice.injEq] at he
      obtain ⟨_, rfl, _⟩ := he
      exact .inr ⟨(ho.stored (i * 2 + 1) (.int .i64 a)).1, hlt⟩
  · have hF2 := FamO.keptB (g := g) (onlyN_set (w := w) (b := g) (j := i * 2 + 1) (v := .int .i64 a) (lo := g) (hi := g + 1) (Nat.le_refl _) (by omega)) hF
    have key : ∀ {ps : List (Value × TN)} {lo i : Nat} {p : Value × TN}, FamO (w.setCell ⟨g, i * 2 + 1, none⟩ (.int .i64 a)) (some g) lo hi ps → True := fun _ => trivial
    clear key
    have key : ∀ (W : World) (ps : List (Value × TN)) (lo i : Nat) (p q : Value × TN), ps[i]? = some p → q.1 = p.1 → q.2.way = p.2.way → FamO W (some g) lo hi ps → FamO W (some g) lo hi (ps.set i q) := by
      intro W ps
      induction ps with
      | nil => intro lo i p q h; simp at h
      | cons p' ps ih =>
        intro lo i p q hq h1 h2 hF
        obtain ⟨a1, b1, k1, k2, k3, k4, k5, k6⟩ := hF
        cases i with
        | zero => simp at hq; subst hq; rw [List.set_cons_zero]; exact ⟨a1, b1, k1, k2, k3, k4, by rw [h1, h2]; exact k5, k6⟩
        | succ i => rw [List.set_cons_succ]; exact ⟨a1, b1, k1, k2, k3, k4, k5, ih _ i p q (by simpa using hq) h1 h2 k6⟩
    exact key _ ps lo i p _ hp rfl (by rw [hp2]) hF2
  · unfold SmallN at hS ⊢
    have hm : ((x.set i ⟨e.way, a, e.q⟩).map fun e => e.way.length) = x.map fun e => e.way.length := by
      rw [List.map_set]
      refine List.ext_getElem? fun j => ?_
      by_cases hj : j = i
      · subst hj
        rw [List.getElem?_set_self (by rw [List.length_map]; exact lt_of_get hi'), List.getElem?_map, hi']; rfl
      · rw [List.getElem?_set_ne (fun e => hj e.symm)]
    rw [hm, List.length_set]; exact hS
end Go.Proofs.YtaajkmjilcamgaaGreatDoor
namespace Go.Proofs.YtaajkmjilcamgaaGreatDoor
open Go.RowKit

theorem row_only {w w' : World} {lo hi base : Nat} {e : TypeId} {s n : Nat} {v : Value} {xs : List Value} (h : w.ownsRow base e s v n xs) (k : Only lo hi w w') (hd : hi ≤ base) : w'.ownsRow base e s v n xs := by
  refine ⟨h.1, ?_⟩
  rcases h.2 with h0 | ⟨g, cap, cur, he, hb, hg, rest⟩
  · exact .inl h0
  · exact .inr ⟨g, cap, cur, he, hb, (k.2.2.2.2 g (lt_of_block hg) (by omega)).trans hg, rest⟩
theorem only_app {lo hi base : Nat} {w0 w w' : World} {e : TypeId} {s n : Nat} {v : Value} {xs : List Value} (h : Only lo hi w0 w) (ho : w.ownsRow base e s v n xs) (hg : w.grownBy w' v.ownBlock) (hB : w0.heap.size ≤ base) : Only lo hi w0 w' :=
  ⟨hg.os.trans h.1, hg.tape.trans h.2.1, hg.output.trans h.2.2.1, Nat.le_trans h.size hg.size, fun i hi' ho' => (hg.block i (Nat.lt_of_lt_of_le hi' h.size) (fun e => by have := (ho.lt i e.symm).1; omega)).trans (h.2.2.2.2 i hi' ho')⟩
theorem only_alloc {lo hi : Nat} {w0 w : World} (h : Only lo hi w0 w) (o : Obj) : Only lo hi w0 (w.alloc o) := only_trans h (only_of_below ((Below.refl _ _).alloc (Nat.le_refl _) o))
theorem SrcAt.grown {b : Nat} {bs : List Int} {N : Int} {W W' : World} {row : Option Nat} (h : SrcAt b bs N W) (hg : W.grownBy W' row) (hr : ∀ g, row = some g → b < g) : SrcAt b bs N W' :=
  h.below (B := b + 1) ⟨hg.os, hg.tape, hg.output, hg.size, fun k hk => hg.block k (by have := h.lt; omega) (fun e => by have := hr k e.symm; omega)⟩ (Nat.lt_succ_self b)
theorem SrcAt.alloc {b : Nat} {bs : List Int} {N : Int} {W : World} (h : SrcAt b bs N W) (o : Obj) : SrcAt b bs N (W.alloc o) := h.below ((Below.refl _ _).alloc (Nat.le_refl _) o) h.lt
end Go.Proofs.YtaajkmjilcamgaaGreatDoor
namespace Go.Proofs.YtaajkmjilcamgaaGreatDoor
open Go.RowKit

theorem Only.cell' {lo hi : Nat} {w w' : World} (h : Only lo hi w w') {p : Addr} (h1 : p.block < w.heap.size) (h2 : p.block < lo ∨ hi ≤ p.block) : w'.cell? p = w.cell? p :=
  World.cell?_of_block (h.2.2.2.2 p.block h1 h2)
set_option maxRecDepth 100000 in
set_option maxHeartbeats 1000000 in
theorem one_any (b : Nat) (bs : List Int) (N n : Int) (w : World) (hbs : BsOk bs) (hN : N ≤ 1099511000000) (h : SrcAt b bs N w) :
    Calls Tryz.prog 63 #[.pointer (some ⟨b, 0, none⟩), .int .i64 n] w fun e w' => ∃ v, e = .returned (.bool v) ∧ SrcAt b bs (N + 2) w' ∧ Only b (b + 1) w w' := by
  have HC := hide (pick_any b bs N n w hbs hN h)
  clear h
  go_enter Tryz.func63, Tryz.ntmps63
  go_wp2_with (go_at_call 68; refine (HC.out).mono ?_; rintro e w1 ⟨z, rfl, _, hs1, ho1⟩)
  go_ret
  exact ⟨_, rfl, hs1, ho1⟩
set_option maxRecDepth 100000 in
set_option maxHeartbeats 1000000 in
theorem among_any (b : Nat) (bs : List Int) (N : Int) (g o c : Nat) (xs : List Int) (w : World) (hbs : BsOk bs) (hN : N ≤ 1099511000000) (h : SrcAt b bs N w) (hg : g ≠ b) (hgl : g < w.heap.size) (hx0 : 1 ≤ xs.length) (hx1 : xs.length ≤ 1000) (hr : ∀ j z, xs[j]? = some z → w.cell? ⟨g, o + j, none⟩ = some (.int .i64 z)) :
    Calls Tryz.prog 111 #[.pointer (some ⟨b, 0, none⟩), .slice (some ⟨g, o, none⟩) xs.length c] w fun e w' => ∃ z, e = .returned (.int .i64 z) ∧ z ∈ xs ∧ SrcAt b bs (N + 2) w' ∧ Only b (b + 1) w w' := by
  have HC := hide (pick_any b bs N (xs.length : Int) w hbs hN h)
  have HR := hide hr
  clear h hr
  go_enter Tryz.func111, Tryz.ntmps111
  go_wp2_with (go_at_call 68; refine (HC.out).mono ?_; rintro e w1 ⟨z, rfl, ⟨hz0, hz1, _⟩, hs1, ho1⟩; have hz9 := hz1 (by omega); obtain ⟨j, rfl⟩ := Int.eq_ofNat_of_zero_le hz0; have hj : j < xs.length := (by omega); have hej := List.getElem?_eq_getElem hj; have hcj := (ho1.cell' (p := ⟨g, o + j, none⟩) hgl (by dsimp only; omega)).trans (HR.out j _ hej); have HEJ := hide hej; clear hej)
  go_ret
  exact ⟨_, rfl, List.mem_of_getElem? HEJ.out, hs1, ho1⟩
end Go.Proofs.YtaajkmjilcamgaaGreatDoor
