/-
  Two zones are the same: in the program and in the reference.
-/
import Derived.Test.YtofjnmeblmbnmaaDoorQLevels1
import Derived.Test.YtofjnmeblmbnmaaDoorQLevels0
import Derived.Deep.RegionHeld3
namespace Go.Proofs.YtofjnmeblmbnmaaDoor
open Go.RowKit

set_option maxRecDepth 100000 in
set_option maxHeartbeats 1000000 in
theorem equalInt_any (xs ys : List Int) (A1 A2 : Option Addr) (c1 c2 : Nat) (w : World) (hx : xs.length ≤ 9223372036854775807) (hy : ys.length ≤ 9223372036854775807)
    (h1 : RdI w w.heap.size A1 xs) (h2 : RdI w w.heap.size A2 ys) :
    Calls Tryd.prog 92 #[.slice A1 xs.length c1, .slice A2 ys.length c2] w fun e w' => e = .returned (.bool (decide (xs = ys))) ∧ Below w.heap.size w w' := by
  by_cases hl : xs.length = ys.length
  · have hB : ((xs.length : Int) != ys.length) = false := by simp [hl]
    have HL := hide hl; clear hl
    go_enter Tryd.func92, Tryd.ntmps92
    go_wp2_with fail
    go_loopg [13] xs.length (fun g i wr => ∃ k : Nat, k ≤ xs.length ∧ Hid (g = xs.length - k) ∧ i = .int .i64 k ∧ Below w.heap.size w wr ∧ Hid (xs = ys ↔ xs.drop k = ys.drop k))
    case atStart => exact ⟨0, by omega, by simp [Hid], rfl, Below.refl _ _, by simp [Hid]⟩
    case round =>
      obtain ⟨k, hk, hg, rfl, hb, HE⟩ := hrel
      by_cases hlt : k < xs.length
      · have hlt2 : k < ys.length := by have := HL.out; omega
        obtain ⟨b1, o1, z1, rfl, _, hz1, hc1⟩ := (h1.below hb).at_ hlt
        obtain ⟨b2, o2, z2, rfl, _, hz2, hc2⟩ := (h2.below hb).at_ hlt2
        have Z1 := hide hz1; have Z2 := hide hz2; clear hz1 hz2 h1 h2
        have hE : decide (xs = ys) = (decide (z1 = z2) && decide (xs.drop (k + 1) = ys.drop (k + 1))) := by
          have h := HE.out
          rw [drop_cons Z1.out, drop_cons Z2.out] at h
          rw [Bool.eq_iff_iff]; simpa using h
        have HE' := hide hE
        clear hE
        by_cases e0 : z1 = z2
        case neg =>
          have hB0 : (z1 != z2) = true := by simp [e0]
          have E0 := hide e0; clear e0
          go_wp2_with fail
          go_quiet (fail)
          go_wp2_with fail
          go_ret
          exact ⟨ret_b (by rw [HE'.out]; simp [E0.out]), bdn hb _⟩
        have hB0 : (z1 != z2) = false := by simp [e0]
        have E0 := hide e0; clear e0
        go_wp2_with fail
        go_quiet (fail)
        go_wp2_with fail
        go_roundg (xs.length - (k + 1))
        case measure => have := hg.out; omega
        case rel => exact ⟨k + 1, by omega, rfl, by go_num, bdn hb _, hide (by have := HE'.out; simpa [E0.out] using this)⟩
      · go_wp2_with fail
        go_ret
        refine ⟨ret_b ?_, hb⟩
        have h := HE.out
        rw [List.drop_eq_nil_of_le (by omega), List.drop_eq_nil_of_le (by have := HL.out; omega)] at h
        simpa using h
  · have hB : ((xs.length : Int) != ys.length) = true := by simp; omega
    have HL := hide hl; clear hl
    go_enter Tryd.func92, Tryd.ntmps92
    go_wp2_with fail
    go_ret
    exact ⟨ret_b (by simp; intro e; exact HL.out (by rw [e])), Below.refl _ _⟩
set_option maxRecDepth 100000 in
set_option maxHeartbeats 1000000 in
theorem l00Same_any (xs ys : List Int) (A1 A2 : Option Addr) (c1 c2 : Nat) (w : World) (hx : xs.length ≤ 9223372036854775807) (hy : ys.length ≤ 9223372036854775807)
    (h1 : RdI w w.heap.size A1 xs) (h2 : RdI w w.heap.size A2 ys) :
    Calls Tryd.prog 91 #[.slice A1 xs.length c1, .slice A2 ys.length c2] w fun e w' => e = .returned (.bool (decide (xs = ys))) ∧ Below w.heap.size w w' := by
  by_cases hl : xs.length = ys.length
  · have hB : ((xs.length : Int) != ys.length) = false := by simp [hl]
    have HL := hide hl; clear hl
    go_enter Tryd.func91, Tryd.ntmps91
    go_wp2_with fail
    go_loopg [5] xs.length (fun g i wr => ∃ k : Nat, k ≤ xs.length ∧ Hid (g = xs.length - k) ∧ i = .int .i64 k ∧ Below w.heap.size w wr ∧ Hid (xs = ys ↔ xs.drop k = ys.drop k))
    case atStart => exact ⟨0, by omega, by simp [Hid], rfl, Below.refl _ _, by simp [Hid]⟩
    case round =>
      obtain ⟨k, hk, hg, rfl, hb, HE⟩ := hrel
      by_cases hlt : k < xs.length
      · have hlt2 : k < ys.length := by have := HL.out; omega
        obtain ⟨b1, o1, z1, rfl, _, hz1, hc1⟩ := (h1.below hb).at_ hlt
        obtain ⟨b2, o2, z2, rfl, _, hz2, hc2⟩ := (h2.below hb).at_ hlt2
        have Z1 := hide hz1; have Z2 := hide hz2; clear hz1 hz2 h1 h2
        have hE : decide (xs = ys) = (decide (z1 = z2) && decide (xs.drop (k + 1) = ys.drop (k + 1))) := by
          have h := HE.out
          rw [drop_cons Z1.out, drop_cons Z2.out] at h
          rw [Bool.eq_iff_iff]; simpa using h
        have HE' := hide hE
        clear hE
        by_cases e0 : z1 = z2
        case neg =>
          have hB0 : (z1 != z2) = true := by simp [e0]
          have E0 := hide e0; clear e0
          go_wp2_with fail
          go_quiet (fail)
          go_wp2_with fail
          go_ret
          exact ⟨ret_b (by rw [HE'.out]; simp [E0.out]), bdn hb _⟩
        have hB0 : (z1 != z2) = false := by simp [e0]
        have E0 := hide e0; clear e0
        go_wp2_with fail
        go_quiet (fail)
        go_wp2_with fail
        go_roundg (xs.length - (k + 1))
        case measure => have := hg.out; omega
        case rel => exact ⟨k + 1, by omega, rfl, by go_num, bdn hb _, hide (by have := HE'.out; simpa [E0.out] using this)⟩
      · go_wp2_with fail
        go_ret
        refine ⟨ret_b ?_, hb⟩
        have h := HE.out
        rw [List.drop_eq_nil_of_le (by omega), List.drop_eq_nil_of_le (by have := HL.out; omega)] at h
        simpa using h
  · have hB : ((xs.length : Int) != ys.length) = true := by simp; omega
    have HL := hide hl; clear hl
    go_enter Tryd.func91, Tryd.ntmps91
    go_wp2_with fail
    go_ret
    exact ⟨ret_b (by simp; intro e; exact HL.out (by rw [e])), Below.refl _ _⟩

def sameZ (x y : TZ) : Bool := decide (x.z = y.z) && (decide (x.of = y.of) && decide (x.ch = y.ch))
set_option maxRecDepth 100000 in
set_option maxHeartbeats 4000000 in
theorem P_SameZoned (x : TZ) (v : Value) (y : TZ) (u : Value) (w : World) (hx : Small_Zoned x) (_ : Fit_Zoned x) (h : R_Zoned w w.heap.size v x) (hy : Small_Zoned y) (_ : Fit_Zoned y) (k : R_Zoned w w.heap.size u y) :
    Calls Tryd.prog 39 #[v, u] w fun e w' => e = .returned (.bool (sameZ x y)) ∧ Below w.heap.size w w' := by
  obtain ⟨A, c, A2, c2, rfl, h1, h2⟩ := h
  obtain ⟨A3, c3, A4, c4, rfl, k1, k2⟩ := k
  obtain ⟨hx1, hx2⟩ := hx
  obtain ⟨hy1, hy2⟩ := hy
  have b0 : Below w.heap.size w ((w.alloc (.cells #[.int .i64 x.z, .slice A x.of.length c, .slice A2 x.ch.length c2] 47)).alloc (.cells #[.int .i64 y.z, .slice A3 y.of.length c3, .slice A4 y.ch.length c4] 47)) := (by repeat (first | exact Below.refl _ _ | assumption | (refine Below.alloc ?_ (by simp <;> omega) _) | refine Below.drew ?_ | refine bdn ?_ _))
  have z0 : w.heap.size + 2 ≤ ((w.alloc (.cells #[.int .i64 x.z, .slice A x.of.length c, .slice A2 x.ch.length c2] 47)).alloc (.cells #[.int .i64 y.z, .slice A3 y.of.length c3, .slice A4 y.ch.length c4] 47)).heap.size := by simp
  have X0 := hide ((BoxAt.new w #[.int .i64 x.z, .slice A x.of.length c, .slice A2 x.ch.length c2] 47).alloc (.cells #[.int .i64 y.z, .slice A3 y.of.length c3, .slice A4 y.ch.length c4] 47))
  have Y0 := hide (show BoxAt ((w.alloc (.cells #[.int .i64 x.z, .slice A x.of.length c, .slice A2 x.ch.length c2] 47)).alloc (.cells #[.int .i64 y.z, .slice A3 y.of.length c3, .slice A4 y.ch.length c4] 47)) (w.heap.size + 1) #[.int .i64 y.z, .slice A3 y.of.length c3, .slice A4 y.ch.length c4] 47 by have := BoxAt.new (w.alloc (.cells #[.int .i64 x.z, .slice A x.of.length c, .slice A2 x.ch.length c2] 47)) #[.int .i64 y.z, .slice A3 y.of.length c3, .slice A4 y.ch.length c4] 47; simpa using this)
  have H1 := hide (equalInt_any x.of y.of A A3 c c3 ((w.alloc (.cells #[.int .i64 x.z, .slice A x.of.length c, .slice A2 x.ch.length c2] 47)).alloc (.cells #[.int .i64 y.z, .slice A3 y.of.length c3, .slice A4 y.ch.length c4] 47)) (by omega) (by omega) ((h1.below b0).more b0.size) ((k1.below b0).more b0.size))
  have H2 := hide fun W (hW : Below w.heap.size w W) => equalChange_any x.ch y.ch A2 A4 c2 c4 W (by omega) (by omega) ((h2.below hW).more hW.size) ((k2.below hW).more hW.size)
  clear h1 h2 k1 k2
  by_cases e0 : x.z = y.z
  case neg =>
    have HR := hide (show sameZ x y = false by simp [sameZ, e0])
    have hB0 : (x.z == y.z) = false := by simp [e0]
    clear e0
    go_enter Tryd.func39, Tryd.ntmps39
    go_wp2_with fail
    go_ret
    exact ⟨ret_b HR.out.symm, b0⟩
  have hB0 : (x.z == y.z) = true := by simp [e0]
  by_cases e1 : x.of = y.of
  case neg =>
    have HR := hide (show sameZ x y = false by simp [sameZ, e1])
    rw [decide_eq_false e1] at H1
    clear e0 e1
    go_enter Tryd.func39, Tryd.ntmps39
    go_wp2_with (go_at_call 92; refine (H1.out).mono ?_; rintro e w1 ⟨rfl, hb1⟩)
    go_ret
    exact ⟨ret_b HR.out.symm, b0.trans (hb1.mono b0.size)⟩
  have HR := hide (show sameZ x y = decide (x.ch = y.ch) by simp [sameZ, e0, e1])
  rw [decide_eq_true e1] at H1
  clear e0 e1
  generalize decide (x.ch = y.ch) = dd at *
  go_enter Tryd.func39, Tryd.ntmps39
  go_wp2_with (first | (go_at_call 92; refine (H1.out).mono ?_; rintro e w1 ⟨rfl, hb1⟩; have hb2 := hb1.mono z0; have X1 := X0.out.below hb2 (by omega); have Y1 := Y0.out.below hb2 (by omega); have q0 := X1.cell 0; have q2 := X1.cell 2; have r0 := Y1.cell 0; have r2 := Y1.cell 2; simp only [List.getElem?_cons_succ, List.getElem?_cons_zero] at q0 q2 r0 r2; have b1 := b0.trans (hb1.mono b0.size)) | (go_at_call 93; refine (H2.out _ b1).mono ?_; rintro e w2 ⟨rfl, hb3⟩))
  go_ret
  exact ⟨ret_b HR.out.symm, b1.trans (hb3.mono b1.size)⟩
set_option maxRecDepth 100000 in
set_option maxHeartbeats 4000000 in
theorem S_SameZoned (x : TZ) (v : Value) (y : TZ) (u : Value) (w : World) (hx : Small_Zoned x) (_ : Fit_Zoned x) (h : R_Zoned w w.heap.size v x) (hy : Small_Zoned y) (_ : Fit_Zoned y) (k : R_Zoned w w.heap.size u y) :
    Calls Tryd.prog 37 #[v, u] w fun e w' => e = .returned (.bool (sameZ x y)) ∧ Below w.heap.size w w' := by
  obtain ⟨A, c, A2, c2, rfl, h1, h2⟩ := h
  obtain ⟨A3, c3, A4, c4, rfl, k1, k2⟩ := k
  obtain ⟨hx1, hx2⟩ := hx
  obtain ⟨hy1, hy2⟩ := hy
  have b0 : Below w.heap.size w ((w.alloc (.cells #[.int .i64 x.z, .slice A x.of.length c, .slice A2 x.ch.length c2] 47)).alloc (.cells #[.int .i64 y.z, .slice A3 y.of.length c3, .slice A4 y.ch.length c4] 47)) := (by repeat (first | exact Below.refl _ _ | assumption | (refine Below.alloc ?_ (by simp <;> omega) _) | refine Below.drew ?_ | refine bdn ?_ _))
  have z0 : w.heap.size + 2 ≤ ((w.alloc (.cells #[.int .i64 x.z, .slice A x.of.length c, .slice A2 x.ch.length c2] 47)).alloc (.cells #[.int .i64 y.z, .slice A3 y.of.length c3, .slice A4 y.ch.length c4] 47)).heap.size := by simp
  have X0 := hide ((BoxAt.new w #[.int .i64 x.z, .slice A x.of.length c, .slice A2 x.ch.length c2] 47).alloc (.cells #[.int .i64 y.z, .slice A3 y.of.length c3, .slice A4 y.ch.length c4] 47))
  have Y0 := hide (show BoxAt ((w.alloc (.cells #[.int .i64 x.z, .slice A x.of.length c, .slice A2 x.ch.length c2] 47)).alloc (.cells #[.int .i64 y.z, .slice A3 y.of.length c3, .slice A4 y.ch.length c4] 47)) (w.heap.size + 1) #[.int .i64 y.z, .slice A3 y.of.length c3, .slice A4 y.ch.length c4] 47 by have := BoxAt.new (w.alloc (.cells #[.int .i64 x.z, .slice A x.of.length c, .slice A2 x.ch.length c2] 47)) #[.int .i64 y.z, .slice A3 y.of.length c3, .slice A4 y.ch.length c4] 47; simpa using this)
  have H1 := hide (l00Same_any x.of y.of A A3 c c3 ((w.alloc (.cells #[.int .i64 x.z, .slice A x.of.length c, .slice A2 x.ch.length c2] 47)).alloc (.cells #[.int .i64 y.z, .slice A3 y.of.length c3, .slice A4 y.ch.length c4] 47)) (by omega) (by omega) ((h1.below b0).more b0.size) ((k1.below b0).more b0.size))
  have HX := hide h2
  have HY := hide k2
  clear h1 h2 k1 k2
  by_cases e0 : x.z = y.z
  case neg =>
    have HR := hide (show sameZ x y = false by simp [sameZ, e0])
    have hB0 : (x.z != y.z) = true := by simp [e0]
    clear e0
    go_enter Tryd.func37, Tryd.ntmps37
    go_wp2_with fail
    go_ret
    exact ⟨ret_b HR.out.symm, b0⟩
  have hB0 : (x.z != y.z) = false := by simp [e0]
  by_cases e1 : x.of = y.of
  case neg =>
    have HR := hide (show sameZ x y = false by simp [sameZ, e1])
    rw [decide_eq_false e1] at H1
    clear e0 e1
    go_enter Tryd.func37, Tryd.ntmps37
    go_wp2_with (go_at_call 91; refine (H1.out).mono ?_; rintro e w1 ⟨rfl, hb1⟩)
    go_ret
    exact ⟨ret_b HR.out.symm, b0.trans (hb1.mono b0.size)⟩
  have HR := hide (show sameZ x y = decide (x.ch = y.ch) by simp [sameZ, e0, e1])
  rw [decide_eq_true e1] at H1
  clear e0 e1
  by_cases hl : x.ch.length = y.ch.length
  case neg =>
    have hB : ((x.ch.length : Int) != y.ch.length) = true := by simp; omega
    have HL := hide (show decide (x.ch = y.ch) = false from decide_eq_false fun e => hl (by rw [e]))
    clear hl
    go_enter Tryd.func37, Tryd.ntmps37
    go_wp2_with (go_at_call 91; refine (H1.out).mono ?_; rintro e w1 ⟨rfl, hb1⟩; have hb2 := hb1.mono z0; have X1 := X0.out.below hb2 (by omega); have Y1 := Y0.out.below hb2 (by omega); have q0 := X1.cell 0; have q2 := X1.cell 2; have r0 := Y1.cell 0; have r2 := Y1.cell 2; simp only [List.getElem?_cons_succ, List.getElem?_cons_zero] at q0 q2 r0 r2)
    go_ret
    exact ⟨ret_b (by rw [HR.out, HL.out]), b0.trans (hb1.mono b0.size)⟩
  have hB : ((x.ch.length : Int) != y.ch.length) = false := by simp [hl]
  have hst : Tryd.prog.stoodInHeld 41 = false := by kernel_rfl
  have hgu : Tryd.prog.eqGuardType Tryd.prog.depth 41 = false := by kernel_rfl
  have HL := hide hl; clear hl
  go_enter Tryd.func37, Tryd.ntmps37
  go_wp2_with (go_at_call 91; refine (H1.out).mono ?_; rintro e w1 ⟨rfl, hb1⟩; have hb2 := hb1.mono z0; have X1 := X0.out.below hb2 (by omega); have Y1 := Y0.out.below hb2 (by omega); have q0 := X1.cell 0; have q2 := X1.cell 2; have r0 := Y1.cell 0; have r2 := Y1.cell 2; simp only [List.getElem?_cons_succ, List.getElem?_cons_zero] at q0 q2 r0 r2)
  have b1 := hb1.mono z0
  clear q0 q2 r0 r2 X1 Y1 hb2
  go_loopg [5] x.ch.length (fun g i wr => ∃ k : Nat, k ≤ x.ch.length ∧ Hid (g = x.ch.length - k) ∧ i = .int .i64 k ∧ Below (w.heap.size + 2) ((w.alloc (.cells #[.int .i64 x.z, .slice A x.of.length c, .slice A2 x.ch.length c2] 47)).alloc (.cells #[.int .i64 y.z, .slice A3 y.of.length c3, .slice A4 y.ch.length c4] 47)) wr ∧ Hid (x.ch = y.ch ↔ x.ch.drop k = y.ch.drop k))
  case atStart => exact ⟨0, by omega, by simp [Hid], rfl, b1, by simp [Hid]⟩
  case round =>
    obtain ⟨k, hk, hg, rfl, hb, HE⟩ := hrel
    clear b1 hb1
    have X1 := X0.out.below hb (by omega)
    have Y1 := Y0.out.below hb (by omega)
    have q2 := X1.cell 2
    have r2 := Y1.cell 2
    simp only [List.getElem?_cons_succ, List.getElem?_cons_zero] at q2 r2
    have bw : Below w.heap.size w wr := b0.trans (hb.mono (by omega))
    by_cases hlt : k < x.ch.length
    · have hlt2 : k < y.ch.length := by have := HL.out; omega
      obtain ⟨b1, o1, z1, rfl, _, hz1, hc1a, hc1b, hc1c⟩ := (HX.out.below bw).at_ hlt
      obtain ⟨b2, o2, z2, rfl, _, hz2, hc2a, hc2b, hc2c⟩ := (HY.out.below bw).at_ hlt2
      have hE : decide (x.ch = y.ch) = (decide (z1 = z2) && decide (x.ch.drop (k + 1) = y.ch.drop (k + 1))) := by
        have h := HE.out
        rw [drop_cons hz1, drop_cons hz2] at h
        rw [Bool.eq_iff_iff]; simpa using h
      have HE' := hide hE
      clear hE hz1 hz2
      obtain ⟨p0, p1, p2⟩ := z1
      obtain ⟨q0', q1', q2'⟩ := z2
      dsimp only at hc1a hc1b hc1c hc2a hc2b hc2c
      by_cases e0 : p0 = q0'
      case neg =>
        have hB0 : (p0 == q0') = false := by simp [e0]
        have E0 := hide e0; clear e0
        go_wp2_with fail
        go_quiet (fail)
        go_wp2_with fail
        go_ret
        exact ⟨ret_b (by rw [HR.out, HE'.out]; simp [E0.out]), bdn bw _⟩
      have hB0 : (p0 == q0') = true := by simp [e0]
      have E0 := hide e0; clear e0
      by_cases e1 : p1 = q1'
      case neg =>
        have hB1 : (p1 == q1') = false := by simp [e1]
        have E1 := hide e1; clear e1
        go_wp2_with fail
        go_quiet (fail)
        go_wp2_with fail
        go_ret
        exact ⟨ret_b (by rw [HR.out, HE'.out]; simp [E1.out]), bdn bw _⟩
      have hB1 : (p1 == q1') = true := by simp [e1]
      have E1 := hide e1; clear e1
      by_cases e2 : p2 = q2'
      case neg =>
        have hB2 : (p2 == q2') = false := by simp [e2]
        have E2 := hide e2; clear e2
        go_wp2_with fail
        go_quiet (fail)
        go_wp2_with fail
        go_ret
        exact ⟨ret_b (by rw [HR.out, HE'.out]; simp [E2.out]), bdn bw _⟩
      have hB2 : (p2 == q2') = true := by simp [e2]
      have E2 := hide e2; clear e2
      go_wp2_with fail
      go_quiet (fail)
      go_wp2_with fail
      go_roundg (x.ch.length - (k + 1))
      case measure => have := hg.out; omega
      case rel => exact ⟨k + 1, by omega, rfl, by go_num, bdn hb _, hide (by have := HE'.out; simpa [E0.out, E1.out, E2.out] using this)⟩
    · have h := HE.out
      rw [List.drop_eq_nil_of_le (by omega), List.drop_eq_nil_of_le (by have := HL.out; omega)] at h
      have HQ := hide (show sameZ x y = true by rw [HR.out]; simpa using h)
      clear h
      go_wp2_with fail
      go_ret
      exact ⟨ret_b HQ.out.symm, bw⟩
end Go.Proofs.YtofjnmeblmbnmaaDoor
