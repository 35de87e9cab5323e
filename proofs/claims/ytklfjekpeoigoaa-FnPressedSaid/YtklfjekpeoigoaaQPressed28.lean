/-
  The law FnPressed returns true for every input. No condition.
-/
import Derived.Test.YtklfjekpeoigoaaQPressed16
import Derived.Test.YtklfjekpeoigoaaQPressed27
import Derived.Test.YtklfjekpeoigoaaQPressed2
import Derived.Test.YtklfjekpeoigoaaRows
import Derived.Test.YtklfjekpeoigoaaQPressed12
import Derived.ProofKit
import Derived.Deep.DeepCutAuto
import Derived.OpenShut
namespace Go.Proofs.Ytklfjekpeoigoaa
open Go.ChangeShapes Go.WideShapes Go.ChangeAt Go.RowKit


set_option maxRecDepth 100000 in
set_option maxHeartbeats 4000000 in
theorem f6has_any (xs : List Int) (v : Int) (A : Option Addr) (c : Nat) (w : World) (hx : xs.length ≤ 1048576) (h1 : RdI w w.heap.size A xs) :
    Calls Try.prog 116 #[.slice A xs.length c, .int .i64 v] w fun e w' => e = .returned (.bool (hasI xs v)) ∧ w = w' := by
  have HX := hide h1; clear h1
  go_enter Try.func116, Try.ntmps116
  go_wp2_with fail
  go_loopg [5] xs.length (fun g i wr => ∃ k : Nat, k ≤ xs.length ∧ Hid (g = xs.length - k) ∧ i = .int .i64 k ∧ Hid (hasI xs v = hasI (xs.drop k) v) ∧ w = wr)
  case atStart => exact ⟨0, by omega, by simp [Hid], rfl, by simp [Hid], rfl⟩
  case round =>
    obtain ⟨k, hk, hg, rfl, HS, rfl⟩ := hrel
    by_cases hlt : k < xs.length
    · obtain ⟨b1, o1, z1, rfl, _, hz1, hca⟩ := HX.out.at_ hlt
      have HS' := HS.out
      rw [drop_cons hz1, hasI, hasI, List.any_cons] at HS'
      have HQ : Hid (hasI xs v = (decide (z1 = v) || hasI (xs.drop (k + 1)) v)) := HS'
      clear HS' HS hz1
      by_cases he : z1 = v
      · have hB : (z1 == v) = true := by simp [he]
        have HN := hide (show hasI xs v = true by rw [HQ.out, decide_eq_true he]; rfl)
        clear he
        go_wp2_with fail
        go_ret
        exact ⟨ret_b HN.out.symm, rfl⟩
      · have hB : (z1 == v) = false := by simp [he]
        have HN := hide (show hasI xs v = hasI (xs.drop (k + 1)) v by rw [HQ.out, decide_eq_false he]; rfl)
        clear he
        go_wp2_with fail
        go_roundg (xs.length - (k + 1))
        case measure => have := hg.out; omega
        case rel => exact ⟨k + 1, by omega, rfl, by go_num, HN, rfl⟩
    · have HN := hide (show hasI xs v = false by rw [HS.out, List.drop_eq_nil_of_le (by omega)]; rfl)
      go_wp2_with fail
      go_ret
      exact ⟨ret_b HN.out.symm, rfl⟩

theorem preBig_any (A : Option Addr) (n c : Nat) (w : World) (hn : ¬ n ≤ 4096) (hn2 : n ≤ 9223372036854775807) :
    Calls Try.prog 23 #[.slice A n c] w fun e w' => e = .returned (.bool true) ∧ w = w' := by
  have hD : decide ((4096 : Int) < (n : Int)) = true := decide_eq_true (by omega)
  go_enter Try.func23, Try.ntmps23
  go_wp2_with fail
  go_ret
  exact ⟨rfl, rfl⟩
/-- What holds in all worlds from here on. -/
def Fu (w : World) (P : World → Prop) : Prop := ∀ W, Below w.heap.size w W → P W
theorem Fu.step {w w2 : World} {P : World → Prop} (h : Fu w P) (b : Below w.heap.size w w2) : Fu w2 P := fun W hW => h W (b.trans (hW.mono b.size))
theorem Fu.now {w : World} {P : World → Prop} (h : Fu w P) : P w := h w (Below.refl _ _)
theorem fu_below {w0 w : World} (b : Below w0.heap.size w0 w) : Fu w (fun W => Below w0.heap.size w0 W) := fun _ hW => b.trans (hW.mono b.size)
theorem fu_I {w : World} {A : Option Addr} {xs : List Int} (h : RdI w w.heap.size A xs) : Fu w (fun W => RdI W W.heap.size A xs) := fun _ hW => (RdI.below h hW).more hW.size
theorem fu_B {w : World} {A : Option Addr} {xs : List Int} (h : RdB w w.heap.size A xs) : Fu w (fun W => RdB W W.heap.size A xs) := fun _ hW => (RdB.below h hW).more hW.size
theorem fu_Z {w : World} {v : Value} {x : TZ} (h : R_Zoned w w.heap.size v x) : Fu w (fun W => R_Zoned W W.heap.size v x) := fun _ hW => (h.below hW).more hW.size
theorem fu_X {w : World} {b : Nat} {cs : Array Value} {e : TypeId} (h : BoxN w b cs e) : Fu w (fun W => BoxN W b cs e) := fun _ hW => h.below hW h.lt
theorem zbt_small {x : TZ} (h : ZBt x) : Small_Zoned x := ⟨by have := h.2.1.1; omega, by have := h.2.2.1; omega⟩
theorem zbt_fit {x : TZ} (h : ZBt x) : Fit_Zoned x := ⟨by have := h.1; omega, fun z hz => by have := h.2.1.2 z hz; omega, fun t ht => (h.2.2.2 t ht).fits⟩
theorem pre_same (xs : List Int) (A1 A2 : Option Addr) (c1 c2 : Nat) (w : World) (hx : xs.length ≤ 1048576)
    (h1 : RdI w w.heap.size A1 xs) (h2 : RdI w w.heap.size A2 xs) :
    Calls Try.prog 35 #[.slice A1 xs.length c1, .slice A2 xs.length c2] w fun e w' => e = .returned (.bool true) ∧ Below w.heap.size w w' := by
  refine (f6ints_any xs xs A1 A2 c1 c2 w (by omega) (by omega) h1 h2).mono ?_
  rintro e w' ⟨rfl, b⟩
  exact ⟨by simp, b⟩
theorem pressed_ticks {x : TZ} {zone least fr ticks : Int} (h : (firstAbove x zone least fr ticks).2 = 0) (h2 : (firstAbove x zone least fr ticks).1 + ticks ≤ 10000) :
    (ticksAbove x zone least (firstAbove x zone least fr ticks).1).2 = 0 ∧ (ticksAbove x zone least ((firstAbove x zone least fr ticks).1 + ticks)).2 = 0 ∧
      (ticksAbove x zone least ((firstAbove x zone least fr ticks).1 + ticks)).1 - (ticksAbove x zone least (firstAbove x zone least fr ticks).1).1 = ticks := (first_ok h).2 h2
set_option maxRecDepth 100000 in
set_option maxHeartbeats 8000000 in
theorem lPressed_walk (bs : List Int) (v : Value) (w : World) (r : ∃ A c, v = .slice A bs.length c ∧ RdB w w.heap.size A bs) (nx : bs.length ≤ 9223372036854775807) (fx : ∀ z ∈ bs, 0 ≤ z ∧ z ≤ 255) :
    Calls Try.prog 10 #[v] w fun e w' => e = .returned (.bool true) ∧ Below w.heap.size w w' := by
  obtain ⟨A, c, rfl, r⟩ := r
  by_cases hlong : bs.length ≤ 4096
  case neg =>
    have HB := hide (preBig_any A bs.length c w hlong nx)
    clear hlong r nx fx
    go_enter Try.func10, Try.ntmps10
    go_wp2_with (go_at_call 23; refine (HB.out).mono ?_; rintro e w' ⟨rfl, rfl⟩)
    go_ret
    exact ⟨rfl, Below.refl _ _⟩
  have HB := hide (f6big_any A bs.length c w hlong)
  have HBO := hide (show BsOk bs from ⟨hlong, fx⟩)
  have FR := hide (fu_B r)
  have FB := hide (fu_below (Below.refl w.heap.size w))
  have HD := hide (drawFirstAbove_any bs A c w HBO.out FR.out.now)
  clear r nx fx hlong
  go_enter Try.func10, Try.ntmps10
  go_upto_region 4 with (first | (go_at_call 23; refine (HB.out).mono ?_; rintro e w' ⟨rfl, rfl⟩) | (go_at_call 101; (with_reducible refine (HD.out).mono ?_); rintro e w1 ⟨x1, A1, c1, B1, d1, zn, ls, fr, tk, rfl, ⟨⟨hzn0, hzn1⟩, ⟨hls0, hls1⟩, ⟨hfr0, hfr1⟩, htk0, htk1⟩, ri1, rc1, hbt1, b1⟩))
  have HS1 := hide (zbt_small hbt1)
  have HF1 := hide (zbt_fit hbt1)
  have hlen1 := hbt1.2.1.1
  have X1 := hide (BoxN.new w1 #[.int .i64 x1.z, .slice A1 x1.of.length c1, .slice B1 x1.ch.length d1] 114)
  have ba : Below w1.heap.size w1 (w1.alloc (.cells #[.int .i64 x1.z, .slice A1 x1.of.length c1, .slice B1 x1.ch.length d1] 114)) := (Below.refl _ _).alloc (Nat.le_refl _) _
  have HRZ := hide (show R_Zoned w1 w1.heap.size (.agg #[.int .i64 x1.z, .slice A1 x1.of.length c1, .slice B1 x1.ch.length d1]) x1 from ⟨A1, c1, B1, d1, rfl, ri1, rc1⟩)
  have HBA := hide (b1.trans (ba.mono b1.size))
  have HRI := hide (fu_I ri1)
  have HRN := hide (Fu.step (fu_Z HRZ.out) ba)
  replace HRI := hide (HRI.out.step ba)
  clear ri1 rc1 hbt1 b1 ba HRZ
  generalize w1.heap.size = g1 at *
  generalize w1.alloc (.cells #[.int .i64 x1.z, .slice A1 x1.of.length c1, .slice B1 x1.ch.length d1] 114) = w1a at *
  have FX1 := hide (fu_X X1.out)
  have FZ1 := HRN
  have FI1 := HRI
  clear X1 HRN HRI
  replace FB := hide (FB.out.step HBA.out)
  replace FR := hide (FR.out.step HBA.out)
  clear HBA
  clear HD HB
  have LF := hide (fun h : (firstAbove x1 zn ls fr tk).2 = 0 => (first_ok h).1)
  have LF2 := hide (fun h : (firstAbove x1 zn ls fr tk).2 = 0 => fun h2 : (firstAbove x1 zn ls fr tk).1 + tk ≤ 10000 => pressed_ticks h h2)
  have HP := hide fun W (hW : Below w1a.heap.size w1a W) => P_FirstAbove x1 (.agg #[.int .i64 x1.z, .slice A1 x1.of.length c1, .slice B1 x1.ch.length d1]) zn ls fr tk W HS1.out HF1.out (FZ1.out W hW) (by omega) (by omega) (by omega) (by omega) (by omega) (by omega) (by omega) (by omega)
  have HS := hide fun W (hW : Below w1a.heap.size w1a W) => S_FirstAbove x1 (.agg #[.int .i64 x1.z, .slice A1 x1.of.length c1, .slice B1 x1.ch.length d1]) zn ls fr tk W HS1.out HF1.out (FZ1.out W hW) (by omega) (by omega) (by omega) (by omega) (by omega) (by omega) (by omega) (by omega)
  have HZ := hide (Below.refl w1a.heap.size w1a)
  generalize (firstAbove x1 zn ls fr tk).1 = fn at *
  generalize (firstAbove x1 zn ls fr tk).2 = fk at *
  have y0 := FX1.out.now.cell 0
  have y1 := FX1.out.now.cell 1
  have y2 := FX1.out.now.cell 2
  go_upto_region 5 with (go_at_call 102; (with_reducible refine (HP.out _ HZ.out).mono ?_); rintro e w2 ⟨rfl, b2⟩)
  replace HZ := hide (HZ.out.trans (b2.mono HZ.out.size))
  replace FB := hide (FB.out.step b2)
  replace FR := hide (FR.out.step b2)
  replace FX1 := hide (FX1.out.step b2)
  replace FZ1 := hide (FZ1.out.step b2)
  replace FI1 := hide (FI1.out.step b2)
  clear b2
  clear HP
  clear y0 y1 y2
  have y0 := FX1.out.now.cell 0
  have y1 := FX1.out.now.cell 1
  have y2 := FX1.out.now.cell 2
  go_upto_region 6 with (go_at_call 103; (with_reducible refine (HS.out _ HZ.out).mono ?_); rintro e w3 ⟨rfl, b3⟩)
  replace HZ := hide (HZ.out.trans (b3.mono HZ.out.size))
  replace FB := hide (FB.out.step b3)
  replace FR := hide (FR.out.step b3)
  replace FX1 := hide (FX1.out.step b3)
  replace FZ1 := hide (FZ1.out.step b3)
  replace FI1 := hide (FI1.out.step b3)
  clear b3
  clear HS
  clear y0 y1 y2
  clear HZ
  have HD := hide (drawReadyAt_any bs A c w3 HBO.out FR.out.now)
  go_upto_region 7 with ((go_at_call 104; (with_reducible refine (HD.out).mono ?_); rintro e w4 ⟨x2, A2, c2, B2, d2, Aw, cw, way, fr2, rfl, riw, ⟨hwl, hwb⟩, ⟨hfr20, hfr21⟩, ri2, rc2, hbt2, b4⟩))
  have HS2 := hide (zbt_small hbt2)
  have HF2 := hide (zbt_fit hbt2)
  have hlen2 := hbt2.2.1.1
  have X2 := hide (BoxN.new w4 #[.int .i64 x2.z, .slice A2 x2.of.length c2, .slice B2 x2.ch.length d2] 114)
  have ba : Below w4.heap.size w4 (w4.alloc (.cells #[.int .i64 x2.z, .slice A2 x2.of.length c2, .slice B2 x2.ch.length d2] 114)) := (Below.refl _ _).alloc (Nat.le_refl _) _
  have HRZ := hide (show R_Zoned w4 w4.heap.size (.agg #[.int .i64 x2.z, .slice A2 x2.of.length c2, .slice B2 x2.ch.length d2]) x2 from ⟨A2, c2, B2, d2, rfl, ri2, rc2⟩)
  have HBA := hide (b4.trans (ba.mono b4.size))
  have HRI := hide (fu_I ri2)
  have HRN := hide (Fu.step (fu_Z HRZ.out) ba)
  replace HRI := hide (HRI.out.step ba)
  have FW := hide (Fu.step (fu_I riw) ba)
  have HWB := hide (show ∀ z ∈ way, -9223372036854775808 ≤ z ∧ z ≤ 9223372036854775807 from fun z hz => by have := hwb z hz; omega)
  clear riw hwb
  clear ri2 rc2 hbt2 b4 ba HRZ
  generalize w4.heap.size = g2 at *
  generalize w4.alloc (.cells #[.int .i64 x2.z, .slice A2 x2.of.length c2, .slice B2 x2.ch.length d2] 114) = w4a at *
  have FX2 := hide (fu_X X2.out)
  have FZ2 := HRN
  have FI2 := HRI
  clear X2 HRN HRI
  replace FB := hide (FB.out.step HBA.out)
  replace FR := hide (FR.out.step HBA.out)
  replace FX1 := hide (FX1.out.step HBA.out)
  replace FZ1 := hide (FZ1.out.step HBA.out)
  replace FI1 := hide (FI1.out.step HBA.out)
  clear HBA
  clear HD
  have LR := hide (fun h : (readyAt x2 way fr2).2 = 0 => ready_ok h)
  have HP := hide fun W (hW : Below w4a.heap.size w4a W) => P_ReadyAt x2 (.agg #[.int .i64 x2.z, .slice A2 x2.of.length c2, .slice B2 x2.ch.length d2]) way (.slice Aw way.length cw) fr2 W HS2.out HF2.out (FZ2.out W hW) (by omega) HWB.out ⟨Aw, cw, rfl, FW.out W hW⟩ (by omega) (by omega)
  have HS := hide fun W (hW : Below w4a.heap.size w4a W) => S_ReadyAt x2 (.agg #[.int .i64 x2.z, .slice A2 x2.of.length c2, .slice B2 x2.ch.length d2]) way (.slice Aw way.length cw) fr2 W HS2.out HF2.out (FZ2.out W hW) (by omega) HWB.out ⟨Aw, cw, rfl, FW.out W hW⟩ (by omega) (by omega)
  have HZ := hide (Below.refl w4a.heap.size w4a)
  generalize (readyAt x2 way fr2).1 = rn at *
  generalize (readyAt x2 way fr2).2 = rk at *
  have y0 := FX2.out.now.cell 0
  have y1 := FX2.out.now.cell 1
  have y2 := FX2.out.now.cell 2
  go_upto_region 8 with (go_at_call 105; (with_reducible refine (HP.out _ HZ.out).mono ?_); rintro e w5 ⟨rfl, b5⟩)
  replace HZ := hide (HZ.out.trans (b5.mono HZ.out.size))
  replace FB := hide (FB.out.step b5)
  replace FR := hide (FR.out.step b5)
  replace FX1 := hide (FX1.out.step b5)
  replace FZ1 := hide (FZ1.out.step b5)
  replace FI1 := hide (FI1.out.step b5)
  replace FX2 := hide (FX2.out.step b5)
  replace FZ2 := hide (FZ2.out.step b5)
  replace FI2 := hide (FI2.out.step b5)
  replace FW := hide (FW.out.step b5)
  clear b5
  clear HP
  clear y0 y1 y2
  have y0 := FX2.out.now.cell 0
  have y1 := FX2.out.now.cell 1
  have y2 := FX2.out.now.cell 2
  go_upto_region 9 with (go_at_call 106; (with_reducible refine (HS.out _ HZ.out).mono ?_); rintro e w6 ⟨rfl, b6⟩)
  replace HZ := hide (HZ.out.trans (b6.mono HZ.out.size))
  replace FB := hide (FB.out.step b6)
  replace FR := hide (FR.out.step b6)
  replace FX1 := hide (FX1.out.step b6)
  replace FZ1 := hide (FZ1.out.step b6)
  replace FI1 := hide (FI1.out.step b6)
  replace FX2 := hide (FX2.out.step b6)
  replace FZ2 := hide (FZ2.out.step b6)
  replace FI2 := hide (FI2.out.step b6)
  replace FW := hide (FW.out.step b6)
  clear b6
  clear HS
  clear y0 y1 y2
  clear HZ
  have HD := hide (drawPushedAt_any bs A c w6 HBO.out FR.out.now)
  go_upto_region 10 with ((go_at_call 107; (with_reducible refine (HD.out).mono ?_); rintro e w7 ⟨x3, A3, c3, B3, d3, tick, rfl, ⟨htick0, htick1⟩, ri3, rc3, hbt3, b7⟩))
  have HS3 := hide (zbt_small hbt3)
  have HF3 := hide (zbt_fit hbt3)
  have hlen3 := hbt3.2.1.1
  have X3 := hide (BoxN.new w7 #[.int .i64 x3.z, .slice A3 x3.of.length c3, .slice B3 x3.ch.length d3] 114)
  have ba : Below w7.heap.size w7 (w7.alloc (.cells #[.int .i64 x3.z, .slice A3 x3.of.length c3, .slice B3 x3.ch.length d3] 114)) := (Below.refl _ _).alloc (Nat.le_refl _) _
  have HRZ := hide (show R_Zoned w7 w7.heap.size (.agg #[.int .i64 x3.z, .slice A3 x3.of.length c3, .slice B3 x3.ch.length d3]) x3 from ⟨A3, c3, B3, d3, rfl, ri3, rc3⟩)
  have HBA := hide (b7.trans (ba.mono b7.size))
  have HRI := hide (fu_I ri3)
  have HRN := hide (Fu.step (fu_Z HRZ.out) ba)
  replace HRI := hide (HRI.out.step ba)
  clear ri3 rc3 hbt3 b7 ba HRZ
  generalize w7.heap.size = g3 at *
  generalize w7.alloc (.cells #[.int .i64 x3.z, .slice A3 x3.of.length c3, .slice B3 x3.ch.length d3] 114) = w7a at *
  have FX3 := hide (fu_X X3.out)
  have FZ3 := HRN
  have FI3 := HRI
  clear X3 HRN HRI
  replace FB := hide (FB.out.step HBA.out)
  replace FR := hide (FR.out.step HBA.out)
  replace FX1 := hide (FX1.out.step HBA.out)
  replace FZ1 := hide (FZ1.out.step HBA.out)
  replace FI1 := hide (FI1.out.step HBA.out)
  replace FX2 := hide (FX2.out.step HBA.out)
  replace FZ2 := hide (FZ2.out.step HBA.out)
  replace FI2 := hide (FI2.out.step HBA.out)
  replace FW := hide (FW.out.step HBA.out)
  clear HBA
  clear HD
  have HP := hide fun W (hW : Below w7a.heap.size w7a W) => P_PushedAt x3 (.agg #[.int .i64 x3.z, .slice A3 x3.of.length c3, .slice B3 x3.ch.length d3]) tick W HS3.out HF3.out (FZ3.out W hW) (by omega) (by omega)
  have HS := hide fun W (hW : Below w7a.heap.size w7a W) => S_PushedAt x3 (.agg #[.int .i64 x3.z, .slice A3 x3.of.length c3, .slice B3 x3.ch.length d3]) tick W HS3.out HF3.out (FZ3.out W hW) (by omega) (by omega)
  have HZ := hide (Below.refl w7a.heap.size w7a)
  generalize (pushedAt x3 tick).1 = pl at *
  generalize (pushedAt x3 tick).2 = pk at *
  have y0 := FX3.out.now.cell 0
  have y1 := FX3.out.now.cell 1
  have y2 := FX3.out.now.cell 2
  go_upto_region 11 with (go_at_call 108; (with_reducible refine (HP.out _ HZ.out).mono ?_); rintro e w8 ⟨v8, rfl, o8, b8⟩)
  replace HZ := hide (HZ.out.trans (b8.mono HZ.out.size))
  obtain ⟨A8, c8, rfl, r8⟩ := o8.r
  have Fp1 := hide (fu_I r8)
  have hpl := o8.small
  clear o8 r8
  replace FB := hide (FB.out.step b8)
  replace FR := hide (FR.out.step b8)
  replace FX1 := hide (FX1.out.step b8)
  replace FZ1 := hide (FZ1.out.step b8)
  replace FI1 := hide (FI1.out.step b8)
  replace FX2 := hide (FX2.out.step b8)
  replace FZ2 := hide (FZ2.out.step b8)
  replace FI2 := hide (FI2.out.step b8)
  replace FW := hide (FW.out.step b8)
  replace FX3 := hide (FX3.out.step b8)
  replace FZ3 := hide (FZ3.out.step b8)
  replace FI3 := hide (FI3.out.step b8)
  clear b8
  clear HP
  clear y0 y1 y2
  have y0 := FX3.out.now.cell 0
  have y1 := FX3.out.now.cell 1
  have y2 := FX3.out.now.cell 2
  go_upto_region 12 with (go_at_call 109; (with_reducible refine (HS.out _ HZ.out).mono ?_); rintro e w9 ⟨v9, rfl, o9, b9⟩)
  replace HZ := hide (HZ.out.trans (b9.mono HZ.out.size))
  obtain ⟨A9, c9, rfl, r9⟩ := o9.r
  have Fp2 := hide (fu_I r9)
  clear o9 r9
  replace FB := hide (FB.out.step b9)
  replace FR := hide (FR.out.step b9)
  replace FX1 := hide (FX1.out.step b9)
  replace FZ1 := hide (FZ1.out.step b9)
  replace FI1 := hide (FI1.out.step b9)
  replace FX2 := hide (FX2.out.step b9)
  replace FZ2 := hide (FZ2.out.step b9)
  replace FI2 := hide (FI2.out.step b9)
  replace FW := hide (FW.out.step b9)
  replace FX3 := hide (FX3.out.step b9)
  replace FZ3 := hide (FZ3.out.step b9)
  replace FI3 := hide (FI3.out.step b9)
  replace Fp1 := hide (Fp1.out.step b9)
  clear b9
  clear HS
  clear y0 y1 y2
  clear HZ
  clear FX3 FZ3 FI3
  clear HS3 HF3 hlen3
  have HD := hide (drawTubesOfZone_any bs A c w9 HBO.out FR.out.now)
  go_upto_region 13 with ((go_at_call 110; (with_reducible refine (HD.out).mono ?_); rintro e w10 ⟨x4, A4, c4, B4, d4, k, rfl, ⟨hk0, hk1⟩, ri4, rc4, hbt4, b10⟩))
  have HS4 := hide (zbt_small hbt4)
  have HF4 := hide (zbt_fit hbt4)
  have hlen4 := hbt4.2.1.1
  have X4 := hide (BoxN.new w10 #[.int .i64 x4.z, .slice A4 x4.of.length c4, .slice B4 x4.ch.length d4] 114)
  have ba : Below w10.heap.size w10 (w10.alloc (.cells #[.int .i64 x4.z, .slice A4 x4.of.length c4, .slice B4 x4.ch.length d4] 114)) := (Below.refl _ _).alloc (Nat.le_refl _) _
  have HRZ := hide (show R_Zoned w10 w10.heap.size (.agg #[.int .i64 x4.z, .slice A4 x4.of.length c4, .slice B4 x4.ch.length d4]) x4 from ⟨A4, c4, B4, d4, rfl, ri4, rc4⟩)
  have HBA := hide (b10.trans (ba.mono b10.size))
  have HRI := hide (fu_I ri4)
  have HRN := hide (Fu.step (fu_Z HRZ.out) ba)
  replace HRI := hide (HRI.out.step ba)
  clear ri4 rc4 hbt4 b10 ba HRZ
  generalize w10.heap.size = g4 at *
  generalize w10.alloc (.cells #[.int .i64 x4.z, .slice A4 x4.of.length c4, .slice B4 x4.ch.length d4] 114) = w10a at *
  have FX4 := hide (fu_X X4.out)
  have FZ4 := HRN
  have FI4 := HRI
  clear X4 HRN HRI
  replace FB := hide (FB.out.step HBA.out)
  replace FR := hide (FR.out.step HBA.out)
  replace FX1 := hide (FX1.out.step HBA.out)
  replace FZ1 := hide (FZ1.out.step HBA.out)
  replace FI1 := hide (FI1.out.step HBA.out)
  replace FX2 := hide (FX2.out.step HBA.out)
  replace FZ2 := hide (FZ2.out.step HBA.out)
  replace FI2 := hide (FI2.out.step HBA.out)
  replace FW := hide (FW.out.step HBA.out)
  replace Fp1 := hide (Fp1.out.step HBA.out)
  replace Fp2 := hide (Fp2.out.step HBA.out)
  clear HBA
  clear HD
  have LT := hide (fun (z : Int) (h : z ∈ (tubesOfZone x4 k).1) => own_zone h)
  have HP := hide fun W (hW : Below w10a.heap.size w10a W) => P_TubesOfZone x4 (.agg #[.int .i64 x4.z, .slice A4 x4.of.length c4, .slice B4 x4.ch.length d4]) k W HS4.out HF4.out (FZ4.out W hW) (by omega) (by omega)
  have HS := hide fun W (hW : Below w10a.heap.size w10a W) => S_TubesOfZone x4 (.agg #[.int .i64 x4.z, .slice A4 x4.of.length c4, .slice B4 x4.ch.length d4]) k W HS4.out HF4.out (FZ4.out W hW) (by omega) (by omega)
  have HZ := hide (Below.refl w10a.heap.size w10a)
  generalize (tubesOfZone x4 k).1 = tl at *
  generalize (tubesOfZone x4 k).2 = tq at *
  have y0 := FX4.out.now.cell 0
  have y1 := FX4.out.now.cell 1
  have y2 := FX4.out.now.cell 2
  go_upto_region 14 with (go_at_call 111; (with_reducible refine (HP.out _ HZ.out).mono ?_); rintro e w11 ⟨v11, rfl, o11, b11⟩)
  replace HZ := hide (HZ.out.trans (b11.mono HZ.out.size))
  obtain ⟨A11, c11, rfl, r11⟩ := o11.r
  have Ft1 := hide (fu_I r11)
  have htl := o11.small
  clear o11 r11
  replace FB := hide (FB.out.step b11)
  replace FR := hide (FR.out.step b11)
  replace FX1 := hide (FX1.out.step b11)
  replace FZ1 := hide (FZ1.out.step b11)
  replace FI1 := hide (FI1.out.step b11)
  replace FX2 := hide (FX2.out.step b11)
  replace FZ2 := hide (FZ2.out.step b11)
  replace FI2 := hide (FI2.out.step b11)
  replace FW := hide (FW.out.step b11)
  replace Fp1 := hide (Fp1.out.step b11)
  replace Fp2 := hide (Fp2.out.step b11)
  replace FX4 := hide (FX4.out.step b11)
  replace FZ4 := hide (FZ4.out.step b11)
  replace FI4 := hide (FI4.out.step b11)
  clear b11
  clear HP
  clear y0 y1 y2
  have y0 := FX4.out.now.cell 0
  have y1 := FX4.out.now.cell 1
  have y2 := FX4.out.now.cell 2
  go_upto_region 15 with (go_at_call 112; (with_reducible refine (HS.out _ HZ.out).mono ?_); rintro e w12 ⟨v12, rfl, o12, b12⟩)
  replace HZ := hide (HZ.out.trans (b12.mono HZ.out.size))
  obtain ⟨A12, c12, rfl, r12⟩ := o12.r
  have Ft2 := hide (fu_I r12)
  clear o12 r12
  replace FB := hide (FB.out.step b12)
  replace FR := hide (FR.out.step b12)
  replace FX1 := hide (FX1.out.step b12)
  replace FZ1 := hide (FZ1.out.step b12)
  replace FI1 := hide (FI1.out.step b12)
  replace FX2 := hide (FX2.out.step b12)
  replace FZ2 := hide (FZ2.out.step b12)
  replace FI2 := hide (FI2.out.step b12)
  replace FW := hide (FW.out.step b12)
  replace Fp1 := hide (Fp1.out.step b12)
  replace Fp2 := hide (Fp2.out.step b12)
  replace FX4 := hide (FX4.out.step b12)
  replace FZ4 := hide (FZ4.out.step b12)
  replace FI4 := hide (FI4.out.step b12)
  replace Ft1 := hide (Ft1.out.step b12)
  clear b12
  clear HS
  clear y0 y1 y2
  clear HZ
  clear FZ4
  clear HS4 HF4
  have HD := hide (drawZonesCrossed_any bs A c w12 HBO.out FR.out.now)
  go_upto_region 16 with ((go_at_call 113; (with_reducible refine (HD.out).mono ?_); rintro e w13 ⟨x5, A5, c5, B5, d5, Au, cu, wu, rfl, riw, ⟨hul, hub⟩, ri5, rc5, hbt5, b13⟩))
  have HS5 := hide (zbt_small hbt5)
  have HF5 := hide (zbt_fit hbt5)
  have hlen5 := hbt5.2.1.1
  have X5 := hide (BoxN.new w13 #[.int .i64 x5.z, .slice A5 x5.of.length c5, .slice B5 x5.ch.length d5] 114)
  have ba : Below w13.heap.size w13 (w13.alloc (.cells #[.int .i64 x5.z, .slice A5 x5.of.length c5, .slice B5 x5.ch.length d5] 114)) := (Below.refl _ _).alloc (Nat.le_refl _) _
  have HRZ := hide (show R_Zoned w13 w13.heap.size (.agg #[.int .i64 x5.z, .slice A5 x5.of.length c5, .slice B5 x5.ch.length d5]) x5 from ⟨A5, c5, B5, d5, rfl, ri5, rc5⟩)
  have HBA := hide (b13.trans (ba.mono b13.size))
  have HRI := hide (fu_I ri5)
  have HRN := hide (Fu.step (fu_Z HRZ.out) ba)
  replace HRI := hide (HRI.out.step ba)
  have FU := hide (Fu.step (fu_I riw) ba)
  have HUB := hide (show ∀ z ∈ wu, -9223372036854775808 ≤ z ∧ z ≤ 9223372036854775807 from fun z hz => by have := hub z hz; omega)
  clear riw hub
  clear ri5 rc5 hbt5 b13 ba HRZ
  generalize w13.heap.size = g5 at *
  generalize w13.alloc (.cells #[.int .i64 x5.z, .slice A5 x5.of.length c5, .slice B5 x5.ch.length d5] 114) = w13a at *
  have FX5 := hide (fu_X X5.out)
  have FZ5 := HRN
  have FI5 := HRI
  clear X5 HRN HRI
  replace FB := hide (FB.out.step HBA.out)
  replace FR := hide (FR.out.step HBA.out)
  replace FX1 := hide (FX1.out.step HBA.out)
  replace FZ1 := hide (FZ1.out.step HBA.out)
  replace FI1 := hide (FI1.out.step HBA.out)
  replace FX2 := hide (FX2.out.step HBA.out)
  replace FZ2 := hide (FZ2.out.step HBA.out)
  replace FI2 := hide (FI2.out.step HBA.out)
  replace FW := hide (FW.out.step HBA.out)
  replace Fp1 := hide (Fp1.out.step HBA.out)
  replace Fp2 := hide (Fp2.out.step HBA.out)
  replace FX4 := hide (FX4.out.step HBA.out)
  replace FI4 := hide (FI4.out.step HBA.out)
  replace Ft1 := hide (Ft1.out.step HBA.out)
  replace Ft2 := hide (Ft2.out.step HBA.out)
  clear HBA
  clear HD
  have HP := hide fun W (hW : Below w13a.heap.size w13a W) => P_ZonesCrossed x5 (.agg #[.int .i64 x5.z, .slice A5 x5.of.length c5, .slice B5 x5.ch.length d5]) wu (.slice Au wu.length cu) W HS5.out HF5.out (FZ5.out W hW) (by omega) HUB.out ⟨Au, cu, rfl, FU.out W hW⟩
  have HS := hide fun W (hW : Below w13a.heap.size w13a W) => S_ZonesCrossed x5 (.agg #[.int .i64 x5.z, .slice A5 x5.of.length c5, .slice B5 x5.ch.length d5]) wu (.slice Au wu.length cu) W HS5.out HF5.out (FZ5.out W hW) (by omega) HUB.out ⟨Au, cu, rfl, FU.out W hW⟩
  have HZ := hide (Below.refl w13a.heap.size w13a)
  generalize (zonesCrossed x5 wu).1 = zx at *
  generalize (zonesCrossed x5 wu).2 = zk at *
  have y0 := FX5.out.now.cell 0
  have y1 := FX5.out.now.cell 1
  have y2 := FX5.out.now.cell 2
  go_upto_region 17 with (go_at_call 114; (with_reducible refine (HP.out _ HZ.out).mono ?_); rintro e w14 ⟨rfl, b14⟩)
  replace HZ := hide (HZ.out.trans (b14.mono HZ.out.size))
  replace FB := hide (FB.out.step b14)
  replace FR := hide (FR.out.step b14)
  replace FX1 := hide (FX1.out.step b14)
  replace FZ1 := hide (FZ1.out.step b14)
  replace FI1 := hide (FI1.out.step b14)
  replace FX2 := hide (FX2.out.step b14)
  replace FZ2 := hide (FZ2.out.step b14)
  replace FI2 := hide (FI2.out.step b14)
  replace FW := hide (FW.out.step b14)
  replace Fp1 := hide (Fp1.out.step b14)
  replace Fp2 := hide (Fp2.out.step b14)
  replace FX4 := hide (FX4.out.step b14)
  replace FI4 := hide (FI4.out.step b14)
  replace Ft1 := hide (Ft1.out.step b14)
  replace Ft2 := hide (Ft2.out.step b14)
  replace FX5 := hide (FX5.out.step b14)
  replace FZ5 := hide (FZ5.out.step b14)
  replace FI5 := hide (FI5.out.step b14)
  replace FU := hide (FU.out.step b14)
  clear b14
  clear HP
  clear y0 y1 y2
  have y0 := FX5.out.now.cell 0
  have y1 := FX5.out.now.cell 1
  have y2 := FX5.out.now.cell 2
  go_upto_region 18 with (go_at_call 115; (with_reducible refine (HS.out _ HZ.out).mono ?_); rintro e w15 ⟨rfl, b15⟩)
  replace HZ := hide (HZ.out.trans (b15.mono HZ.out.size))
  replace FB := hide (FB.out.step b15)
  replace FR := hide (FR.out.step b15)
  replace FX1 := hide (FX1.out.step b15)
  replace FZ1 := hide (FZ1.out.step b15)
  replace FI1 := hide (FI1.out.step b15)
  replace FX2 := hide (FX2.out.step b15)
  replace FZ2 := hide (FZ2.out.step b15)
  replace FI2 := hide (FI2.out.step b15)
  replace FW := hide (FW.out.step b15)
  replace Fp1 := hide (Fp1.out.step b15)
  replace Fp2 := hide (Fp2.out.step b15)
  replace FX4 := hide (FX4.out.step b15)
  replace FI4 := hide (FI4.out.step b15)
  replace Ft1 := hide (Ft1.out.step b15)
  replace Ft2 := hide (Ft2.out.step b15)
  replace FX5 := hide (FX5.out.step b15)
  replace FZ5 := hide (FZ5.out.step b15)
  replace FI5 := hide (FI5.out.step b15)
  replace FU := hide (FU.out.step b15)
  clear b15
  clear HS
  clear y0 y1 y2
  clear HZ
  clear FX5 FZ5 FI5 FU FR
  clear HS5 HF5 hlen5 HUB HBO
  have Q1 := hide fun W (hW : Below w15.heap.size w15 W) => pre_same pl A8 A9 c8 c9 W hpl (Fp1.out W hW) (Fp2.out W hW)
  have Q2 := hide fun W (hW : Below w15.heap.size w15 W) => pre_same tl A11 A12 c11 c12 W htl (Ft1.out W hW) (Ft2.out W hW)
  have Z15 := hide (Below.refl w15.heap.size w15)
  go_cut [193] (fun cv wx => cv = .bool false ∧ Hid (Below w15.heap.size w15 wx))
  case first =>
    go_wp2_with (first | (go_at_call 35; (with_reducible refine (Q1.out _ Z15.out).mono ?_); rintro e w16 ⟨rfl, b16⟩; have Z16 := hide (Z15.out.trans (b16.mono Z15.out.size)); clear b16) | (go_at_call 35; (with_reducible refine (Q2.out _ Z16.out).mono ?_); rintro e w17 ⟨rfl, b17⟩; have Z17 := hide (Z16.out.trans (b17.mono Z16.out.size)); clear b17))
    go_meet
    exact ⟨by simp, Z17.out⟩
  case rest =>
    obtain ⟨rfl, Z17⟩ := hcut
    clear Q1 Q2 Z15 Fp1 Fp2 Ft1
    go_wp2_with fail
    go_loopg [37] tl.length (fun g i wr => ∃ j : Nat, j ≤ tl.length ∧ Hid (g = tl.length - j) ∧ i = .int .i64 j ∧ Hid (Below w15.heap.size w15 wr))
    case atStart => exact ⟨0, by omega, by simp [Hid], rfl, Z17⟩
    case round =>
      obtain ⟨j, hj, hgj, rfl, HBR⟩ := hrel
      clear Z17
      by_cases hjt : j < tl.length
      · obtain ⟨b2, o2, z, rfl, _, hz, hc1⟩ := (Ft2.out wr HBR.out).at_ (k := j) hjt
        obtain ⟨i, rfl, hi⟩ := LT.out z (List.mem_of_getElem? hz)
        have hil : i < x4.of.length := lt_of_get hi
        have hil2 : (i : Int) < (x4.of.length : Int) := by omega
        obtain ⟨b3, o3, z3, rfl, _, hz3, hc3⟩ := (FI4.out wr HBR.out).at_ hil
        obtain rfl := Option.some.inj (hi.symm.trans hz3)
        have y1 := (FX4.out wr HBR.out).cell 1
        have hkk : (k != k) = false := by simp
        clear hz hi hz3
        as_aux_lemma =>
          go_wp2_with fail
          go_quiet (fail)
          go_wp2_with fail
          go_roundg (tl.length - (j + 1))
          case measure => have := hgj.out; omega
          case rel => exact ⟨j + 1, by omega, rfl, by go_num, bdn HBR.out _⟩
      · replace Z17 := HBR
        obtain rfl : j = tl.length := by omega
        clear HBR hgj hj hjt LT Ft2 FI4 FX4
        go_upto_region 25 with fail
        go_upto_if 211 with fail
        go_cut [] (fun wx => Hid (Below w15.heap.size w15 wx))
        case first =>
          by_cases hrk : rk = 0
          · obtain ⟨_, ⟨_, q1, q2⟩, q3, q4⟩ := LR.out hrk
            have hql := pushed_len x2 rn
            have HPS := hide (S_PushedAt x2 (.agg #[.int .i64 x2.z, .slice A2 x2.of.length c2, .slice B2 x2.ch.length d2]) rn wr HS2.out HF2.out (FZ2.out wr Z17.out) (by omega) (by omega))
            rw [q3] at HPS
            have Q4 := hide q4
            generalize (pushedAt x2 rn).1 = nl at *
            have hrf : decide (rn < fr2) = false := decide_eq_false (by omega)
            clear q3 q4
            subst hrk
            have y0 := (FX2.out wr Z17.out).cell 0
            have y1 := (FX2.out wr Z17.out).cell 1
            have y2 := (FX2.out wr Z17.out).cell 2
            go_upto_region 27 with (go_at_call 109; (with_reducible refine (HPS.out).mono ?_); rintro e w18 ⟨v18, rfl, o18, b18⟩)
            obtain ⟨A18, c18, rfl, r18⟩ := o18.r
            have FNL := hide (fu_I r18)
            have FWW := hide (Fu.step (fun W hW => FW.out W (Z17.out.trans (hW.mono Z17.out.size))) b18)
            have Z18 := hide (Z17.out.trans (b18.mono Z17.out.size))
            clear o18 r18 b18 HPS y0 y1 y2
            go_wp2_with fail
            go_loopg [40] way.length (fun g i wr2 => ∃ j : Nat, j ≤ way.length ∧ Hid (g = way.length - j) ∧ i = .int .i64 j ∧ Hid (Below w18.heap.size w18 wr2))
            case atStart => exact ⟨0, by omega, by simp [Hid], rfl, hide (Below.refl _ _)⟩
            case round =>
              obtain ⟨j, hj, hgj, rfl, HBR⟩ := hrel
              by_cases hjt : j < way.length
              · obtain ⟨b2, o2, z, rfl, _, hz, hc1⟩ := (FWW.out _ HBR.out).at_ (k := j) hjt
                have hh := f6has_any nl z A18 c18 _ (by omega) (FNL.out _ HBR.out)
                rw [Q4.out z (List.mem_of_getElem? hz)] at hh
                have HH := hide hh
                clear hz hh
                as_aux_lemma =>
                  go_wp2_with (go_at_call 116; (with_reducible refine (HH.out).mono ?_); rintro e w' ⟨rfl, rfl⟩)
                  go_roundg (way.length - (j + 1))
                  case measure => have := hgj.out; omega
                  case rel => exact ⟨j + 1, by omega, rfl, by go_num, HBR⟩
              · go_wp2_with fail
                go_meet
                exact Z18.out.trans (HBR.out.mono Z18.out.size)
          · have hB : (rk == 0) = false := by simp [hrk]
            have HRK := hide hrk
            clear hrk
            go_wp2_with fail
            go_meet
            exact Z17.out
        case rest =>
          have Z19 : Hid (Below w15.heap.size w15 wc) := hcut
          clear Z17 hcut LR FW FX2 FZ2
          by_cases hfk : fk = 0
          case neg =>
            have hB : (fk != 0) = true := by simp [hfk]
            have HFK := hide hfk
            clear hfk
            go_wp2_with fail
            go_ret
            exact ⟨rfl, FB.out _ Z19.out⟩
          obtain ⟨q1, q2, q3, q4, q5⟩ := LF.out hfk
          by_cases hsum : fn + tk ≤ 10000
          case neg =>
            have hB : decide (10000 < fn + tk) = true := decide_eq_true (by omega)
            clear LF LF2
            subst hfk
            go_wp2_with fail
            go_ret
            exact ⟨rfl, FB.out _ Z19.out⟩
          have hB : decide (10000 < fn + tk) = false := decide_eq_false (by omega)
          have hge : decide (fn ≥ fr) = true := decide_eq_true (by omega)
          have hge2 : decide (fr ≤ fn) = true := decide_eq_true (by omega)
          have hge3 : decide (fn < fr) = false := decide_eq_false (by omega)
          obtain ⟨p1, p2, p3⟩ := LF2.out hfk hsum
          have HT1 := hide fun W (hW : Below w15.heap.size w15 W) => P_TicksAbove x1 (.agg #[.int .i64 x1.z, .slice A1 x1.of.length c1, .slice B1 x1.ch.length d1]) zn ls fn W HS1.out HF1.out (FZ1.out W hW) (by omega) (by omega) (by omega) (by omega) (by omega) (by omega)
          have HT2 := hide fun W (hW : Below w15.heap.size w15 W) => P_TicksAbove x1 (.agg #[.int .i64 x1.z, .slice A1 x1.of.length c1, .slice B1 x1.ch.length d1]) zn ls (fn + tk) W HS1.out HF1.out (FZ1.out W hW) (by omega) (by omega) (by omega) (by omega) (by omega) (by omega)
          rw [p1] at HT1
          rw [p2] at HT2
          generalize (ticksAbove x1 zn ls (fn + tk)).1 = ta at *
          generalize (ticksAbove x1 zn ls fn).1 = tb at *
          clear p1 p2 LF LF2
          subst hfk
          have y0 := (FX1.out wc Z19.out).cell 0
          have y1 := (FX1.out wc Z19.out).cell 1
          have y2 := (FX1.out wc Z19.out).cell 2
          go_upto_region 37 with (go_at_call 117; (with_reducible refine (HT1.out _ Z19.out).mono ?_); rintro e w20 ⟨rfl, b20⟩)
          have Z20 := hide (Z19.out.trans (b20.mono Z19.out.size))
          clear b20 y0 y1 y2 HT1
          have y0 := (FX1.out w20 Z20.out).cell 0
          have y1 := (FX1.out w20 Z20.out).cell 1
          have y2 := (FX1.out w20 Z20.out).cell 2
          go_upto_region 38 with (go_at_call 117; (with_reducible refine (HT2.out _ Z20.out).mono ?_); rintro e w21 ⟨rfl, b21⟩)
          have Z21 := hide (Z20.out.trans (b21.mono Z20.out.size))
          clear b21 y0 y1 y2 HT2
          have hsub : ((ta - tb) == tk) = true := by simp [p3]
          go_wp2_with fail
          go_ret
          exact ⟨by simp, FB.out _ Z21.out⟩
theorem fnPressed_own : ownKnob Try.prog.godebug = none := by kernel_rfl
theorem fnPressed_laid : laidOutB Try.prog = true := by kernel_rfl
set_option maxRecDepth 100000 in
theorem fnPressed_lifted (os : Os) (started : os.Started) (H : Type) (enc : TypeId × Value → H) :
    ReturnsInHanded {} Try.checked os 10 .any (Rows.fnPressedSpec.pre6 enc Try.prog Try.f10 Rows.fnPressedRow.domain false) (Rows.fnPressedSpec.post enc Try.prog Try.f10 false true false false) := by
  refine returnsInHanded_of_change (C := Try.checked) fnPressed_own started (by kernel_rfl) Try.func10
    (ChangeSpec.witness6 (enc := enc) (C := Try.checked) false ⟨#[], #[.slice none 0 0], []⟩ 8 (by kernel_rfl) (by kernel_rfl) (by kernel_rfl) (by kernel_rfl)) ?_
  intro W base args ds gs before hval0 hW hcnd _
  have hval : ∀ (j : Nat) t v, Try.f10.params[j]? = some t → args[j]? = some v → Value.okWide Try.prog W .any base t v := hval0
  have hW' := hW
  obtain ⟨p, q, hA0, hV, rfl, hfz, hnd⟩ := hW
  have hA : DataW.TrodAll enc Try.prog W 0 (fun _ => true) true Try.f10.params.toList args.toList ds p := hA0
  rw [Try.params10] at hA hval
  obtain ⟨v0, vs0, d0, ds0, p0, q0, hargs, rfl, rfl, h0, r0⟩ := trodAll_cons hA
  obtain ⟨rfl, rfl, rfl⟩ := trodAll_nil r0
  obtain rfl : args = #[v0] := by cases args; simp_all
  obtain ⟨rfl, rfl⟩ := trodVars_none hV
  have k0 := h0
  have lt0 : ∀ x ∈ p0, x.block < W.heap.size := by obtain ⟨m, hm⟩ := k0; exact DataW.trod_lt m _ _ _ hm
  obtain ⟨A0, c0, zs0, rfl, rd0, len0, bd0⟩ := open_B Try.underlying36 Try.underlying5 (by kernel_rfl) (hval 0 36 v0 rfl rfl) h0
  clear hA0 hval0
  refine (lPressed_walk zs0 (.slice A0 zs0.length c0) W ⟨A0, c0, rfl, rd0⟩ len0 bd0).mono fun e W' ⟨he, bel⟩ => ?_
  subst he
  exact ⟨_, rfl, _, _, _, [], _, [], hW', trodAll_mk1 (shut_bool Try.underlying4 _), (trodAll_cons_mk (Below.trod fnPressed_laid (by kernel_rfl) (of_decide_eq_true (by kernel_rfl)) k0 bel lt0) trodAll_mk0), rfl, bel.frame _, fun h => by cases h⟩
theorem fnPressed_holds : Rows.FnPressedSaid :=
  OpenClaim.holds_of_wide 10 Try.f10 rfl rfl rfl rfl rfl rfl rfl ⟨rfl, rfl, rfl, rfl, rfl⟩ rfl rfl rfl rfl rfl (by kernel_rfl) Try.func10 (by kernel_rfl)
    (of_decide_eq_true (by kernel_rfl)) (by unfold Func.isWrapper; first | (rw [if_pos (by decide +kernel)]; kernel_rfl) | (rw [if_neg (by decide +kernel)]; exact ⟨rfl, rfl⟩))
    (fun os started H enc _ => fnPressed_lifted os started H enc)
#print axioms fnPressed_holds
end Go.Proofs.Ytklfjekpeoigoaa
