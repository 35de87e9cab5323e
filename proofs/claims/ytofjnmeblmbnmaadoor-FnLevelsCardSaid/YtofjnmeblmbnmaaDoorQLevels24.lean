/-
  The law FnLevels returns true for every input. Condition: the listed tables of the library lie as their initialisers lay them.
-/
import Derived.Test.YtofjnmeblmbnmaaDoorQLevels5
import Derived.Test.YtofjnmeblmbnmaaDoorQLevels15
import Derived.Test.YtofjnmeblmbnmaaDoorQLevels16
import Derived.Test.YtofjnmeblmbnmaaDoorQLevels17
import Derived.Test.YtofjnmeblmbnmaaDoorQLevels20
import Derived.Test.YtofjnmeblmbnmaaDoorQLevels21
import Derived.Test.YtofjnmeblmbnmaaDoorQLevels22
import Derived.Test.YtofjnmeblmbnmaaDoorQLevels23
import Derived.Test.YtofjnmeblmbnmaaDoorQLevels8
import Derived.Test.YtofjnmeblmbnmaaDoorQLevels1
import Derived.Test.YtofjnmeblmbnmaaDoorRows
import Derived.Test.YtofjnmeblmbnmaaDoorCards
import Derived.Test.YtofjnmeblmbnmaaDoorTie
import Derived.Test.YtofjnmeblmbnmaaDoorQLevels6
import Derived.ProofKit
import Derived.Deep.DeepCutAuto
import Derived.Deep.RegionHeld3
import Derived.OpenShut
import Derived.SevenTiedAt
namespace Go.Proofs.YtofjnmeblmbnmaaDoor
open Go.ChangeShapes Go.WideShapes Go.ChangeAt Go.RowKit
theorem llv_tab {w : World} (h : laidMet Tryd.prog Rows.fnLevelsRow.laid w) : TabW w :=
  tabW_of (laid_reads h (by
    have e : (Lib.tabData .u64 Lib.pow10Tab : DataW Unit) = Rows.laid_internal_strconv_uint64pow10 := by kernel_rfl
    rw [e]
    simp [Rows.fnLevelsRow]))
/-- What holds in all worlds from here on. -/
def Fu (w : World) (P : World → Prop) : Prop := ∀ W, Below w.heap.size w W → P W
theorem Fu.step {w w2 : World} {P : World → Prop} (h : Fu w P) (b : Below w.heap.size w w2) : Fu w2 P := fun W hW => h W (b.trans (hW.mono b.size))
theorem Fu.now {w : World} {P : World → Prop} (h : Fu w P) : P w := h w (Below.refl _ _)
theorem fu_below {w0 w : World} (b : Below w0.heap.size w0 w) : Fu w (fun W => Below w0.heap.size w0 W) := fun _ hW => b.trans (hW.mono b.size)
theorem fu_I {w : World} {A : Option Addr} {xs : List Int} (h : RdI w w.heap.size A xs) : Fu w (fun W => RdI W W.heap.size A xs) := fun _ hW => (RdI.below h hW).more hW.size
theorem fu_B {w : World} {A : Option Addr} {xs : List Int} (h : RdB w w.heap.size A xs) : Fu w (fun W => RdB W W.heap.size A xs) := fun _ hW => (RdB.below h hW).more hW.size
theorem fu_Z {w : World} {v : Value} {x : TZ} (h : R_Zoned w w.heap.size v x) : Fu w (fun W => R_Zoned W W.heap.size v x) := fun _ hW => (h.below hW).more hW.size
theorem fu_X {w : World} {b : Nat} {cs : Array Value} {e : TypeId} (h : BoxN w b cs e) : Fu w (fun W => BoxN W b cs e) := fun _ hW => h.below hW h.lt
theorem fu_T {w : World} (h : TabW w) : Fu w TabW := fun _ hW => h.below hW
theorem zbt_small {x : TZ} (h : ZBt x) : Small_Zoned x := ⟨by have := h.2.1.1; omega, by have := h.2.2.1; omega⟩
theorem zbt_fit {x : TZ} (h : ZBt x) : Fit_Zoned x := ⟨by have := h.1; omega, fun z hz => by have := h.2.1.2 z hz; omega, fun t ht => (h.2.2.2 t ht).fits⟩
theorem sameZ_self (x : TZ) : sameZ x x = true := by simp [sameZ]
theorem addChange_fit {x : TZ} {y : T3} (hx : Fit_Zoned x) (hy : y.Fits) : Fit_Zoned (addChange x y).1 := by
  have h0 : Fit_Zoned ⟨0, [], []⟩ := by
    refine ⟨⟨by decide, by decide⟩, fun z hz => ?_, fun z hz => ?_⟩ <;> cases hz
  unfold addChange
  split
  · exact h0
  split
  · exact h0
  split
  · exact h0
  split
  · exact h0
  refine ⟨hx.1, hx.2.1, fun t ht => ?_⟩
  have ht2 : t ∈ insC x.ch y := ht
  unfold insC at ht2
  rcases List.mem_append.1 ht2 with h | h
  · exact hx.2.2 t (List.mem_of_mem_take h)
  · rcases List.mem_cons.1 h with rfl | h
    · exact hy
    · exact hx.2.2 t (List.mem_of_mem_drop h)
theorem lev_same (xs : List Int) (A1 A2 : Option Addr) (c1 c2 : Nat) (w : World) (hx : xs.length ≤ 1048576)
    (h1 : RdI w w.heap.size A1 xs) (h2 : RdI w w.heap.size A2 xs) :
    Calls Tryd.prog 38 #[.slice A1 xs.length c1, .slice A2 xs.length c2] w fun e w' => e = .returned (.bool true) ∧ Below w.heap.size w w' := by
  refine (f6ints_any xs xs A1 A2 c1 c2 w (by omega) (by omega) h1 h2).mono ?_
  rintro e w' ⟨rfl, b⟩
  exact ⟨by simp, b⟩
theorem levBig_any (A : Option Addr) (n c : Nat) (w : World) (hn : ¬ n ≤ 4096) (hn2 : n ≤ 9223372036854775807) :
    Calls Tryd.prog 6 #[.slice A n c] w fun e w' => e = .returned (.bool true) ∧ w = w' := by
  have hD : decide ((4096 : Int) < (n : Int)) = true := decide_eq_true (by omega)
  go_enter Tryd.func6, Tryd.ntmps6
  go_wp2_with fail
  go_ret
  exact ⟨rfl, rfl⟩
/-- What the law's loop leans on. -/
structure TickLaw (ls e n cd : Int) (f g : Int → Int) (h : Int → Int × Int) : Prop where
  e0 : cd = 0 → 0 ≤ e ∧ e ≤ 10000
  n0 : cd = 0 → n = cntAt (fun t => geB ls (f t)) e.toNat
  k0 : cd = 0 → ∀ k, 0 ≤ k → k ≤ e → h k = (f k, 0)
theorem tickLaw (x : TZ) (zn ls e : Int) : TickLaw ls e (ticksAbove x zn ls e).1 (ticksAbove x zn ls e).2 (lvl x.ch zn) id (levelAt x zn) :=
  ⟨fun h => (ticks_ok h).1, fun h => (ticks_ok h).2.1, fun h => (ticks_ok h).2.2⟩
set_option maxRecDepth 100000 in
set_option maxHeartbeats 16000000 in
theorem lLevels_walk (bs : List Int) (v : Value) (w : World) (r : ∃ A c, v = .slice A bs.length c ∧ RdB w w.heap.size A bs) (nx : bs.length ≤ 9223372036854775807) (fx : ∀ z ∈ bs, 0 ≤ z ∧ z ≤ 255) (hL : laidMet Tryd.prog Rows.fnLevelsRow.laid w) :
    Calls Tryd.prog 5 #[v] w fun e w' => e = .returned (.bool true) ∧ Below w.heap.size w w' := by
  obtain ⟨A, c, rfl, r⟩ := r
  by_cases hlong : bs.length ≤ 4096
  case neg =>
    have HB := hide (levBig_any A bs.length c w hlong nx)
    clear hlong r nx fx hL
    go_enter Tryd.func5, Tryd.ntmps5
    go_wp2_with (go_at_call 6; refine (HB.out).mono ?_; rintro e w' ⟨rfl, rfl⟩)
    go_ret
    exact ⟨rfl, Below.refl _ _⟩
  have HB := hide (f6big_any A bs.length c w hlong)
  have HBO := hide (show BsOk bs from ⟨hlong, fx⟩)
  have FR := hide (fu_B r)
  have FT := hide (fu_T (llv_tab hL))
  have FB := hide (fu_below (Below.refl w.heap.size w))
  have HD := hide (drawLevelAt_any bs A c w HBO.out FR.out.now)
  clear r nx fx hlong hL
  go_enter Tryd.func5, Tryd.ntmps5
  go_upto_region 4 with (first | (go_at_call 6; refine (HB.out).mono ?_; rintro e w' ⟨rfl, rfl⟩) | (go_at_call 24; (with_reducible refine (HD.out).mono ?_); rintro e w1 ⟨x1, A1, c1, B1, d1, zn, tk, rfl, ⟨⟨hzn0, hzn1⟩, htk0, htk1⟩, ri1, rc1, hbt1, b1⟩))
  have HS1 := hide (zbt_small hbt1)
  have HF1 := hide (zbt_fit hbt1)
  have HRZ := hide (show R_Zoned w1 w1.heap.size (.agg #[.int .i64 x1.z, .slice A1 x1.of.length c1, .slice B1 x1.ch.length d1]) x1 from ⟨A1, c1, B1, d1, rfl, ri1, rc1⟩)
  have X1 := hide (BoxN.new w1 #[.int .i64 x1.z, .slice A1 x1.of.length c1, .slice B1 x1.ch.length d1] 47)
  have ba : Below w1.heap.size w1 (w1.alloc (.cells #[.int .i64 x1.z, .slice A1 x1.of.length c1, .slice B1 x1.ch.length d1] 47)) := (Below.refl _ _).alloc (Nat.le_refl _) _
  have HBA := hide (b1.trans (ba.mono b1.size))
  have HRN := hide (Fu.step (fu_Z HRZ.out) ba)
  clear ri1 rc1 hbt1 HRZ b1 ba
  generalize w1.heap.size = g1 at *
  generalize w1.alloc (.cells #[.int .i64 x1.z, .slice A1 x1.of.length c1, .slice B1 x1.ch.length d1] 47) = w1a at *
  have FX1 := hide (fu_X X1.out)
  have FZ1 := HRN
  clear X1 HRN
  replace FB := hide (FB.out.step HBA.out)
  replace FR := hide (FR.out.step HBA.out)
  replace FT := hide (FT.out.step HBA.out)
  clear HBA
  clear HD HB
  have HP := hide fun W (hW : Below w1a.heap.size w1a W) => P_LevelAt x1 (.agg #[.int .i64 x1.z, .slice A1 x1.of.length c1, .slice B1 x1.ch.length d1]) zn tk W HS1.out HF1.out (FZ1.out W hW) (by omega) (by omega) (by omega) (by omega)
  have HS := hide fun W (hW : Below w1a.heap.size w1a W) => S_LevelAt x1 (.agg #[.int .i64 x1.z, .slice A1 x1.of.length c1, .slice B1 x1.ch.length d1]) zn tk W HS1.out HF1.out (FZ1.out W hW) (by omega) (by omega) (by omega) (by omega)
  have HZ := hide (Below.refl w1a.heap.size w1a)
  generalize (levelAt x1 zn tk).1 = fn at *
  generalize (levelAt x1 zn tk).2 = fk at *
  have y0 := FX1.out.now.cell 0
  have y1 := FX1.out.now.cell 1
  have y2 := FX1.out.now.cell 2
  go_upto_region 5 with (go_at_call 25; (with_reducible refine (HP.out _ HZ.out).mono ?_); rintro e w2 ⟨rfl, b2⟩)
  replace HZ := hide (HZ.out.trans (b2.mono HZ.out.size))
  replace FB := hide (FB.out.step b2)
  replace FR := hide (FR.out.step b2)
  replace FT := hide (FT.out.step b2)
  replace FX1 := hide (FX1.out.step b2)
  replace FZ1 := hide (FZ1.out.step b2)
  clear b2
  clear HP
  clear y0 y1 y2
  have y0 := FX1.out.now.cell 0
  have y1 := FX1.out.now.cell 1
  have y2 := FX1.out.now.cell 2
  go_upto_region 6 with (go_at_call 26; (with_reducible refine (HS.out _ HZ.out).mono ?_); rintro e w3 ⟨rfl, b3⟩)
  replace HZ := hide (HZ.out.trans (b3.mono HZ.out.size))
  replace FB := hide (FB.out.step b3)
  replace FR := hide (FR.out.step b3)
  replace FT := hide (FT.out.step b3)
  replace FX1 := hide (FX1.out.step b3)
  replace FZ1 := hide (FZ1.out.step b3)
  clear b3
  clear HS
  clear y0 y1 y2
  clear HZ
  have HD := hide (drawTicksAbove_any bs A c w3 HBO.out FR.out.now)
  go_upto_region 7 with ((go_at_call 27; (with_reducible refine (HD.out).mono ?_); rintro e w4 ⟨x2, A2, c2, B2, d2, zt, ls, te, rfl, ⟨⟨hzt0, hzt1⟩, ⟨hls0, hls1⟩, hte0, hte1⟩, ri2, rc2, hbt2, b4⟩))
  have HS2 := hide (zbt_small hbt2)
  have HF2 := hide (zbt_fit hbt2)
  have HRZ := hide (show R_Zoned w4 w4.heap.size (.agg #[.int .i64 x2.z, .slice A2 x2.of.length c2, .slice B2 x2.ch.length d2]) x2 from ⟨A2, c2, B2, d2, rfl, ri2, rc2⟩)
  have X2 := hide (BoxN.new w4 #[.int .i64 x2.z, .slice A2 x2.of.length c2, .slice B2 x2.ch.length d2] 47)
  have ba : Below w4.heap.size w4 (w4.alloc (.cells #[.int .i64 x2.z, .slice A2 x2.of.length c2, .slice B2 x2.ch.length d2] 47)) := (Below.refl _ _).alloc (Nat.le_refl _) _
  have HBA := hide (b4.trans (ba.mono b4.size))
  have HRN := hide (Fu.step (fu_Z HRZ.out) ba)
  clear ri2 rc2 hbt2 HRZ b4 ba
  generalize w4.heap.size = g2 at *
  generalize w4.alloc (.cells #[.int .i64 x2.z, .slice A2 x2.of.length c2, .slice B2 x2.ch.length d2] 47) = w4a at *
  have FX2 := hide (fu_X X2.out)
  have FZ2 := HRN
  clear X2 HRN
  replace FB := hide (FB.out.step HBA.out)
  replace FR := hide (FR.out.step HBA.out)
  replace FT := hide (FT.out.step HBA.out)
  replace FX1 := hide (FX1.out.step HBA.out)
  replace FZ1 := hide (FZ1.out.step HBA.out)
  clear HBA
  clear HD
  have LW := hide (tickLaw x2 zt ls te)
  have HP := hide fun W (hW : Below w4a.heap.size w4a W) => P_TicksAbove x2 (.agg #[.int .i64 x2.z, .slice A2 x2.of.length c2, .slice B2 x2.ch.length d2]) zt ls te W HS2.out HF2.out (FZ2.out W hW) (by omega) (by omega) (by omega) (by omega) (by omega) (by omega)
  have HS := hide fun W (hW : Below w4a.heap.size w4a W) => S_TicksAbove x2 (.agg #[.int .i64 x2.z, .slice A2 x2.of.length c2, .slice B2 x2.ch.length d2]) zt ls te W HS2.out HF2.out (FZ2.out W hW) (by omega) (by omega) (by omega) (by omega) (by omega) (by omega)
  have HZ := hide (Below.refl w4a.heap.size w4a)
  generalize (ticksAbove x2 zt ls te).1 = tn at *
  generalize (ticksAbove x2 zt ls te).2 = tc at *
  have y0 := FX2.out.now.cell 0
  have y1 := FX2.out.now.cell 1
  have y2 := FX2.out.now.cell 2
  go_upto_region 8 with (go_at_call 28; (with_reducible refine (HP.out _ HZ.out).mono ?_); rintro e w5 ⟨rfl, b5⟩)
  replace HZ := hide (HZ.out.trans (b5.mono HZ.out.size))
  replace FB := hide (FB.out.step b5)
  replace FR := hide (FR.out.step b5)
  replace FT := hide (FT.out.step b5)
  replace FX1 := hide (FX1.out.step b5)
  replace FZ1 := hide (FZ1.out.step b5)
  replace FX2 := hide (FX2.out.step b5)
  replace FZ2 := hide (FZ2.out.step b5)
  clear b5
  clear HP
  clear y0 y1 y2
  have y0 := FX2.out.now.cell 0
  have y1 := FX2.out.now.cell 1
  have y2 := FX2.out.now.cell 2
  go_upto_region 9 with (go_at_call 29; (with_reducible refine (HS.out _ HZ.out).mono ?_); rintro e w6 ⟨rfl, b6⟩)
  replace HZ := hide (HZ.out.trans (b6.mono HZ.out.size))
  replace FB := hide (FB.out.step b6)
  replace FR := hide (FR.out.step b6)
  replace FT := hide (FT.out.step b6)
  replace FX1 := hide (FX1.out.step b6)
  replace FZ1 := hide (FZ1.out.step b6)
  replace FX2 := hide (FX2.out.step b6)
  replace FZ2 := hide (FZ2.out.step b6)
  clear b6
  clear HS
  clear y0 y1 y2
  clear HZ
  have HD := hide (drawAddChange_any bs A c w6 HBO.out FR.out.now)
  go_upto_region 10 with (go_at_call 30; (with_reducible refine (HD.out).mono ?_); rintro e w7 ⟨x3, A3, c3, B3, d3, t3, rfl, hcd3, ri3, rc3, hbt3, hcp3, b7⟩)
  clear HD
  have HS3 := hide (zbt_small hbt3)
  have HF3 := hide (zbt_fit hbt3)
  have HC3 := hide hcd3.fits
  have HCD3 := hide hcd3
  have hlen3 := hbt3.2.2.1
  have HCP := hide (show ∀ n A B m c, (.agg #[.int .i64 x3.z, .slice A3 x3.of.length c3, .slice B3 x3.ch.length d3] : Value) = .agg #[n, A, .slice B m c] → m ≤ c from by intro n A B m c e; cases e; exact hcp3.1)
  have HRZ := hide (show R_Zoned w7 w7.heap.size (.agg #[.int .i64 x3.z, .slice A3 x3.of.length c3, .slice B3 x3.ch.length d3]) x3 from ⟨A3, c3, B3, d3, rfl, ri3, rc3⟩)
  have hsA : (w7.alloc (.cells #[.int .i64 x3.z, .slice A3 x3.of.length c3, .slice B3 x3.ch.length d3] 47)).heap.size = w7.heap.size + 1 := by simp
  have X3 := hide ((BoxN.new w7 #[.int .i64 x3.z, .slice A3 x3.of.length c3, .slice B3 x3.ch.length d3] 47).alloc (.cells #[.int .i64 t3.a, .int .i64 t3.b, .int .i64 t3.c] 41))
  have X13 : Hid (BoxN ((w7.alloc (.cells #[.int .i64 x3.z, .slice A3 x3.of.length c3, .slice B3 x3.ch.length d3] 47)).alloc (.cells #[.int .i64 t3.a, .int .i64 t3.b, .int .i64 t3.c] 41)) (w7.heap.size + 1) #[.int .i64 t3.a, .int .i64 t3.b, .int .i64 t3.c] 41) := hide (hsA ▸ BoxN.new (w7.alloc (.cells #[.int .i64 x3.z, .slice A3 x3.of.length c3, .slice B3 x3.ch.length d3] 47)) #[.int .i64 t3.a, .int .i64 t3.b, .int .i64 t3.c] 41)
  have ba : Below w7.heap.size w7 ((w7.alloc (.cells #[.int .i64 x3.z, .slice A3 x3.of.length c3, .slice B3 x3.ch.length d3] 47)).alloc (.cells #[.int .i64 t3.a, .int .i64 t3.b, .int .i64 t3.c] 41)) := ((Below.refl _ _).alloc (Nat.le_refl _) _).alloc (by simp) _
  have HBA := hide (b7.trans (ba.mono b7.size))
  have HRN3 := hide (Fu.step (fu_Z HRZ.out) ba)
  clear ri3 rc3 hbt3 hcd3 hcp3 HRZ b7 ba hsA
  generalize w7.heap.size = g3 at *
  generalize ((w7.alloc (.cells #[.int .i64 x3.z, .slice A3 x3.of.length c3, .slice B3 x3.ch.length d3] 47)).alloc (.cells #[.int .i64 t3.a, .int .i64 t3.b, .int .i64 t3.c] 41)) = w7a at *
  have FX3 := hide (fu_X X3.out)
  have FX13 := hide (fu_X X13.out)
  have FZ3 := HRN3
  clear X3 X13 HRN3
  replace FB := hide (FB.out.step HBA.out)
  replace FR := hide (FR.out.step HBA.out)
  replace FT := hide (FT.out.step HBA.out)
  replace FX1 := hide (FX1.out.step HBA.out)
  replace FZ1 := hide (FZ1.out.step HBA.out)
  replace FX2 := hide (FX2.out.step HBA.out)
  replace FZ2 := hide (FZ2.out.step HBA.out)
  clear HBA
  have LA := hide (fun h : (addChange x3 t3).2 = 0 => added_ok h)
  have HS4 := hide (addChange_small (y := t3) HS3.out)
  have HF4 := hide (addChange_fit HF3.out HC3.out)
  have HP := hide fun W (hW : Below w7a.heap.size w7a W) => P_AddChange x3 (.agg #[.int .i64 x3.z, .slice A3 x3.of.length c3, .slice B3 x3.ch.length d3]) t3 W HS3.out HF3.out (FZ3.out W hW) HCP.out HC3.out
  have HS := hide fun W (hW : Below w7a.heap.size w7a W) => S_AddChange x3 (.agg #[.int .i64 x3.z, .slice A3 x3.of.length c3, .slice B3 x3.ch.length d3]) t3 W HS3.out HF3.out (FZ3.out W hW) HCP.out HC3.out
  have HZ := hide (Below.refl w7a.heap.size w7a)
  generalize (addChange x3 t3).1 = x4 at *
  generalize (addChange x3 t3).2 = cd at *
  have y0 := FX3.out.now.cell 0
  have y1 := FX3.out.now.cell 1
  have y2 := FX3.out.now.cell 2
  have u0 := FX13.out.now.cell 0
  have u1 := FX13.out.now.cell 1
  have u2 := FX13.out.now.cell 2
  go_upto_region 11 with (go_at_call 31; (with_reducible refine (HP.out _ HZ.out).mono ?_); rintro e w8 ⟨r4, rfl, o4, b8⟩; have o4r := o4.r; obtain ⟨A4, c4, B4, d4, rfl, ri4, rc4⟩ := o4r)
  clear y0 y1 y2 u0 u1 u2 HP
  have HRZ := hide (show R_Zoned w8 w8.heap.size (.agg #[.int .i64 x4.z, .slice A4 x4.of.length c4, .slice B4 x4.ch.length d4]) x4 from ⟨A4, c4, B4, d4, rfl, ri4, rc4⟩)
  replace HZ := hide (HZ.out.trans ((b8.trans (((Below.refl _ _).alloc (Nat.le_refl _) (.cells #[.int .i64 x4.z, .slice A4 x4.of.length c4, .slice B4 x4.ch.length d4] 47) : Below w8.heap.size w8 _).mono b8.size)).mono HZ.out.size))
  have X4 := hide (BoxN.new w8 #[.int .i64 x4.z, .slice A4 x4.of.length c4, .slice B4 x4.ch.length d4] 47)
  have ba : Below w8.heap.size w8 (w8.alloc (.cells #[.int .i64 x4.z, .slice A4 x4.of.length c4, .slice B4 x4.ch.length d4] 47)) := (Below.refl _ _).alloc (Nat.le_refl _) _
  have HBA := hide (b8.trans (ba.mono b8.size))
  have HRN := hide (Fu.step (fu_Z HRZ.out) ba)
  clear o4 ri4 rc4 HRZ b8 ba
  generalize w8.heap.size = g4 at *
  generalize w8.alloc (.cells #[.int .i64 x4.z, .slice A4 x4.of.length c4, .slice B4 x4.ch.length d4] 47) = w8a at *
  have FX4 := hide (fu_X X4.out)
  have FZ4 := HRN
  clear X4 HRN
  replace FB := hide (FB.out.step HBA.out)
  replace FR := hide (FR.out.step HBA.out)
  replace FT := hide (FT.out.step HBA.out)
  replace FX1 := hide (FX1.out.step HBA.out)
  replace FZ1 := hide (FZ1.out.step HBA.out)
  replace FX2 := hide (FX2.out.step HBA.out)
  replace FZ2 := hide (FZ2.out.step HBA.out)
  replace FX3 := hide (FX3.out.step HBA.out)
  replace FX13 := hide (FX13.out.step HBA.out)
  replace FZ3 := hide (FZ3.out.step HBA.out)
  clear HBA
  have y0 := FX3.out.now.cell 0
  have y1 := FX3.out.now.cell 1
  have y2 := FX3.out.now.cell 2
  have u0 := FX13.out.now.cell 0
  have u1 := FX13.out.now.cell 1
  have u2 := FX13.out.now.cell 2
  go_upto_region 12 with (go_at_call 32; (with_reducible refine (HS.out _ HZ.out).mono ?_); rintro e w9 ⟨r5, rfl, o5, b9⟩; have o5r := o5.r; obtain ⟨A5, c5, B5, d5, rfl, ri5, rc5⟩ := o5r)
  clear y0 y1 y2 u0 u1 u2 HS
  have HRZ := hide (show R_Zoned w9 w9.heap.size (.agg #[.int .i64 x4.z, .slice A5 x4.of.length c5, .slice B5 x4.ch.length d5]) x4 from ⟨A5, c5, B5, d5, rfl, ri5, rc5⟩)
  have X5 := hide (BoxN.new w9 #[.int .i64 x4.z, .slice A5 x4.of.length c5, .slice B5 x4.ch.length d5] 47)
  have ba : Below w9.heap.size w9 (w9.alloc (.cells #[.int .i64 x4.z, .slice A5 x4.of.length c5, .slice B5 x4.ch.length d5] 47)) := (Below.refl _ _).alloc (Nat.le_refl _) _
  have HBA := hide (b9.trans (ba.mono b9.size))
  have HRN := hide (Fu.step (fu_Z HRZ.out) ba)
  clear o5 ri5 rc5 HRZ b9 ba
  generalize w9.heap.size = g5 at *
  generalize w9.alloc (.cells #[.int .i64 x4.z, .slice A5 x4.of.length c5, .slice B5 x4.ch.length d5] 47) = w9a at *
  have FX5 := hide (fu_X X5.out)
  have FZ5 := HRN
  clear X5 HRN
  replace FB := hide (FB.out.step HBA.out)
  replace FR := hide (FR.out.step HBA.out)
  replace FT := hide (FT.out.step HBA.out)
  replace FX1 := hide (FX1.out.step HBA.out)
  replace FZ1 := hide (FZ1.out.step HBA.out)
  replace FX2 := hide (FX2.out.step HBA.out)
  replace FZ2 := hide (FZ2.out.step HBA.out)
  replace FX3 := hide (FX3.out.step HBA.out)
  replace FX13 := hide (FX13.out.step HBA.out)
  replace FZ3 := hide (FZ3.out.step HBA.out)
  replace FX4 := hide (FX4.out.step HBA.out)
  replace FZ4 := hide (FZ4.out.step HBA.out)
  clear HBA
  clear HZ HCP
  have HP := hide fun W (hW : Below w9a.heap.size w9a W) => P_NeedlessChanges x1 (.agg #[.int .i64 x1.z, .slice A1 x1.of.length c1, .slice B1 x1.ch.length d1]) W HS1.out HF1.out (FZ1.out W hW)
  have HS := hide fun W (hW : Below w9a.heap.size w9a W) => S_NeedlessChanges x1 (.agg #[.int .i64 x1.z, .slice A1 x1.of.length c1, .slice B1 x1.ch.length d1]) W HS1.out HF1.out (FZ1.out W hW)
  have HZ := hide (Below.refl w9a.heap.size w9a)
  generalize (needlessChanges x1).1 = nl at *
  generalize (needlessChanges x1).2 = nk at *
  have y0 := FX1.out.now.cell 0
  have y1 := FX1.out.now.cell 1
  have y2 := FX1.out.now.cell 2
  go_upto_region 13 with (go_at_call 33; (with_reducible refine (HP.out _ HZ.out).mono ?_); rintro e w10 ⟨v10, rfl, o10, b10⟩)
  replace HZ := hide (HZ.out.trans (b10.mono HZ.out.size))
  obtain ⟨A10, c10, rfl, r10⟩ := o10.r
  have Fn1 := hide (fu_I r10)
  have hnl := o10.small
  clear o10 r10
  replace FB := hide (FB.out.step b10)
  replace FR := hide (FR.out.step b10)
  replace FT := hide (FT.out.step b10)
  replace FX1 := hide (FX1.out.step b10)
  replace FZ1 := hide (FZ1.out.step b10)
  replace FX2 := hide (FX2.out.step b10)
  replace FZ2 := hide (FZ2.out.step b10)
  replace FX3 := hide (FX3.out.step b10)
  replace FX13 := hide (FX13.out.step b10)
  replace FZ3 := hide (FZ3.out.step b10)
  replace FX4 := hide (FX4.out.step b10)
  replace FZ4 := hide (FZ4.out.step b10)
  replace FX5 := hide (FX5.out.step b10)
  replace FZ5 := hide (FZ5.out.step b10)
  clear b10
  clear HP
  clear y0 y1 y2
  have y0 := FX1.out.now.cell 0
  have y1 := FX1.out.now.cell 1
  have y2 := FX1.out.now.cell 2
  go_upto_region 14 with (go_at_call 34; (with_reducible refine (HS.out _ HZ.out).mono ?_); rintro e w11 ⟨v11, rfl, o11, b11⟩)
  replace HZ := hide (HZ.out.trans (b11.mono HZ.out.size))
  obtain ⟨A11, c11, rfl, r11⟩ := o11.r
  have Fn2 := hide (fu_I r11)
  clear o11 r11
  replace FB := hide (FB.out.step b11)
  replace FR := hide (FR.out.step b11)
  replace FT := hide (FT.out.step b11)
  replace FX1 := hide (FX1.out.step b11)
  replace FZ1 := hide (FZ1.out.step b11)
  replace FX2 := hide (FX2.out.step b11)
  replace FZ2 := hide (FZ2.out.step b11)
  replace FX3 := hide (FX3.out.step b11)
  replace FX13 := hide (FX13.out.step b11)
  replace FZ3 := hide (FZ3.out.step b11)
  replace FX4 := hide (FX4.out.step b11)
  replace FZ4 := hide (FZ4.out.step b11)
  replace FX5 := hide (FX5.out.step b11)
  replace FZ5 := hide (FZ5.out.step b11)
  replace Fn1 := hide (Fn1.out.step b11)
  clear b11
  clear HS
  clear y0 y1 y2
  clear HZ
  have HD := hide (drawSameZoned_any bs A c w11 HBO.out FR.out.now)
  go_upto_region 15 with (go_at_call 35; (with_reducible refine (HD.out).mono ?_); rintro e w12 ⟨x6, x7, A6, c6, B6, d6, A7, c7, B7, d7, rfl, hy6, hy7, ri6, rc6, ri7, rc7, b12⟩)
  clear HD
  have HS6 := hide hy6.small
  have HF6 := hide hy6.fit
  have HRZ6 := hide (show R_Zoned w12 w12.heap.size (.agg #[.int .i64 x6.z, .slice A6 x6.of.length c6, .slice B6 x6.ch.length d6]) x6 from ⟨A6, c6, B6, d6, rfl, ri6, rc6⟩)
  have HS7 := hide hy7.small
  have HF7 := hide hy7.fit
  have HRZ7 := hide (show R_Zoned w12 w12.heap.size (.agg #[.int .i64 x7.z, .slice A7 x7.of.length c7, .slice B7 x7.ch.length d7]) x7 from ⟨A7, c7, B7, d7, rfl, ri7, rc7⟩)
  have hsA : (w12.alloc (.cells #[.int .i64 x6.z, .slice A6 x6.of.length c6, .slice B6 x6.ch.length d6] 47)).heap.size = w12.heap.size + 1 := by simp
  have X6 := hide ((BoxN.new w12 #[.int .i64 x6.z, .slice A6 x6.of.length c6, .slice B6 x6.ch.length d6] 47).alloc (.cells #[.int .i64 x7.z, .slice A7 x7.of.length c7, .slice B7 x7.ch.length d7] 47))
  have X7 : Hid (BoxN ((w12.alloc (.cells #[.int .i64 x6.z, .slice A6 x6.of.length c6, .slice B6 x6.ch.length d6] 47)).alloc (.cells #[.int .i64 x7.z, .slice A7 x7.of.length c7, .slice B7 x7.ch.length d7] 47)) (w12.heap.size + 1) #[.int .i64 x7.z, .slice A7 x7.of.length c7, .slice B7 x7.ch.length d7] 47) := hide (hsA ▸ BoxN.new (w12.alloc (.cells #[.int .i64 x6.z, .slice A6 x6.of.length c6, .slice B6 x6.ch.length d6] 47)) #[.int .i64 x7.z, .slice A7 x7.of.length c7, .slice B7 x7.ch.length d7] 47)
  have ba : Below w12.heap.size w12 ((w12.alloc (.cells #[.int .i64 x6.z, .slice A6 x6.of.length c6, .slice B6 x6.ch.length d6] 47)).alloc (.cells #[.int .i64 x7.z, .slice A7 x7.of.length c7, .slice B7 x7.ch.length d7] 47)) := ((Below.refl _ _).alloc (Nat.le_refl _) _).alloc (by simp) _
  have HBA := hide (b12.trans (ba.mono b12.size))
  have HRN6 := hide (Fu.step (fu_Z HRZ6.out) ba)
  have HRN7 := hide (Fu.step (fu_Z HRZ7.out) ba)
  clear ri6 rc6 ri7 rc7 hy6 hy7 HRZ6 HRZ7 b12 ba hsA
  generalize w12.heap.size = g6 at *
  generalize ((w12.alloc (.cells #[.int .i64 x6.z, .slice A6 x6.of.length c6, .slice B6 x6.ch.length d6] 47)).alloc (.cells #[.int .i64 x7.z, .slice A7 x7.of.length c7, .slice B7 x7.ch.length d7] 47)) = w12a at *
  have FX6 := hide (fu_X X6.out)
  have FX7 := hide (fu_X X7.out)
  have FZ6 := HRN6
  have FZ7 := HRN7
  clear X6 X7 HRN6 HRN7
  replace FB := hide (FB.out.step HBA.out)
  replace FR := hide (FR.out.step HBA.out)
  replace FT := hide (FT.out.step HBA.out)
  replace FX1 := hide (FX1.out.step HBA.out)
  replace FZ1 := hide (FZ1.out.step HBA.out)
  replace FX2 := hide (FX2.out.step HBA.out)
  replace FZ2 := hide (FZ2.out.step HBA.out)
  replace FX3 := hide (FX3.out.step HBA.out)
  replace FX13 := hide (FX13.out.step HBA.out)
  replace FZ3 := hide (FZ3.out.step HBA.out)
  replace FX4 := hide (FX4.out.step HBA.out)
  replace FZ4 := hide (FZ4.out.step HBA.out)
  replace FX5 := hide (FX5.out.step HBA.out)
  replace FZ5 := hide (FZ5.out.step HBA.out)
  replace Fn1 := hide (Fn1.out.step HBA.out)
  replace Fn2 := hide (Fn2.out.step HBA.out)
  clear HBA
  have HD := hide (drawChangeText_any bs A c w12a HBO.out FR.out.now)
  go_upto_region 16 with (go_at_call 36; (with_reducible refine (HD.out).mono ?_); rintro e w13 ⟨t8, rfl, hcd8, b13⟩)
  clear HD
  have HC8 := hide hcd8.fits
  have X8 := hide (BoxN.new w13 #[.int .i64 t8.a, .int .i64 t8.b, .int .i64 t8.c] 41)
  have ba : Below w13.heap.size w13 (w13.alloc (.cells #[.int .i64 t8.a, .int .i64 t8.b, .int .i64 t8.c] 41)) := (Below.refl _ _).alloc (Nat.le_refl _) _
  have HBA := hide (b13.trans (ba.mono b13.size))
  clear hcd8 b13 ba
  generalize w13.heap.size = g8 at *
  generalize w13.alloc (.cells #[.int .i64 t8.a, .int .i64 t8.b, .int .i64 t8.c] 41) = w13a at *
  have FX8 := hide (fu_X X8.out)
  clear X8 
  replace FB := hide (FB.out.step HBA.out)
  replace FR := hide (FR.out.step HBA.out)
  replace FT := hide (FT.out.step HBA.out)
  replace FX1 := hide (FX1.out.step HBA.out)
  replace FZ1 := hide (FZ1.out.step HBA.out)
  replace FX2 := hide (FX2.out.step HBA.out)
  replace FZ2 := hide (FZ2.out.step HBA.out)
  replace FX3 := hide (FX3.out.step HBA.out)
  replace FX13 := hide (FX13.out.step HBA.out)
  replace FZ3 := hide (FZ3.out.step HBA.out)
  replace FX4 := hide (FX4.out.step HBA.out)
  replace FZ4 := hide (FZ4.out.step HBA.out)
  replace FX5 := hide (FX5.out.step HBA.out)
  replace FZ5 := hide (FZ5.out.step HBA.out)
  replace Fn1 := hide (Fn1.out.step HBA.out)
  replace Fn2 := hide (Fn2.out.step HBA.out)
  replace FX6 := hide (FX6.out.step HBA.out)
  replace FX7 := hide (FX7.out.step HBA.out)
  replace FZ6 := hide (FZ6.out.step HBA.out)
  replace FZ7 := hide (FZ7.out.step HBA.out)
  clear HBA
  have Q1 := hide fun W (hW : Below w13a.heap.size w13a W) => (show Calls Tryd.prog 37 #[(.agg #[.int .i64 x4.z, .slice A4 x4.of.length c4, .slice B4 x4.ch.length d4]), (.agg #[.int .i64 x4.z, .slice A5 x4.of.length c5, .slice B5 x4.ch.length d5])] W fun e w' => e = .returned (.bool true) ∧ Below W.heap.size W w' from by have h := S_SameZoned x4 (.agg #[.int .i64 x4.z, .slice A4 x4.of.length c4, .slice B4 x4.ch.length d4]) x4 (.agg #[.int .i64 x4.z, .slice A5 x4.of.length c5, .slice B5 x4.ch.length d5]) W HS4.out HF4.out (FZ4.out W hW) HS4.out HF4.out (FZ5.out W hW); rw [sameZ_self] at h; exact h)
  have Q2 := hide fun W (hW : Below w13a.heap.size w13a W) => lev_same nl A10 A11 c10 c11 W hnl (Fn1.out W hW) (Fn2.out W hW)
  have Q3 := hide fun W (hW : Below w13a.heap.size w13a W) => P_SameZoned x6 (.agg #[.int .i64 x6.z, .slice A6 x6.of.length c6, .slice B6 x6.ch.length d6]) x7 (.agg #[.int .i64 x7.z, .slice A7 x7.of.length c7, .slice B7 x7.ch.length d7]) W HS6.out HF6.out (FZ6.out W hW) HS7.out HF7.out (FZ7.out W hW)
  have Q4 := hide fun W (hW : Below w13a.heap.size w13a W) => S_SameZoned x6 (.agg #[.int .i64 x6.z, .slice A6 x6.of.length c6, .slice B6 x6.ch.length d6]) x7 (.agg #[.int .i64 x7.z, .slice A7 x7.of.length c7, .slice B7 x7.ch.length d7]) W HS6.out HF6.out (FZ6.out W hW) HS7.out HF7.out (FZ7.out W hW)
  have Q5 := hide fun W (hW : Below w13a.heap.size w13a W) => implChangeText_any t8 W HC8.out (FT.out W hW)
  have Q6 := hide fun W (hW : Below w13a.heap.size w13a W) => specChangeText_any t8 W HC8.out
  have Q7 := hide fun W (hW : Below w13a.heap.size w13a W) => P_ValidZoned x1 (.agg #[.int .i64 x1.z, .slice A1 x1.of.length c1, .slice B1 x1.ch.length d1]) W HS1.out HF1.out (FZ1.out W hW)
  have Q8 := hide fun W (hW : Below w13a.heap.size w13a W) => S_ValidZoned x1 (.agg #[.int .i64 x1.z, .slice A1 x1.of.length c1, .slice B1 x1.ch.length d1]) W HS1.out HF1.out (FZ1.out W hW)
  generalize sameZ x6 x7 = sv at *
  generalize vZoned x1 = vv at Q7 Q8
  generalize chgB t8 = St at *
  go_cut [178] (fun cv wx => cv = .bool false ∧ Hid (Below w13a.heap.size w13a wx))
  case first =>
    clear FB FR FT FZ1 FZ2 FZ3 FZ4 FZ5 FZ6 FZ7 FX2 FX3 FX13 Fn1 Fn2 LW LA HBO HS1 HF1 HS2 HF2 HS3 HF3 HC3 HCD3 HS4 HF4 HS6 HF6 HS7 HF7 HC8
    have Z0 : Hid (Below w13a.heap.size w13a w13a.drew) := (Below.refl _ _).drew
    have q1 : (fk != fk) = false := by simp
    have q2 : (fn != fn) = false := by simp
    have q3 : (tc != tc) = false := by simp
    have q4 : (tn != tn) = false := by simp
    have q5 : (cd != cd) = false := by simp
    have q6 : (nk != nk) = false := by simp
    have q7 : (sv != sv) = false := by simp
    have q8 : (vv != vv) = false := by simp
    have q9 : (St != St) = false := by rw [bne, show (St == St) = true from by (show (St.data == St.data) = true; simp)]; rfl
    refine wp_region_held_drew (S := fun W => W.cell? ⟨g1, 0, none⟩ = some (.int .i64 x1.z) ∧ W.cell? ⟨g1, 1, none⟩ = some (.slice A1 x1.of.length c1) ∧ W.cell? ⟨g1, 2, none⟩ = some (.slice B1 x1.ch.length d1) ∧ W.cell? ⟨g4, 0, none⟩ = some (.int .i64 x4.z) ∧ W.cell? ⟨g4, 1, none⟩ = some (.slice A4 x4.of.length c4) ∧ W.cell? ⟨g4, 2, none⟩ = some (.slice B4 x4.ch.length d4) ∧ W.cell? ⟨g5, 0, none⟩ = some (.int .i64 x4.z) ∧ W.cell? ⟨g5, 1, none⟩ = some (.slice A5 x4.of.length c5) ∧ W.cell? ⟨g5, 2, none⟩ = some (.slice B5 x4.ch.length d5) ∧ W.cell? ⟨g6, 0, none⟩ = some (.int .i64 x6.z) ∧ W.cell? ⟨g6, 1, none⟩ = some (.slice A6 x6.of.length c6) ∧ W.cell? ⟨g6, 2, none⟩ = some (.slice B6 x6.ch.length d6) ∧ W.cell? ⟨g6 + 1, 0, none⟩ = some (.int .i64 x7.z) ∧ W.cell? ⟨g6 + 1, 1, none⟩ = some (.slice A7 x7.of.length c7) ∧ W.cell? ⟨g6 + 1, 2, none⟩ = some (.slice B7 x7.ch.length d7) ∧ W.cell? ⟨g8, 0, none⟩ = some (.int .i64 t8.a) ∧ W.cell? ⟨g8, 1, none⟩ = some (.int .i64 t8.b) ∧ W.cell? ⟨g8, 2, none⟩ = some (.int .i64 t8.c)) (by kernel_rfl) (⟨(FX1.out _ Z0.out).cell 0, (FX1.out _ Z0.out).cell 1, (FX1.out _ Z0.out).cell 2, (FX4.out _ Z0.out).cell 0, (FX4.out _ Z0.out).cell 1, (FX4.out _ Z0.out).cell 2, (FX5.out _ Z0.out).cell 0, (FX5.out _ Z0.out).cell 1, (FX5.out _ Z0.out).cell 2, (FX6.out _ Z0.out).cell 0, (FX6.out _ Z0.out).cell 1, (FX6.out _ Z0.out).cell 2, (FX7.out _ Z0.out).cell 0, (FX7.out _ Z0.out).cell 1, (FX7.out _ Z0.out).cell 2, (FX8.out _ Z0.out).cell 0, (FX8.out _ Z0.out).cell 1, (FX8.out _ Z0.out).cell 2⟩) (fun hHeld => ?_)
    generalize w13a.drew = wd at *
    refine wpAnyH_take (i := 0) (v := ?_) rfl (by kernel_rfl) (by kernel_rfl) (by kernel_rfl) (fun _ _ _ h => h) (Or.inl ⟨by rfl, ?_⟩) (by assumption) ?_
    rotate_left 1
    · (intro w hSw; (try dsimp only at hSw); go_simp; try with_reducible rfl)
    try simp only [Act.put, List.getElem_toArray, List.getElem_cons_succ, List.getElem_cons_zero, List.setIfInBounds_toArray, List.set_cons_zero, List.set_cons_succ]
    refine wpAnyH_take (i := 1) (v := ?_) rfl (by kernel_rfl) (by kernel_rfl) (by kernel_rfl) (fun _ _ _ h => h) (Or.inl ⟨by rfl, ?_⟩) (by assumption) ?_
    rotate_left 1
    · (intro w hSw; (try dsimp only at hSw); go_simp; try with_reducible rfl)
    try simp only [Act.put, List.getElem_toArray, List.getElem_cons_succ, List.getElem_cons_zero, List.setIfInBounds_toArray, List.set_cons_zero, List.set_cons_succ]
    refine wpAnyH_take (i := 2) (v := ?_) rfl (by kernel_rfl) (by kernel_rfl) (by kernel_rfl) (fun _ _ _ h => h) (Or.inl ⟨by rfl, ?_⟩) (by assumption) ?_
    rotate_left 1
    · (intro w hSw; (try dsimp only at hSw); go_simp; try with_reducible rfl)
    try simp only [Act.put, List.getElem_toArray, List.getElem_cons_succ, List.getElem_cons_zero, List.setIfInBounds_toArray, List.set_cons_zero, List.set_cons_succ]
    refine wpAnyH_take (i := 3) (v := ?_) rfl (by kernel_rfl) (by kernel_rfl) (by kernel_rfl) (fun _ _ _ h => h) (Or.inl ⟨by rfl, ?_⟩) (by assumption) ?_
    rotate_left 1
    · (intro w hSw; (try dsimp only at hSw); go_simp; try with_reducible rfl)
    try simp only [Act.put, List.getElem_toArray, List.getElem_cons_succ, List.getElem_cons_zero, List.setIfInBounds_toArray, List.set_cons_zero, List.set_cons_succ]
    refine wpAnyH_take (i := 4) (v := ?_) rfl (by kernel_rfl) (by kernel_rfl) (by kernel_rfl) (fun _ _ _ h => h) (Or.inl ⟨by rfl, ?_⟩) (by assumption) ?_
    rotate_left 1
    · (intro w hSw; (try dsimp only at hSw); go_simp; try with_reducible rfl)
    try simp only [Act.put, List.getElem_toArray, List.getElem_cons_succ, List.getElem_cons_zero, List.setIfInBounds_toArray, List.set_cons_zero, List.set_cons_succ]
    refine wpAnyH_take (i := 5) (v := ?_) rfl (by kernel_rfl) (by kernel_rfl) (by kernel_rfl) (fun _ _ _ h => h) (Or.inl ⟨by rfl, ?_⟩) (by assumption) ?_
    rotate_left 1
    · (intro w hSw; (try dsimp only at hSw); go_simp; try with_reducible rfl)
    try simp only [Act.put, List.getElem_toArray, List.getElem_cons_succ, List.getElem_cons_zero, List.setIfInBounds_toArray, List.set_cons_zero, List.set_cons_succ]
    refine wpAnyH_take (i := 6) (v := ?_) rfl (by kernel_rfl) (by kernel_rfl) (by kernel_rfl) (fun _ _ _ h => h) (Or.inl ⟨by rfl, ?_⟩) (by assumption) ?_
    rotate_left 1
    · (intro w hSw; (try dsimp only at hSw); go_simp; try with_reducible rfl)
    try simp only [Act.put, List.getElem_toArray, List.getElem_cons_succ, List.getElem_cons_zero, List.setIfInBounds_toArray, List.set_cons_zero, List.set_cons_succ]
    refine wpAnyH_take (i := 7) (v := ?_) rfl (by kernel_rfl) (by kernel_rfl) (by kernel_rfl) (fun _ _ _ h => h) (Or.inl ⟨by rfl, ?_⟩) (by assumption) ?_
    rotate_left 1
    · (intro w hSw; (try dsimp only at hSw); go_simp; try with_reducible rfl)
    try simp only [Act.put, List.getElem_toArray, List.getElem_cons_succ, List.getElem_cons_zero, List.setIfInBounds_toArray, List.set_cons_zero, List.set_cons_succ]
    refine wpAnyH_take (i := 8) (v := ?_) rfl (by kernel_rfl) (by kernel_rfl) (by kernel_rfl) (fun _ _ _ h => h) (Or.inl ⟨by rfl, ?_⟩) (by assumption) ?_
    rotate_left 1
    · (intro w hSw; (try dsimp only at hSw); go_simp; try with_reducible rfl)
    try simp only [Act.put, List.getElem_toArray, List.getElem_cons_succ, List.getElem_cons_zero, List.setIfInBounds_toArray, List.set_cons_zero, List.set_cons_succ]
    refine wpAnyH_take (i := 9) (v := ?_) rfl (by kernel_rfl) (by kernel_rfl) (by kernel_rfl) (fun _ _ _ h => h) (Or.inl ⟨by rfl, ?_⟩) (by assumption) ?_
    rotate_left 1
    · (intro w hSw; (try dsimp only at hSw); go_simp; try with_reducible rfl)
    try simp only [Act.put, List.getElem_toArray, List.getElem_cons_succ, List.getElem_cons_zero, List.setIfInBounds_toArray, List.set_cons_zero, List.set_cons_succ]
    refine wpAnyH_take (i := 10) (v := ?_) rfl (by kernel_rfl) (by kernel_rfl) (by kernel_rfl) (fun _ _ _ h => h) (Or.inl ⟨by rfl, ?_⟩) (by assumption) ?_
    rotate_left 1
    · (intro w hSw; (try dsimp only at hSw); go_simp; try with_reducible rfl)
    try simp only [Act.put, List.getElem_toArray, List.getElem_cons_succ, List.getElem_cons_zero, List.setIfInBounds_toArray, List.set_cons_zero, List.set_cons_succ]
    refine wpAnyH_take (i := 11) (v := ?_) rfl (by kernel_rfl) (by kernel_rfl) (by kernel_rfl) (fun _ _ _ h => h) (Or.inl ⟨by rfl, ?_⟩) (by assumption) ?_
    rotate_left 1
    · (intro w hSw; (try dsimp only at hSw); go_simp; try with_reducible rfl)
    try simp only [Act.put, List.getElem_toArray, List.getElem_cons_succ, List.getElem_cons_zero, List.setIfInBounds_toArray, List.set_cons_zero, List.set_cons_succ]
    refine wpAnyH_take (i := 12) (v := ?_) rfl (by kernel_rfl) (by kernel_rfl) (by kernel_rfl) (fun _ _ _ h => h) (Or.inl ⟨by rfl, ?_⟩) (by assumption) ?_
    rotate_left 1
    · (intro w hSw; (try dsimp only at hSw); go_simp; try with_reducible rfl)
    try simp only [Act.put, List.getElem_toArray, List.getElem_cons_succ, List.getElem_cons_zero, List.setIfInBounds_toArray, List.set_cons_zero, List.set_cons_succ]
    refine wpAnyH_take (i := 13) (v := ?_) rfl (by kernel_rfl) (by kernel_rfl) (by kernel_rfl) (fun _ _ _ h => h) (Or.inl ⟨by rfl, ?_⟩) (by assumption) ?_
    rotate_left 1
    · (intro w hSw; (try dsimp only at hSw); go_simp; try with_reducible rfl)
    try simp only [Act.put, List.getElem_toArray, List.getElem_cons_succ, List.getElem_cons_zero, List.setIfInBounds_toArray, List.set_cons_zero, List.set_cons_succ]
    refine wpAnyH_take (i := 14) (v := ?_) rfl (by kernel_rfl) (by kernel_rfl) (by kernel_rfl) (fun _ _ _ h => h) (Or.inl ⟨by rfl, ?_⟩) (by assumption) ?_
    rotate_left 1
    · (intro w hSw; (try dsimp only at hSw); go_simp; try with_reducible rfl)
    try simp only [Act.put, List.getElem_toArray, List.getElem_cons_succ, List.getElem_cons_zero, List.setIfInBounds_toArray, List.set_cons_zero, List.set_cons_succ]
    refine wpAnyH_take (i := 15) (v := ?_) rfl (by kernel_rfl) (by kernel_rfl) (by kernel_rfl) (fun _ _ _ h => h) (Or.inl ⟨by rfl, ?_⟩) (by assumption) ?_
    rotate_left 1
    · (intro w hSw; (try dsimp only at hSw); go_simp; try with_reducible rfl)
    try simp only [Act.put, List.getElem_toArray, List.getElem_cons_succ, List.getElem_cons_zero, List.setIfInBounds_toArray, List.set_cons_zero, List.set_cons_succ]
    refine wpAnyH_take (i := 16) (v := ?_) rfl (by kernel_rfl) (by kernel_rfl) (by kernel_rfl) (fun _ _ _ h => h) (Or.inl ⟨by rfl, ?_⟩) (by assumption) ?_
    rotate_left 1
    · (intro w hSw; (try dsimp only at hSw); go_simp; try with_reducible rfl)
    try simp only [Act.put, List.getElem_toArray, List.getElem_cons_succ, List.getElem_cons_zero, List.setIfInBounds_toArray, List.set_cons_zero, List.set_cons_succ]
    refine wpAnyH_take (i := 17) (v := ?_) rfl (by kernel_rfl) (by kernel_rfl) (by kernel_rfl) (fun _ _ _ h => h) (Or.inl ⟨by rfl, ?_⟩) (by assumption) ?_
    rotate_left 1
    · (intro w hSw; (try dsimp only at hSw); go_simp; try with_reducible rfl)
    try simp only [Act.put, List.getElem_toArray, List.getElem_cons_succ, List.getElem_cons_zero, List.setIfInBounds_toArray, List.set_cons_zero, List.set_cons_succ]
    refine wpAnyH_take (i := 18) (v := ?_) rfl (by kernel_rfl) (by kernel_rfl) (by kernel_rfl) (fun _ _ _ h => h) (Or.inl ⟨by rfl, ?_⟩) (by assumption) ?_
    rotate_left 1
    · (intro w hSw; (try dsimp only at hSw); go_simp; try with_reducible rfl)
    try simp only [Act.put, List.getElem_toArray, List.getElem_cons_succ, List.getElem_cons_zero, List.setIfInBounds_toArray, List.set_cons_zero, List.set_cons_succ]
    refine wpAnyH_take (i := 19) (v := ?_) rfl (by kernel_rfl) (by kernel_rfl) (by kernel_rfl) (fun _ _ _ h => h) (Or.inl ⟨by rfl, ?_⟩) (by assumption) ?_
    rotate_left 1
    · (intro w hSw; (try dsimp only at hSw); go_simp; try with_reducible rfl)
    try simp only [Act.put, List.getElem_toArray, List.getElem_cons_succ, List.getElem_cons_zero, List.setIfInBounds_toArray, List.set_cons_zero, List.set_cons_succ]
    refine wpAnyH_take (i := 20) (v := ?_) rfl (by kernel_rfl) (by kernel_rfl) (by kernel_rfl) (fun _ _ _ h => h) (Or.inl ⟨by rfl, ?_⟩) (by assumption) ?_
    rotate_left 1
    · (intro w hSw; (try dsimp only at hSw); go_simp; try with_reducible rfl)
    try simp only [Act.put, List.getElem_toArray, List.getElem_cons_succ, List.getElem_cons_zero, List.setIfInBounds_toArray, List.set_cons_zero, List.set_cons_succ]
    refine wpAnyH_take (i := 21) (v := ?_) rfl (by kernel_rfl) (by kernel_rfl) (by kernel_rfl) (fun _ _ _ h => h) (Or.inl ⟨by rfl, ?_⟩) (by assumption) ?_
    rotate_left 1
    · (intro w hSw; (try dsimp only at hSw); go_simp; try with_reducible rfl)
    try simp only [Act.put, List.getElem_toArray, List.getElem_cons_succ, List.getElem_cons_zero, List.setIfInBounds_toArray, List.set_cons_zero, List.set_cons_succ]
    refine wpAnyH_take (i := 22) (v := ?_) rfl (by kernel_rfl) (by kernel_rfl) (by kernel_rfl) (fun _ _ _ h => h) (Or.inl ⟨by rfl, ?_⟩) (by assumption) ?_
    rotate_left 1
    · (intro w hSw; (try dsimp only at hSw); go_simp; try with_reducible rfl)
    try simp only [Act.put, List.getElem_toArray, List.getElem_cons_succ, List.getElem_cons_zero, List.setIfInBounds_toArray, List.set_cons_zero, List.set_cons_succ]
    refine wpAnyH_take (i := 23) (v := ?_) rfl (by kernel_rfl) (by kernel_rfl) (by kernel_rfl) (fun _ _ _ h => h) (Or.inl ⟨by rfl, ?_⟩) (by assumption) ?_
    rotate_left 1
    · (intro w hSw; (try dsimp only at hSw); go_simp; try with_reducible rfl)
    try simp only [Act.put, List.getElem_toArray, List.getElem_cons_succ, List.getElem_cons_zero, List.setIfInBounds_toArray, List.set_cons_zero, List.set_cons_succ]
    refine wpAnyH_take (i := 24) (v := ?_) rfl (by kernel_rfl) (by kernel_rfl) (by kernel_rfl) (fun _ _ _ h => h) (Or.inl ⟨by rfl, ?_⟩) (by assumption) ?_
    rotate_left 1
    · (intro w hSw; (try dsimp only at hSw); go_simp; try with_reducible rfl)
    try simp only [Act.put, List.getElem_toArray, List.getElem_cons_succ, List.getElem_cons_zero, List.setIfInBounds_toArray, List.set_cons_zero, List.set_cons_succ]
    refine wpAnyH_take (i := 25) (v := ?_) rfl (by kernel_rfl) (by kernel_rfl) (by kernel_rfl) (fun _ _ _ h => h) (Or.inl ⟨by rfl, ?_⟩) (by assumption) ?_
    rotate_left 1
    · (intro w hSw; (try dsimp only at hSw); go_simp; try with_reducible rfl)
    try simp only [Act.put, List.getElem_toArray, List.getElem_cons_succ, List.getElem_cons_zero, List.setIfInBounds_toArray, List.set_cons_zero, List.set_cons_succ]
    refine wpAnyH_ready (rs := [26]) (by kernel_rfl) (by simp) ?_
    refine AllReadyH.cons rfl (fun K hK => ?_) AllReadyH.nil
    try simp only [Act.put, List.getElem_toArray, List.getElem_cons_succ, List.getElem_cons_zero, List.setIfInBounds_toArray, List.set_cons_zero, List.set_cons_succ]
    go_simp
    go_at_call 37
    with_reducible refine (Q1.out _ Z0.out).mono ?_
    rintro e w20 ⟨rfl, bz⟩
    have Z20 := hide (Z0.out.trans (bz.mono Z0.out.size))
    clear bz Q1 Z0
    dsimp only
    refine hK.out _ _ (⟨(FX1.out _ Z20.out).cell 0, (FX1.out _ Z20.out).cell 1, (FX1.out _ Z20.out).cell 2, (FX4.out _ Z20.out).cell 0, (FX4.out _ Z20.out).cell 1, (FX4.out _ Z20.out).cell 2, (FX5.out _ Z20.out).cell 0, (FX5.out _ Z20.out).cell 1, (FX5.out _ Z20.out).cell 2, (FX6.out _ Z20.out).cell 0, (FX6.out _ Z20.out).cell 1, (FX6.out _ Z20.out).cell 2, (FX7.out _ Z20.out).cell 0, (FX7.out _ Z20.out).cell 1, (FX7.out _ Z20.out).cell 2, (FX8.out _ Z20.out).cell 0, (FX8.out _ Z20.out).cell 1, (FX8.out _ Z20.out).cell 2⟩) (fun hHeld => ?_)
    clear hK K
    try simp only [Act.put, List.getElem_toArray, List.getElem_cons_succ, List.getElem_cons_zero, List.setIfInBounds_toArray, List.set_cons_zero, List.set_cons_succ]
    refine wpAnyH_take (i := 27) (v := ?_) rfl (by kernel_rfl) (by kernel_rfl) (by kernel_rfl) (fun _ _ _ h => h) (Or.inl ⟨by rfl, ?_⟩) (by assumption) ?_
    rotate_left 1
    · (intro w hSw; (try dsimp only at hSw); go_simp; try with_reducible rfl)
    try simp only [Act.put, List.getElem_toArray, List.getElem_cons_succ, List.getElem_cons_zero, List.setIfInBounds_toArray, List.set_cons_zero, List.set_cons_succ]
    refine wpAnyH_take (i := 28) (v := ?_) rfl (by kernel_rfl) (by kernel_rfl) (by kernel_rfl) (fun _ _ _ h => h) (Or.inl ⟨by rfl, ?_⟩) (by assumption) ?_
    rotate_left 1
    · (intro w hSw; (try dsimp only at hSw); go_simp; try with_reducible rfl)
    try simp only [Act.put, List.getElem_toArray, List.getElem_cons_succ, List.getElem_cons_zero, List.setIfInBounds_toArray, List.set_cons_zero, List.set_cons_succ]
    refine wpAnyH_take (i := 29) (v := ?_) rfl (by kernel_rfl) (by kernel_rfl) (by kernel_rfl) (fun _ _ _ h => h) (Or.inl ⟨by rfl, ?_⟩) (by assumption) ?_
    rotate_left 1
    · (intro w hSw; (try dsimp only at hSw); go_simp; try with_reducible rfl)
    try simp only [Act.put, List.getElem_toArray, List.getElem_cons_succ, List.getElem_cons_zero, List.setIfInBounds_toArray, List.set_cons_zero, List.set_cons_succ]
    refine wpAnyH_take (i := 30) (v := ?_) rfl (by kernel_rfl) (by kernel_rfl) (by kernel_rfl) (fun _ _ _ h => h) (Or.inl ⟨by rfl, ?_⟩) (by assumption) ?_
    rotate_left 1
    · (intro w hSw; (try dsimp only at hSw); go_simp; try with_reducible rfl)
    try simp only [Act.put, List.getElem_toArray, List.getElem_cons_succ, List.getElem_cons_zero, List.setIfInBounds_toArray, List.set_cons_zero, List.set_cons_succ]
    refine wpAnyH_take (i := 31) (v := ?_) rfl (by kernel_rfl) (by kernel_rfl) (by kernel_rfl) (fun _ _ _ h => h) (Or.inl ⟨by rfl, ?_⟩) (by assumption) ?_
    rotate_left 1
    · (intro w hSw; (try dsimp only at hSw); go_simp; try with_reducible rfl)
    try simp only [Act.put, List.getElem_toArray, List.getElem_cons_succ, List.getElem_cons_zero, List.setIfInBounds_toArray, List.set_cons_zero, List.set_cons_succ]
    refine wpAnyH_take (i := 32) (v := ?_) rfl (by kernel_rfl) (by kernel_rfl) (by kernel_rfl) (fun _ _ _ h => h) (Or.inl ⟨by rfl, ?_⟩) (by assumption) ?_
    rotate_left 1
    · (intro w hSw; (try dsimp only at hSw); go_simp; try with_reducible rfl)
    try simp only [Act.put, List.getElem_toArray, List.getElem_cons_succ, List.getElem_cons_zero, List.setIfInBounds_toArray, List.set_cons_zero, List.set_cons_succ]
    refine wpAnyH_take (i := 33) (v := ?_) rfl (by kernel_rfl) (by kernel_rfl) (by kernel_rfl) (fun _ _ _ h => h) (Or.inl ⟨by rfl, ?_⟩) (by assumption) ?_
    rotate_left 1
    · (intro w hSw; (try dsimp only at hSw); go_simp; try with_reducible rfl)
    try simp only [Act.put, List.getElem_toArray, List.getElem_cons_succ, List.getElem_cons_zero, List.setIfInBounds_toArray, List.set_cons_zero, List.set_cons_succ]
    refine wpAnyH_take (i := 34) (v := ?_) rfl (by kernel_rfl) (by kernel_rfl) (by kernel_rfl) (fun _ _ _ h => h) (Or.inl ⟨by rfl, ?_⟩) (by assumption) ?_
    rotate_left 1
    · (intro w hSw; (try dsimp only at hSw); go_simp; try with_reducible rfl)
    try simp only [Act.put, List.getElem_toArray, List.getElem_cons_succ, List.getElem_cons_zero, List.setIfInBounds_toArray, List.set_cons_zero, List.set_cons_succ]
    refine wpAnyH_take (i := 35) (v := ?_) rfl (by kernel_rfl) (by kernel_rfl) (by kernel_rfl) (fun _ _ _ h => h) (Or.inl ⟨by rfl, ?_⟩) (by assumption) ?_
    rotate_left 1
    · (intro w hSw; (try dsimp only at hSw); go_simp; try with_reducible rfl)
    try simp only [Act.put, List.getElem_toArray, List.getElem_cons_succ, List.getElem_cons_zero, List.setIfInBounds_toArray, List.set_cons_zero, List.set_cons_succ]
    refine wpAnyH_take (i := 36) (v := ?_) rfl (by kernel_rfl) (by kernel_rfl) (by kernel_rfl) (fun _ _ _ h => h) (Or.inl ⟨by rfl, ?_⟩) (by assumption) ?_
    rotate_left 1
    · (intro w hSw; (try dsimp only at hSw); go_simp; try with_reducible rfl)
    try simp only [Act.put, List.getElem_toArray, List.getElem_cons_succ, List.getElem_cons_zero, List.setIfInBounds_toArray, List.set_cons_zero, List.set_cons_succ]
    refine wpAnyH_ready (rs := [37]) (by kernel_rfl) (by simp) ?_
    refine AllReadyH.cons rfl (fun K hK => ?_) AllReadyH.nil
    try simp only [Act.put, List.getElem_toArray, List.getElem_cons_succ, List.getElem_cons_zero, List.setIfInBounds_toArray, List.set_cons_zero, List.set_cons_succ]
    go_simp
    go_at_call 38
    with_reducible refine (Q2.out _ Z20.out).mono ?_
    rintro e w21 ⟨rfl, bz⟩
    have Z21 := hide (Z20.out.trans (bz.mono Z20.out.size))
    clear bz Q2 Z20
    dsimp only
    refine hK.out _ _ (⟨(FX1.out _ Z21.out).cell 0, (FX1.out _ Z21.out).cell 1, (FX1.out _ Z21.out).cell 2, (FX4.out _ Z21.out).cell 0, (FX4.out _ Z21.out).cell 1, (FX4.out _ Z21.out).cell 2, (FX5.out _ Z21.out).cell 0, (FX5.out _ Z21.out).cell 1, (FX5.out _ Z21.out).cell 2, (FX6.out _ Z21.out).cell 0, (FX6.out _ Z21.out).cell 1, (FX6.out _ Z21.out).cell 2, (FX7.out _ Z21.out).cell 0, (FX7.out _ Z21.out).cell 1, (FX7.out _ Z21.out).cell 2, (FX8.out _ Z21.out).cell 0, (FX8.out _ Z21.out).cell 1, (FX8.out _ Z21.out).cell 2⟩) (fun hHeld => ?_)
    clear hK K
    try simp only [Act.put, List.getElem_toArray, List.getElem_cons_succ, List.getElem_cons_zero, List.setIfInBounds_toArray, List.set_cons_zero, List.set_cons_succ]
    refine wpAnyH_take (i := 38) (v := ?_) rfl (by kernel_rfl) (by kernel_rfl) (by kernel_rfl) (fun _ _ _ h => h) (Or.inl ⟨by rfl, ?_⟩) (by assumption) ?_
    rotate_left 1
    · (intro w hSw; (try dsimp only at hSw); go_simp; try with_reducible rfl)
    try simp only [Act.put, List.getElem_toArray, List.getElem_cons_succ, List.getElem_cons_zero, List.setIfInBounds_toArray, List.set_cons_zero, List.set_cons_succ]
    refine wpAnyH_take (i := 39) (v := ?_) rfl (by kernel_rfl) (by kernel_rfl) (by kernel_rfl) (fun _ _ _ h => h) (Or.inl ⟨by rfl, ?_⟩) (by assumption) ?_
    rotate_left 1
    · (intro w hSw; (try dsimp only at hSw); go_simp; try with_reducible rfl)
    try simp only [Act.put, List.getElem_toArray, List.getElem_cons_succ, List.getElem_cons_zero, List.setIfInBounds_toArray, List.set_cons_zero, List.set_cons_succ]
    refine wpAnyH_take (i := 40) (v := ?_) rfl (by kernel_rfl) (by kernel_rfl) (by kernel_rfl) (fun _ _ _ h => h) (Or.inl ⟨by rfl, ?_⟩) (by assumption) ?_
    rotate_left 1
    · (intro w hSw; (try dsimp only at hSw); go_simp; try with_reducible rfl)
    try simp only [Act.put, List.getElem_toArray, List.getElem_cons_succ, List.getElem_cons_zero, List.setIfInBounds_toArray, List.set_cons_zero, List.set_cons_succ]
    refine wpAnyH_take (i := 41) (v := ?_) rfl (by kernel_rfl) (by kernel_rfl) (by kernel_rfl) (fun _ _ _ h => h) (Or.inl ⟨by rfl, ?_⟩) (by assumption) ?_
    rotate_left 1
    · (intro w hSw; (try dsimp only at hSw); go_simp; try with_reducible rfl)
    try simp only [Act.put, List.getElem_toArray, List.getElem_cons_succ, List.getElem_cons_zero, List.setIfInBounds_toArray, List.set_cons_zero, List.set_cons_succ]
    refine wpAnyH_take (i := 42) (v := ?_) rfl (by kernel_rfl) (by kernel_rfl) (by kernel_rfl) (fun _ _ _ h => h) (Or.inl ⟨by rfl, ?_⟩) (by assumption) ?_
    rotate_left 1
    · (intro w hSw; (try dsimp only at hSw); go_simp; try with_reducible rfl)
    try simp only [Act.put, List.getElem_toArray, List.getElem_cons_succ, List.getElem_cons_zero, List.setIfInBounds_toArray, List.set_cons_zero, List.set_cons_succ]
    refine wpAnyH_take (i := 44) (v := ?_) rfl (by kernel_rfl) (by kernel_rfl) (by kernel_rfl) (fun _ _ _ h => h) (Or.inl ⟨by rfl, ?_⟩) (by assumption) ?_
    rotate_left 1
    · (intro w hSw; (try dsimp only at hSw); go_simp; try with_reducible rfl)
    try simp only [Act.put, List.getElem_toArray, List.getElem_cons_succ, List.getElem_cons_zero, List.setIfInBounds_toArray, List.set_cons_zero, List.set_cons_succ]
    refine wpAnyH_take (i := 45) (v := ?_) rfl (by kernel_rfl) (by kernel_rfl) (by kernel_rfl) (fun _ _ _ h => h) (Or.inl ⟨by rfl, ?_⟩) (by assumption) ?_
    rotate_left 1
    · (intro w hSw; (try dsimp only at hSw); go_simp; try with_reducible rfl)
    try simp only [Act.put, List.getElem_toArray, List.getElem_cons_succ, List.getElem_cons_zero, List.setIfInBounds_toArray, List.set_cons_zero, List.set_cons_succ]
    refine wpAnyH_ready (rs := [43]) (by kernel_rfl) (by simp) ?_
    refine AllReadyH.cons rfl (fun K hK => ?_) AllReadyH.nil
    try simp only [Act.put, List.getElem_toArray, List.getElem_cons_succ, List.getElem_cons_zero, List.setIfInBounds_toArray, List.set_cons_zero, List.set_cons_succ]
    go_simp
    go_at_call 39
    with_reducible refine (Q3.out _ Z21.out).mono ?_
    rintro e w22 ⟨rfl, bz⟩
    have Z22 := hide (Z21.out.trans (bz.mono Z21.out.size))
    clear bz Q3 Z21
    dsimp only
    refine hK.out _ _ (⟨(FX1.out _ Z22.out).cell 0, (FX1.out _ Z22.out).cell 1, (FX1.out _ Z22.out).cell 2, (FX4.out _ Z22.out).cell 0, (FX4.out _ Z22.out).cell 1, (FX4.out _ Z22.out).cell 2, (FX5.out _ Z22.out).cell 0, (FX5.out _ Z22.out).cell 1, (FX5.out _ Z22.out).cell 2, (FX6.out _ Z22.out).cell 0, (FX6.out _ Z22.out).cell 1, (FX6.out _ Z22.out).cell 2, (FX7.out _ Z22.out).cell 0, (FX7.out _ Z22.out).cell 1, (FX7.out _ Z22.out).cell 2, (FX8.out _ Z22.out).cell 0, (FX8.out _ Z22.out).cell 1, (FX8.out _ Z22.out).cell 2⟩) (fun hHeld => ?_)
    clear hK K
    try simp only [Act.put, List.getElem_toArray, List.getElem_cons_succ, List.getElem_cons_zero, List.setIfInBounds_toArray, List.set_cons_zero, List.set_cons_succ]
    refine wpAnyH_ready (rs := [46]) (by kernel_rfl) (by simp) ?_
    refine AllReadyH.cons rfl (fun K hK => ?_) AllReadyH.nil
    try simp only [Act.put, List.getElem_toArray, List.getElem_cons_succ, List.getElem_cons_zero, List.setIfInBounds_toArray, List.set_cons_zero, List.set_cons_succ]
    go_simp
    go_at_call 37
    with_reducible refine (Q4.out _ Z22.out).mono ?_
    rintro e w23 ⟨rfl, bz⟩
    have Z23 := hide (Z22.out.trans (bz.mono Z22.out.size))
    clear bz Q4 Z22
    dsimp only
    refine hK.out _ _ (⟨(FX1.out _ Z23.out).cell 0, (FX1.out _ Z23.out).cell 1, (FX1.out _ Z23.out).cell 2, (FX4.out _ Z23.out).cell 0, (FX4.out _ Z23.out).cell 1, (FX4.out _ Z23.out).cell 2, (FX5.out _ Z23.out).cell 0, (FX5.out _ Z23.out).cell 1, (FX5.out _ Z23.out).cell 2, (FX6.out _ Z23.out).cell 0, (FX6.out _ Z23.out).cell 1, (FX6.out _ Z23.out).cell 2, (FX7.out _ Z23.out).cell 0, (FX7.out _ Z23.out).cell 1, (FX7.out _ Z23.out).cell 2, (FX8.out _ Z23.out).cell 0, (FX8.out _ Z23.out).cell 1, (FX8.out _ Z23.out).cell 2⟩) (fun hHeld => ?_)
    clear hK K
    try simp only [Act.put, List.getElem_toArray, List.getElem_cons_succ, List.getElem_cons_zero, List.setIfInBounds_toArray, List.set_cons_zero, List.set_cons_succ]
    refine wpAnyH_take (i := 47) (v := ?_) rfl (by kernel_rfl) (by kernel_rfl) (by kernel_rfl) (fun _ _ _ h => h) (Or.inl ⟨by rfl, ?_⟩) (by assumption) ?_
    rotate_left 1
    · (intro w hSw; (try dsimp only at hSw); go_simp; try with_reducible rfl)
    try simp only [Act.put, List.getElem_toArray, List.getElem_cons_succ, List.getElem_cons_zero, List.setIfInBounds_toArray, List.set_cons_zero, List.set_cons_succ]
    refine wpAnyH_take (i := 48) (v := ?_) rfl (by kernel_rfl) (by kernel_rfl) (by kernel_rfl) (fun _ _ _ h => h) (Or.inl ⟨by rfl, ?_⟩) (by assumption) ?_
    rotate_left 1
    · (intro w hSw; (try dsimp only at hSw); go_simp; try with_reducible rfl)
    try simp only [Act.put, List.getElem_toArray, List.getElem_cons_succ, List.getElem_cons_zero, List.setIfInBounds_toArray, List.set_cons_zero, List.set_cons_succ]
    refine wpAnyH_take (i := 49) (v := ?_) rfl (by kernel_rfl) (by kernel_rfl) (by kernel_rfl) (fun _ _ _ h => h) (Or.inl ⟨by rfl, ?_⟩) (by assumption) ?_
    rotate_left 1
    · (intro w hSw; (try dsimp only at hSw); go_simp; try with_reducible rfl)
    try simp only [Act.put, List.getElem_toArray, List.getElem_cons_succ, List.getElem_cons_zero, List.setIfInBounds_toArray, List.set_cons_zero, List.set_cons_succ]
    refine wpAnyH_take (i := 50) (v := ?_) rfl (by kernel_rfl) (by kernel_rfl) (by kernel_rfl) (fun _ _ _ h => h) (Or.inl ⟨by rfl, ?_⟩) (by assumption) ?_
    rotate_left 1
    · (intro w hSw; (try dsimp only at hSw); go_simp; try with_reducible rfl)
    try simp only [Act.put, List.getElem_toArray, List.getElem_cons_succ, List.getElem_cons_zero, List.setIfInBounds_toArray, List.set_cons_zero, List.set_cons_succ]
    refine wpAnyH_take (i := 52) (v := ?_) rfl (by kernel_rfl) (by kernel_rfl) (by kernel_rfl) (fun _ _ _ h => h) (Or.inl ⟨by rfl, ?_⟩) (by assumption) ?_
    rotate_left 1
    · (intro w hSw; (try dsimp only at hSw); go_simp; try with_reducible rfl)
    try simp only [Act.put, List.getElem_toArray, List.getElem_cons_succ, List.getElem_cons_zero, List.setIfInBounds_toArray, List.set_cons_zero, List.set_cons_succ]
    refine wpAnyH_ready (rs := [51]) (by kernel_rfl) (by simp) ?_
    refine AllReadyH.cons rfl (fun K hK => ?_) AllReadyH.nil
    try simp only [Act.put, List.getElem_toArray, List.getElem_cons_succ, List.getElem_cons_zero, List.setIfInBounds_toArray, List.set_cons_zero, List.set_cons_succ]
    go_simp
    go_at_call 23
    with_reducible refine (Q5.out _ Z23.out).mono ?_
    rintro e w24 ⟨rfl, bz⟩
    have Z24 := hide (Z23.out.trans (bz.mono Z23.out.size))
    clear bz Q5 Z23
    dsimp only
    refine hK.out _ _ (⟨(FX1.out _ Z24.out).cell 0, (FX1.out _ Z24.out).cell 1, (FX1.out _ Z24.out).cell 2, (FX4.out _ Z24.out).cell 0, (FX4.out _ Z24.out).cell 1, (FX4.out _ Z24.out).cell 2, (FX5.out _ Z24.out).cell 0, (FX5.out _ Z24.out).cell 1, (FX5.out _ Z24.out).cell 2, (FX6.out _ Z24.out).cell 0, (FX6.out _ Z24.out).cell 1, (FX6.out _ Z24.out).cell 2, (FX7.out _ Z24.out).cell 0, (FX7.out _ Z24.out).cell 1, (FX7.out _ Z24.out).cell 2, (FX8.out _ Z24.out).cell 0, (FX8.out _ Z24.out).cell 1, (FX8.out _ Z24.out).cell 2⟩) (fun hHeld => ?_)
    clear hK K
    try simp only [Act.put, List.getElem_toArray, List.getElem_cons_succ, List.getElem_cons_zero, List.setIfInBounds_toArray, List.set_cons_zero, List.set_cons_succ]
    refine wpAnyH_ready (rs := [53]) (by kernel_rfl) (by simp) ?_
    refine AllReadyH.cons rfl (fun K hK => ?_) AllReadyH.nil
    try simp only [Act.put, List.getElem_toArray, List.getElem_cons_succ, List.getElem_cons_zero, List.setIfInBounds_toArray, List.set_cons_zero, List.set_cons_succ]
    go_simp
    go_at_call 21
    with_reducible refine (Q6.out _ Z24.out).mono ?_
    rintro e w25 ⟨rfl, bz⟩
    have Z25 := hide (Z24.out.trans (bz.mono Z24.out.size))
    clear bz Q6 Z24
    dsimp only
    refine hK.out _ _ (⟨(FX1.out _ Z25.out).cell 0, (FX1.out _ Z25.out).cell 1, (FX1.out _ Z25.out).cell 2, (FX4.out _ Z25.out).cell 0, (FX4.out _ Z25.out).cell 1, (FX4.out _ Z25.out).cell 2, (FX5.out _ Z25.out).cell 0, (FX5.out _ Z25.out).cell 1, (FX5.out _ Z25.out).cell 2, (FX6.out _ Z25.out).cell 0, (FX6.out _ Z25.out).cell 1, (FX6.out _ Z25.out).cell 2, (FX7.out _ Z25.out).cell 0, (FX7.out _ Z25.out).cell 1, (FX7.out _ Z25.out).cell 2, (FX8.out _ Z25.out).cell 0, (FX8.out _ Z25.out).cell 1, (FX8.out _ Z25.out).cell 2⟩) (fun hHeld => ?_)
    clear hK K
    try simp only [Act.put, List.getElem_toArray, List.getElem_cons_succ, List.getElem_cons_zero, List.setIfInBounds_toArray, List.set_cons_zero, List.set_cons_succ]
    refine wpAnyH_take (i := 54) (v := ?_) rfl (by kernel_rfl) (by kernel_rfl) (by kernel_rfl) (fun _ _ _ h => h) (Or.inl ⟨by rfl, ?_⟩) (by assumption) ?_
    rotate_left 1
    · (intro w hSw; (try dsimp only at hSw); go_simp; try with_reducible rfl)
    try simp only [Act.put, List.getElem_toArray, List.getElem_cons_succ, List.getElem_cons_zero, List.setIfInBounds_toArray, List.set_cons_zero, List.set_cons_succ]
    refine wpAnyH_take (i := 55) (v := ?_) rfl (by kernel_rfl) (by kernel_rfl) (by kernel_rfl) (fun _ _ _ h => h) (Or.inl ⟨by rfl, ?_⟩) (by assumption) ?_
    rotate_left 1
    · (intro w hSw; (try dsimp only at hSw); go_simp; try with_reducible rfl)
    try simp only [Act.put, List.getElem_toArray, List.getElem_cons_succ, List.getElem_cons_zero, List.setIfInBounds_toArray, List.set_cons_zero, List.set_cons_succ]
    refine wpAnyH_take (i := 56) (v := ?_) rfl (by kernel_rfl) (by kernel_rfl) (by kernel_rfl) (fun _ _ _ h => h) (Or.inl ⟨by rfl, ?_⟩) (by assumption) ?_
    rotate_left 1
    · (intro w hSw; (try dsimp only at hSw); go_simp; try with_reducible rfl)
    try simp only [Act.put, List.getElem_toArray, List.getElem_cons_succ, List.getElem_cons_zero, List.setIfInBounds_toArray, List.set_cons_zero, List.set_cons_succ]
    refine wpAnyH_take (i := 57) (v := ?_) rfl (by kernel_rfl) (by kernel_rfl) (by kernel_rfl) (fun _ _ _ h => h) (Or.inl ⟨by rfl, ?_⟩) (by assumption) ?_
    rotate_left 1
    · (intro w hSw; (try dsimp only at hSw); go_simp; try with_reducible rfl)
    try simp only [Act.put, List.getElem_toArray, List.getElem_cons_succ, List.getElem_cons_zero, List.setIfInBounds_toArray, List.set_cons_zero, List.set_cons_succ]
    refine wpAnyH_take (i := 59) (v := ?_) rfl (by kernel_rfl) (by kernel_rfl) (by kernel_rfl) (fun _ _ _ h => h) (Or.inl ⟨by rfl, ?_⟩) (by assumption) ?_
    rotate_left 1
    · (intro w hSw; (try dsimp only at hSw); go_simp; try with_reducible rfl)
    try simp only [Act.put, List.getElem_toArray, List.getElem_cons_succ, List.getElem_cons_zero, List.setIfInBounds_toArray, List.set_cons_zero, List.set_cons_succ]
    refine wpAnyH_ready (rs := [58]) (by kernel_rfl) (by simp) ?_
    refine AllReadyH.cons rfl (fun K hK => ?_) AllReadyH.nil
    try simp only [Act.put, List.getElem_toArray, List.getElem_cons_succ, List.getElem_cons_zero, List.setIfInBounds_toArray, List.set_cons_zero, List.set_cons_succ]
    go_simp
    go_at_call 40
    with_reducible refine (Q7.out _ Z25.out).mono ?_
    rintro e w26 ⟨rfl, bz⟩
    have Z26 := hide (Z25.out.trans (bz.mono Z25.out.size))
    clear bz Q7 Z25
    dsimp only
    refine hK.out _ _ (⟨(FX1.out _ Z26.out).cell 0, (FX1.out _ Z26.out).cell 1, (FX1.out _ Z26.out).cell 2, (FX4.out _ Z26.out).cell 0, (FX4.out _ Z26.out).cell 1, (FX4.out _ Z26.out).cell 2, (FX5.out _ Z26.out).cell 0, (FX5.out _ Z26.out).cell 1, (FX5.out _ Z26.out).cell 2, (FX6.out _ Z26.out).cell 0, (FX6.out _ Z26.out).cell 1, (FX6.out _ Z26.out).cell 2, (FX7.out _ Z26.out).cell 0, (FX7.out _ Z26.out).cell 1, (FX7.out _ Z26.out).cell 2, (FX8.out _ Z26.out).cell 0, (FX8.out _ Z26.out).cell 1, (FX8.out _ Z26.out).cell 2⟩) (fun hHeld => ?_)
    clear hK K
    try simp only [Act.put, List.getElem_toArray, List.getElem_cons_succ, List.getElem_cons_zero, List.setIfInBounds_toArray, List.set_cons_zero, List.set_cons_succ]
    refine wpAnyH_ready (rs := [60]) (by kernel_rfl) (by simp) ?_
    refine AllReadyH.cons rfl (fun K hK => ?_) AllReadyH.nil
    try simp only [Act.put, List.getElem_toArray, List.getElem_cons_succ, List.getElem_cons_zero, List.setIfInBounds_toArray, List.set_cons_zero, List.set_cons_succ]
    go_simp
    go_at_call 41
    with_reducible refine (Q8.out _ Z26.out).mono ?_
    rintro e w27 ⟨rfl, bz⟩
    have Z27 := hide (Z26.out.trans (bz.mono Z26.out.size))
    clear bz Q8 Z26
    dsimp only
    refine hK.out _ _ (⟨(FX1.out _ Z27.out).cell 0, (FX1.out _ Z27.out).cell 1, (FX1.out _ Z27.out).cell 2, (FX4.out _ Z27.out).cell 0, (FX4.out _ Z27.out).cell 1, (FX4.out _ Z27.out).cell 2, (FX5.out _ Z27.out).cell 0, (FX5.out _ Z27.out).cell 1, (FX5.out _ Z27.out).cell 2, (FX6.out _ Z27.out).cell 0, (FX6.out _ Z27.out).cell 1, (FX6.out _ Z27.out).cell 2, (FX7.out _ Z27.out).cell 0, (FX7.out _ Z27.out).cell 1, (FX7.out _ Z27.out).cell 2, (FX8.out _ Z27.out).cell 0, (FX8.out _ Z27.out).cell 1, (FX8.out _ Z27.out).cell 2⟩) (fun hHeld => ?_)
    clear hK K
    try simp only [Act.put, List.getElem_toArray, List.getElem_cons_succ, List.getElem_cons_zero, List.setIfInBounds_toArray, List.set_cons_zero, List.set_cons_succ]
    refine wpAnyH_take (i := 61) (v := ?_) rfl (by kernel_rfl) (by kernel_rfl) (by kernel_rfl) (fun _ _ _ h => h) (Or.inl ⟨by rfl, ?_⟩) (by assumption) ?_
    rotate_left 1
    · (intro w hSw; (try dsimp only at hSw); go_simp; try with_reducible rfl)
    try simp only [Act.put, List.getElem_toArray, List.getElem_cons_succ, List.getElem_cons_zero, List.setIfInBounds_toArray, List.set_cons_zero, List.set_cons_succ]
    refine wpAnyH_take (i := 62) (v := ?_) rfl (by kernel_rfl) (by kernel_rfl) (by kernel_rfl) (fun _ _ _ h => h) (Or.inl ⟨by rfl, ?_⟩) (by assumption) ?_
    rotate_left 1
    · (intro w hSw; (try dsimp only at hSw); go_simp; try with_reducible rfl)
    try simp only [Act.put, List.getElem_toArray, List.getElem_cons_succ, List.getElem_cons_zero, List.setIfInBounds_toArray, List.set_cons_zero, List.set_cons_succ]
    refine wpAnyH_done (by kernel_rfl) ?_ _
    go_wp2_with fail
    go_meet
    exact ⟨rfl, Z27.out⟩
  case rest =>
    obtain ⟨rfl, Z1⟩ := hcut
    clear FT FX1 FX6 FX7 FX8 FZ1 FZ6 FZ7 Fn1 Fn2 HBO HC8 HS1 HF1 HS6 HF6 HS7 HF7 Q1 Q2 Q3 Q4 Q5 Q6 Q7 Q8 FR
    go_upto_region 18 with fail
    go_cut [184] (fun cc wx => ∃ vb : Bool, cc = .bool vb ∧ Hid (vb = true → tc = 0 ∧ te ≤ 200) ∧ Hid (Below w13a.heap.size w13a wx))
    case first =>
      as_aux_lemma =>
        by_cases hb1 : tc = 0
        case neg =>
          have hB : (tc == 0) = false := by simpa using hb1
          have HB1 := hide hb1
          clear hb1
          go_wp2_with fail
          go_meet
          exact ⟨false, rfl, hide (fun e => by cases e), Z1⟩
        have hB1 : (tc == 0) = true := by simpa using hb1
        have HB1 := hide hb1
        clear hb1
        by_cases hb2 : te ≤ 200
        · have hB2 : decide (te ≤ 200) = true := decide_eq_true hb2
          have HB2 := hide hb2
          clear hb2
          go_wp2_with fail
          go_meet
          exact ⟨true, rfl, hide (fun _ => ⟨HB1.out, HB2.out⟩), Z1⟩
        · have hB2 : decide (te ≤ 200) = false := decide_eq_false hb2
          clear hb2
          go_wp2_with fail
          go_meet
          exact ⟨false, rfl, hide (fun e => by cases e), Z1⟩
    case rest =>
      as_aux_lemma =>
        obtain ⟨vb, rfl, HVB, Z2⟩ := hcut
        clear Z1
        go_upto_if 184 with fail
        go_cut [] (fun wx => Hid (Below w13a.heap.size w13a wx))
        case first =>
          as_aux_lemma =>
            cases vb
            · go_wp2_with fail
              go_meet
              exact Z2.out
            obtain ⟨ht0, ht1⟩ := HVB.out rfl
            obtain ⟨he0, he1⟩ := LW.out.e0 ht0
            have HN := hide (LW.out.n0 ht0)
            have HK := hide (LW.out.k0 ht0)
            have HLV := hide fun (k : Int) (h0 : 0 ≤ k) (h1 : k ≤ te) W (hW : Below w13a.heap.size w13a W) => (show Calls Tryd.prog 25 #[(.agg #[.int .i64 x2.z, .slice A2 x2.of.length c2, .slice B2 x2.ch.length d2]), .int .i64 zt, .int .i64 k] W fun e w' => e = .returned (.tuple #[.int .i64 (lvl x2.ch zt k), .int .i64 0]) ∧ Below W.heap.size W w' from by
              have h := P_LevelAt x2 (.agg #[.int .i64 x2.z, .slice A2 x2.of.length c2, .slice B2 x2.ch.length d2]) zt k W HS2.out HF2.out (FZ2.out W hW) (by omega) (by omega) (by omega) (by omega)
              rw [HK.out k h0 h1] at h
              exact h)
            clear HVB ht0 FX3 FX4 FX5 FX13 FZ3 FZ4 FZ5 FB LA HS3 HF3 HS4 HF4 HC3 HCD3 HK LW
            generalize lvl x2.ch zt = lv at *
            obtain ⟨t, rfl⟩ : ∃ t : Nat, te = t := ⟨te.toNat, by omega⟩
            rw [Int.toNat_natCast] at HN
            have HTN := HN.out
            subst HTN
            clear HN
            go_wp2_with fail
            go_loopg [32, 31] t (fun g i cn wr => ∃ k : Nat, k ≤ t ∧ Hid (g = t - k) ∧ i = .int .i64 k ∧ cn = .int .i64 (cntAt (fun q => geB ls (lv q)) k) ∧ Hid (Below w13a.heap.size w13a wr))
            case atStart => exact ⟨0, by omega, by simp [Hid], rfl, by simp [cntAt], Z2⟩
            case round =>
              obtain ⟨k, hk, hg, rfl, rfl, HBR⟩ := hrel
              clear Z2
              by_cases hkt : k < t
              case neg =>
                obtain rfl : k = t := by omega
                go_wp2_with fail
                go_meet
                exact HBR.out
              have HC := hide (HLV.out (k : Int) (by omega) (by omega) wr HBR.out)
              have HCN := hide (show cntAt (fun q => geB ls (lv q)) (k + 1) = cntAt (fun q => geB ls (lv q)) k + if geB ls (lv k) then 1 else 0 from rfl)
              have hcb := cntAt_bd (fun q => geB ls (lv q)) k
              have y0 := (FX2.out wr HBR.out).cell 0
              have y1 := (FX2.out wr HBR.out).cell 1
              have y2 := (FX2.out wr HBR.out).cell 2
              by_cases hge : ls ≤ lv k
              · rw [geB_t hge, if_pos rfl] at HCN
                have hB1 : decide (lv (k : Int) ≥ ls) = true := decide_eq_true hge
                have hB2 : decide (ls ≤ lv (k : Int)) = true := decide_eq_true hge
                have hB3 : decide (lv (k : Int) < ls) = false := decide_eq_false (by omega)
                have HNX := hide (show cntAt (fun q => geB ls (lv q)) (k + 1) = cntAt (fun q => geB ls (lv q)) k + 1 from HCN.out)
                clear hge HCN
                generalize hcu : cntAt (fun q => geB ls (lv q)) k = cu at *
                generalize lv (k : Int) = lk at *
                clear hcu
                go_wp2_with (go_at_call 25; (with_reducible refine (HC.out).mono ?_); rintro e w23 ⟨rfl, bz⟩; have Z5 := hide (HBR.out.trans (bz.mono HBR.out.size)); clear bz)
                go_roundg (t - (k + 1))
                case measure => have := hg.out; omega
                case rel => exact ⟨k + 1, by omega, rfl, by go_num, by rw [HNX.out], Z5⟩
              · rw [geB_f hge] at HCN
                have hB1 : decide (lv (k : Int) ≥ ls) = false := decide_eq_false hge
                have hB2 : decide (ls ≤ lv (k : Int)) = false := decide_eq_false hge
                have hB3 : decide (lv (k : Int) < ls) = true := decide_eq_true (by omega)
                have HNX := hide (show cntAt (fun q => geB ls (lv q)) (k + 1) = cntAt (fun q => geB ls (lv q)) k from by rw [HCN.out]; simp)
                clear hge HCN
                generalize hcu : cntAt (fun q => geB ls (lv q)) k = cu at *
                generalize lv (k : Int) = lk at *
                clear hcu
                go_wp2_with (go_at_call 25; (with_reducible refine (HC.out).mono ?_); rintro e w23 ⟨rfl, bz⟩; have Z5 := hide (HBR.out.trans (bz.mono HBR.out.size)); clear bz)
                go_roundg (t - (k + 1))
                case measure => have := hg.out; omega
                case rel => exact ⟨k + 1, by omega, rfl, by go_num, by rw [HNX.out], Z5⟩
        case rest =>
          as_aux_lemma =>
            have Z3 : Hid (Below w13a.heap.size w13a wc) := hcut
            clear Z2 hcut HVB LW FX2 FZ2 HS2 HF2
            by_cases hcd : cd = 0
            case neg =>
              have hB : (cd != 0) = true := by simp [hcd]
              have HON := hide hcd
              clear hcd
              go_wp2_with fail
              go_ret
              exact ⟨rfl, FB.out _ Z3.out⟩
            obtain ⟨la1, la2, la3⟩ := LA.out hcd
            subst hcd
            have HLV := hide (show Calls Tryd.prog 25 #[(.agg #[.int .i64 x4.z, .slice A4 x4.of.length c4, .slice B4 x4.ch.length d4]), .int .i64 t3.b, .int .i64 t3.a] wc fun e w' => e = .returned (.tuple #[.int .i64 t3.c, .int .i64 0]) ∧ Below wc.heap.size wc w' from by
              have hcd := HCD3.out
              unfold CDr at hcd
              have h := P_LevelAt x4 (.agg #[.int .i64 x4.z, .slice A4 x4.of.length c4, .slice B4 x4.ch.length d4]) t3.b t3.a wc HS4.out HF4.out (FZ4.out wc Z3.out) (by omega) (by omega) (by omega) (by omega)
              rw [la3] at h
              exact h)
            have HVZ := hide fun W (hW : Below w13a.heap.size w13a W) => (show Calls Tryd.prog 40 #[(.agg #[.int .i64 x4.z, .slice A4 x4.of.length c4, .slice B4 x4.ch.length d4])] W fun e w' => e = .returned (.bool true) ∧ Below W.heap.size W w' from by
              have h := P_ValidZoned x4 (.agg #[.int .i64 x4.z, .slice A4 x4.of.length c4, .slice B4 x4.ch.length d4]) W HS4.out HF4.out (FZ4.out W hW)
              rw [la1] at h
              exact h)
            have hla2 : x4.ch.length = x3.ch.length + 1 := la2
            clear la1 la2 la3 LA HCD3 HS4 HF4 FZ4 FZ5 FZ3 HS3 HF3 HC3
            generalize x4.ch.length = n4 at *
            subst hla2
            have y0 := (FX4.out wc Z3.out).cell 0
            have y1 := (FX4.out wc Z3.out).cell 1
            have y2 := (FX4.out wc Z3.out).cell 2
            have u0 := (FX13.out wc Z3.out).cell 0
            have u1 := (FX13.out wc Z3.out).cell 1
            have u2 := (FX13.out wc Z3.out).cell 2
            go_upto_region 33 with (go_at_call 25; (with_reducible refine (HLV.out).mono ?_); rintro e w30 ⟨rfl, bz⟩)
            have Z4 := hide (Z3.out.trans (bz.mono Z3.out.size))
            clear bz HLV y0 y1 y2 u0 u1 u2 Z3
            have y0 := (FX4.out w30 Z4.out).cell 0
            have y1 := (FX4.out w30 Z4.out).cell 1
            have y2 := (FX4.out w30 Z4.out).cell 2
            have u2 := (FX13.out w30 Z4.out).cell 2
            go_wp2_with (go_at_call 40; (with_reducible refine (HVZ.out _ Z4.out).mono ?_); rintro e w31 ⟨rfl, bz⟩; have Z5 := hide (Z4.out.trans (bz.mono Z4.out.size)); have v2 := (FX5.out w31 Z5.out).cell 2; have z2 := (FX3.out w31 Z5.out).cell 2; clear bz)
            go_ret
            exact ⟨by simp, FB.out _ Z5.out⟩
theorem fnLevels_own : ownKnob Tryd.prog.godebug = none := by kernel_rfl
/-- The cells that a listed table has. -/
def litCell : Lit → Value
  | .int k n => .int k n
  | _ => undef
def datCells : DataW Unit → Array Value
  | .agg l => (l.map fun | .lit x => litCell x | _ => undef).toArray
  | _ => #[]
/-- One world that fits: each listed table as its initialiser lays it. -/
noncomputable def laidWorld (os : Os) : World :=
  let w0 := World.holding Tryd.prog os ⟨#[], #[], []⟩
  { w0 with heap := Rows.fnLevelsRow.laid.foldl (fun h x => match Tryd.prog.globalNamed x.1 with
      | some g => h.modify g fun
        | .cells _ t frozen => .cells (datCells x.2) t frozen
        | o => o
      | none => h) w0.heap }
theorem laidWorld_met (os : Os) (args : Array Value) : laidMet Tryd.prog Rows.fnLevelsRow.laid ((laidWorld os).forCall (fun _ _ => 0) ⟨#[], args, []⟩).memory :=
  laidMet_of_run' 8 (by kernel_rfl) (by kernel_rfl)
theorem fnLevels_laid : laidOutB Tryd.prog = true := by kernel_rfl
set_option maxRecDepth 100000 in
theorem fnLevels_lifted (os : Os) (started : os.Started) (H : Type) (enc : TypeId × Value → H) :
    ReturnsInHanded {} Tryd.checked os 5 .any (fun w args => (Rows.fnLevelsSpec.pre enc Tryd.prog Tryd.f5 Rows.fnLevelsRow.domain false w args ∧ laidMet Tryd.prog Rows.fnLevelsRow.laid w) ∧ sizedMet enc Tryd.prog Tryd.f5 (OpenSpec.ofChange Rows.fnLevelsSpec) false w args) (Rows.fnLevelsSpec.post enc Tryd.prog Tryd.f5 false true false false) := by
  refine returnsInHanded_of_change_and (C := Tryd.checked) (X := fun w _ => laidMet Tryd.prog Rows.fnLevelsRow.laid w) (fun _ _ _ hh h => h.of_heap hh) fnLevels_own started (by kernel_rfl) Tryd.func5
    (ChangeSpec.witness_at (enc := enc) (C := Tryd.checked) (os := os) (X := fun w _ => laidMet Tryd.prog Rows.fnLevelsRow.laid w) false (laidWorld os) #[.slice none 0 0] 8 rfl (by kernel_rfl) (by kernel_rfl) (by kernel_rfl) (by kernel_rfl) (by kernel_rfl) (laidWorld_met os _)) ?_
  intro W base args ds gs before hval0 hW hcnd _ hL _
  have hval : ∀ (j : Nat) t v, Tryd.f5.params[j]? = some t → args[j]? = some v → Value.okWide Tryd.prog W .any base t v := hval0
  have hW' := hW
  obtain ⟨p, q, hA0, hV, rfl, hfz, hnd⟩ := hW
  have hA : DataW.TrodAll enc Tryd.prog W 0 (fun _ => true) true Tryd.f5.params.toList args.toList ds p := hA0
  rw [Tryd.params5] at hA hval
  obtain ⟨v0, vs0, d0, ds0, p0, q0, hargs, rfl, rfl, h0, r0⟩ := trodAll_cons hA
  obtain ⟨rfl, rfl, rfl⟩ := trodAll_nil r0
  obtain rfl : args = #[v0] := by cases args; simp_all
  obtain ⟨rfl, rfl⟩ := trodVars_none hV
  have k0 := h0
  have lt0 : ∀ x ∈ p0, x.block < W.heap.size := by obtain ⟨m, hm⟩ := k0; exact DataW.trod_lt m _ _ _ hm
  obtain ⟨A0, c0, zs0, rfl, rd0, len0, bd0⟩ := open_B Tryd.underlying22 Tryd.underlying5 (by kernel_rfl) (hval 0 22 v0 rfl rfl) h0
  clear hA0 hval0
  refine (lLevels_walk zs0 (.slice A0 zs0.length c0) W ⟨A0, c0, rfl, rd0⟩ len0 bd0 hL).mono fun e W' ⟨he, bel⟩ => ?_
  subst he
  exact ⟨_, rfl, _, _, _, [], _, [], hW', trodAll_mk1 (shut_bool Tryd.underlying4 _), (trodAll_cons_mk (Below.trod fnLevels_laid (by kernel_rfl) (of_decide_eq_true (by kernel_rfl)) k0 bel lt0) trodAll_mk0), rfl, bel.frame _, fun h => by cases h⟩
theorem fnLevels_holds : Rows.FnLevelsSaid :=
  OpenClaim.holds_of_wide 5 Tryd.f5 rfl rfl rfl rfl rfl rfl rfl ⟨rfl, rfl, rfl, rfl, rfl⟩ rfl rfl rfl rfl rfl (by kernel_rfl) Tryd.func5 (by kernel_rfl)
    (of_decide_eq_true (by kernel_rfl)) (by unfold Func.isWrapper; first | (rw [if_pos (by decide +kernel)]; kernel_rfl) | (rw [if_neg (by decide +kernel)]; exact ⟨rfl, rfl⟩))
    (fun os started H enc _ => fnLevels_lifted os started H enc)
theorem fnLevels_card_holds : Rows.FnLevelsCardSaid :=
  Claim7.holds_tied_plain_at .later [] [.data, .data, .data] true Rows.fnLevelsCard.stood.harness false
    fnLevels_holds (fun _ h => by cases h) (by kernel_rfl) (fun _ h => by cases h) fnLevels_row_tie rfl ⟨rfl, rfl⟩ (by kernel_rfl) rfl
    (fun f fn hf hfn => by
      obtain rfl : f = 5 := Option.some.inj ((show Tryd.prog.funcNamed Rows.fnLevelsRow.func = some 5 by kernel_rfl).symm.trans hf) |>.symm
      obtain rfl : fn = Tryd.f5 := (Option.some.inj (Tryd.func5.symm.trans hfn)).symm
      exact ⟨by kernel_rfl, fun j t ht => by
        rw [Tryd.params5] at ht
        have hm : t ∈ (Tryd.f5.params).toList := by
          rw [Tryd.params5]
          exact Array.mem_toList_iff.2 (Array.mem_of_getElem? ht)
        exact (of_decide_eq_true (by kernel_rfl) : ∀ t ∈ (Tryd.f5.params).toList, Tryd.prog.wantsStandIn t = false) t hm⟩)
    (by kernel_rfl)
#print axioms fnLevels_card_holds
end Go.Proofs.YtofjnmeblmbnmaaDoor
