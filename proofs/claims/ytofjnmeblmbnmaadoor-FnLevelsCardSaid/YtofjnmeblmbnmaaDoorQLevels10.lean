/-
  A change is added: the reference.
-/
import Derived.Test.YtofjnmeblmbnmaaDoorQLevels9
import Derived.Deep.DeepCutAuto
import Derived.Deep.CutBlock
namespace Go.Proofs.YtofjnmeblmbnmaaDoor
open Go.RowKit
theorem Rd.frontZ {w : World} {B : Nat} {A : Option Addr} {u v : List Value} (h : Rd w B A (u ++ v)) : Rd w B A u := fun hn => by
  obtain ⟨b, o, hA, hb, hc⟩ := h (fun e => hn (List.append_eq_nil_iff.1 e).1)
  exact ⟨b, o, hA, hb, fun j x hx => hc j x (by rw [List.getElem?_append_left (lt_of_get hx)]; exact hx)⟩
theorem rd3_takeZ {w : World} {B : Nat} {A : Option Addr} {xs : List T3} (h : Rd3 w B A xs) (k : Nat) : Rd3 w B A (xs.take k) := by
  have e : xs.flatMap T3.cells = (xs.take k).flatMap T3.cells ++ (xs.drop k).flatMap T3.cells := by rw [← List.flatMap_append, List.take_append_drop]
  unfold Rd3 at h ⊢
  rw [e] at h
  exact h.frontZ
theorem rd3_dropZ {w : World} {B : Nat} {b o : Nat} {xs : List T3} (h : Rd3 w B (some ⟨b, o, none⟩) xs) {k : Nat} (hk : k ≤ xs.length) : Rd3 w B (some ⟨b, o + k * 3, none⟩) (xs.drop k) := by
  have e : xs.flatMap T3.cells = (xs.take k).flatMap T3.cells ++ (xs.drop k).flatMap T3.cells := by rw [← List.flatMap_append, List.take_append_drop]
  have hl : ((xs.take k).flatMap T3.cells).length = k * 3 := by rw [flatMap_len T3.cells 3 (fun _ => rfl), List.length_take, Nat.min_eq_left hk]
  intro hn
  obtain ⟨b', o', hA, hb, hc⟩ := h (fun e2 => hn (by rw [e] at e2; exact (List.append_eq_nil_iff.1 e2).2))
  cases hA
  refine ⟨b, o + k * 3, rfl, hb, fun j u hj => ?_⟩
  rw [Nat.add_assoc]
  exact hc (k * 3 + j) u (by rw [e, List.getElem?_append_right (by omega), hl, show k * 3 + j - k * 3 = j by omega]; exact hj)
/-- An answer without zones. -/
theorem none_zoned {x : TZ} {y : T3} {k : Int} (h : addChange x y = (⟨0, [], []⟩, k)) {w w' : World} (b : Below w.heap.size w w') : ∃ (A' : Option Addr) (c' : Nat) (A2' : Option Addr) (c2' : Nat), Ending.returned (.tuple #[.agg #[.int .i64 0, .slice none 0 0, .slice none 0 0], .int .i64 k]) = .returned (.tuple #[.agg #[.int .i64 (addChange x y).1.z, .slice A' (addChange x y).1.of.length c', .slice A2' (addChange x y).1.ch.length c2'], .int .i64 (addChange x y).2]) ∧
      w'.ownsRow w.heap.size 2 1 (.slice A' (addChange x y).1.of.length c') (addChange x y).1.of.length ((addChange x y).1.of.map (Value.int .i64)) ∧ w'.ownsRow w.heap.size 41 3 (.slice A2' (addChange x y).1.ch.length c2') (addChange x y).1.ch.length ((addChange x y).1.ch.flatMap T3.cells) ∧
      (∀ g, (Value.slice A' (addChange x y).1.of.length c').ownBlock = some g → ∀ g2, (Value.slice A2' (addChange x y).1.ch.length c2').ownBlock = some g2 → g < g2) ∧ Below w.heap.size w w' := by
  rw [h]
  exact ⟨none, 0, none, 0, rfl, World.ownsRow_nil _ _ _ _, World.ownsRow_nil _ _ _ _, fun g e => (by cases e), b⟩
set_option maxRecDepth 100000 in
set_option maxHeartbeats 8000000 in
theorem specAddChangeM_any (x : TZ) (y : T3) (A : Option Addr) (c : Nat) (A2 : Option Addr) (c2 : Nat) (w : World) (hs : Small_Zoned x) (hcap : x.ch.length ≤ c2) (h1 : RdI w w.heap.size A x.of) (h2 : Rd3 w w.heap.size A2 x.ch) :
    Calls Tryd.prog 32 #[.agg #[.int .i64 x.z, .slice A x.of.length c, .slice A2 x.ch.length c2], .agg #[.int .i64 y.a, .int .i64 y.b, .int .i64 y.c]] w fun e w' => ∃ (A' : Option Addr) (c' : Nat) (A2' : Option Addr) (c2' : Nat), e = .returned (.tuple #[.agg #[.int .i64 (addChange x y).1.z, .slice A' (addChange x y).1.of.length c', .slice A2' (addChange x y).1.ch.length c2'], .int .i64 (addChange x y).2]) ∧
      w'.ownsRow w.heap.size 2 1 (.slice A' (addChange x y).1.of.length c') (addChange x y).1.of.length ((addChange x y).1.of.map (Value.int .i64)) ∧ w'.ownsRow w.heap.size 41 3 (.slice A2' (addChange x y).1.ch.length c2') (addChange x y).1.ch.length ((addChange x y).1.ch.flatMap T3.cells) ∧
      (∀ g, (Value.slice A' (addChange x y).1.of.length c').ownBlock = some g → ∀ g2, (Value.slice A2' (addChange x y).1.ch.length c2').ownBlock = some g2 → g < g2) ∧ Below w.heap.size w w' := by
  obtain ⟨hs1, hs2⟩ := hs
  have XZ : Hid (BoxN (((w.alloc (.cells #[.int .i64 x.z, .slice A x.of.length c, .slice A2 x.ch.length c2] 47)).alloc (.cells #[.int .i64 y.a, .int .i64 y.b, .int .i64 y.c] 41)).alloc (.cells #[.int .i64 0, .slice none 0 0, .slice none 0 0] 47)) (w.heap.size) #[.int .i64 x.z, .slice A x.of.length c, .slice A2 x.ch.length c2] 47) := ((BoxN.new w #[.int .i64 x.z, .slice A x.of.length c, .slice A2 x.ch.length c2] 47).alloc (.cells #[.int .i64 y.a, .int .i64 y.b, .int .i64 y.c] 41)).alloc (.cells #[.int .i64 0, .slice none 0 0, .slice none 0 0] 47)
  have XC : Hid (BoxN (((w.alloc (.cells #[.int .i64 x.z, .slice A x.of.length c, .slice A2 x.ch.length c2] 47)).alloc (.cells #[.int .i64 y.a, .int .i64 y.b, .int .i64 y.c] 41)).alloc (.cells #[.int .i64 0, .slice none 0 0, .slice none 0 0] 47)) (w.heap.size + 1) #[.int .i64 y.a, .int .i64 y.b, .int .i64 y.c] 41) := by
    have h := (BoxN.new (w.alloc (.cells #[.int .i64 x.z, .slice A x.of.length c, .slice A2 x.ch.length c2] 47)) #[.int .i64 y.a, .int .i64 y.b, .int .i64 y.c] 41).alloc (.cells #[.int .i64 0, .slice none 0 0, .slice none 0 0] 47)
    have e : (w.alloc (.cells #[.int .i64 x.z, .slice A x.of.length c, .slice A2 x.ch.length c2] 47)).heap.size = w.heap.size + 1 := by simp
    rw [e] at h; exact h
  have XR : Hid (BoxN (((w.alloc (.cells #[.int .i64 x.z, .slice A x.of.length c, .slice A2 x.ch.length c2] 47)).alloc (.cells #[.int .i64 y.a, .int .i64 y.b, .int .i64 y.c] 41)).alloc (.cells #[.int .i64 0, .slice none 0 0, .slice none 0 0] 47)) (w.heap.size + 1 + 1) #[.int .i64 0, .slice none 0 0, .slice none 0 0] 47) := by
    have h := BoxN.new ((w.alloc (.cells #[.int .i64 x.z, .slice A x.of.length c, .slice A2 x.ch.length c2] 47)).alloc (.cells #[.int .i64 y.a, .int .i64 y.b, .int .i64 y.c] 41)) #[.int .i64 0, .slice none 0 0, .slice none 0 0] 47
    have e : ((w.alloc (.cells #[.int .i64 x.z, .slice A x.of.length c, .slice A2 x.ch.length c2] 47)).alloc (.cells #[.int .i64 y.a, .int .i64 y.b, .int .i64 y.c] 41)).heap.size = w.heap.size + 1 + 1 := by simp
    rw [e] at h; exact h
  have b0 : Below w.heap.size w (((w.alloc (.cells #[.int .i64 x.z, .slice A x.of.length c, .slice A2 x.ch.length c2] 47)).alloc (.cells #[.int .i64 y.a, .int .i64 y.b, .int .i64 y.c] 41)).alloc (.cells #[.int .i64 0, .slice none 0 0, .slice none 0 0] 47)) := (by repeat (first | exact Below.refl _ _ | assumption | (refine Below.alloc ?_ (by simp <;> omega) _) | refine Below.drew ?_ | refine bdn ?_ _))
  have HX := hide fun W (hW : Below w.heap.size w W) => RdI.more (RdI.below h1 hW) hW.size
  have HM := hide fun W (hW : Below w.heap.size w W) => ((h2.below hW).more hW.size)
  have HK := hide (l09Ok_any x A c A2 c2 w.heap.size (((w.alloc (.cells #[.int .i64 x.z, .slice A x.of.length c, .slice A2 x.ch.length c2] 47)).alloc (.cells #[.int .i64 y.a, .int .i64 y.b, .int .i64 y.c] 41)).alloc (.cells #[.int .i64 0, .slice none 0 0, .slice none 0 0] 47)) ⟨hs1, hs2⟩ (XZ.out.cell 0) (XZ.out.cell 1) (XZ.out.cell 2) (HX.out _ b0) (HM.out _ b0))
  have z2 : w.heap.size + 1 + 1 < (((w.alloc (.cells #[.int .i64 x.z, .slice A x.of.length c, .slice A2 x.ch.length c2] 47)).alloc (.cells #[.int .i64 y.a, .int .i64 y.b, .int .i64 y.c] 41)).alloc (.cells #[.int .i64 0, .slice none 0 0, .slice none 0 0] 47)).heap.size := XR.out.lt
  have BW := hide b0
  clear h1 h2 b0
  cases hv : vZoned x
  · rw [hv] at HK
    have HR := hide (show addChange x y = (⟨0, [], []⟩, 1) by unfold addChange; rw [if_pos hv])
    clear hv
    go_enter Tryd.func32, Tryd.ntmps32
    go_upto_region 1 with fail
    generalize (((w.alloc (.cells #[.int .i64 x.z, .slice A x.of.length c, .slice A2 x.ch.length c2] 47)).alloc (.cells #[.int .i64 y.a, .int .i64 y.b, .int .i64 y.c] 41)).alloc (.cells #[.int .i64 0, .slice none 0 0, .slice none 0 0] 47)) = w0 at *
    go_upto_region 2 with (go_at_call 88; (with_reducible refine (HK.out).mono ?_); rintro e w1 ⟨rfl, b1⟩)
    have XZ1 := hide (XZ.out.below b1 (by have := XZ.out.lt; omega))
    have XC1 := hide (XC.out.below b1 (by have := XC.out.lt; omega))
    have XR1 := hide (XR.out.below b1 (by have := XR.out.lt; omega))
    have BW1 := hide (BW.out.trans (b1.mono BW.out.size))
    clear b1
    have T1 := hide (XR1.out.set 0 (.int .i64 0))
    have T2 := hide (T1.out.set 1 (.slice none 0 0))
    have T3' := hide (T2.out.set 2 (.slice none 0 0))
    have m0 : w1.cell? ⟨w.heap.size + 1 + 1, 0, none⟩ = some (.int .i64 0) := XR1.out.cell 0
    have n0' := XR1.out.fro 0
    have m1 : (w1.setCell ⟨w.heap.size + 1 + 1, 0, none⟩ (.int .i64 0)).cell? ⟨w.heap.size + 1 + 1, 1, none⟩ = some (.slice none 0 0) := T1.out.cell 1
    have n1 := T1.out.fro 1
    have m2 : ((w1.setCell ⟨w.heap.size + 1 + 1, 0, none⟩ (.int .i64 0)).setCell ⟨w.heap.size + 1 + 1, 1, none⟩ (.slice none 0 0)).cell? ⟨w.heap.size + 1 + 1, 2, none⟩ = some (.slice none 0 0) := T2.out.cell 2
    have n2 := T2.out.fro 2
    have q0 : (((w1.setCell ⟨w.heap.size + 1 + 1, 0, none⟩ (.int .i64 0)).setCell ⟨w.heap.size + 1 + 1, 1, none⟩ (.slice none 0 0)).setCell ⟨w.heap.size + 1 + 1, 2, none⟩ (.slice none 0 0)).cell? ⟨w.heap.size + 1 + 1, 0, none⟩ = some (.int .i64 0) := T3'.out.cell 0
    have q1 : (((w1.setCell ⟨w.heap.size + 1 + 1, 0, none⟩ (.int .i64 0)).setCell ⟨w.heap.size + 1 + 1, 1, none⟩ (.slice none 0 0)).setCell ⟨w.heap.size + 1 + 1, 2, none⟩ (.slice none 0 0)).cell? ⟨w.heap.size + 1 + 1, 1, none⟩ = some (.slice none 0 0) := T3'.out.cell 1
    have q2 : (((w1.setCell ⟨w.heap.size + 1 + 1, 0, none⟩ (.int .i64 0)).setCell ⟨w.heap.size + 1 + 1, 1, none⟩ (.slice none 0 0)).setCell ⟨w.heap.size + 1 + 1, 2, none⟩ (.slice none 0 0)).cell? ⟨w.heap.size + 1 + 1, 2, none⟩ = some (.slice none 0 0) := T3'.out.cell 2
    go_wp2_with fail
    exact bodyPost_ret (v := .tuple #[.agg #[.int .i64 0, .slice none 0 0, .slice none 0 0], .int .i64 1]) (by simp [results, Tryd.results32, go_sem, q0, q1, q2]) rfl (none_zoned HR.out (((BW1.out.setCell (p := ⟨w.heap.size + 1 + 1, 0, none⟩) (by dsimp only; omega) _).setCell (p := ⟨w.heap.size + 1 + 1, 1, none⟩) (by dsimp only; omega) _).setCell (p := ⟨w.heap.size + 1 + 1, 2, none⟩) (by dsimp only; omega) _))

  obtain ⟨⟨hzz0, hzz1⟩, ho24, hc60, hof, hch⟩ := vZoned_iff hv
  have HCH := hide hch
  have HV := hide hv
  rw [hv] at HK
  have HLC := hide fun W (k0 : W.cell? ⟨w.heap.size + 1, 0, none⟩ = some (.int .i64 y.a)) (k1 : W.cell? ⟨w.heap.size + 1, 1, none⟩ = some (.int .i64 y.b)) (k2 : W.cell? ⟨w.heap.size + 1, 2, none⟩ = some (.int .i64 y.c)) => l09Change_any x.z y (w.heap.size + 1) 0 W (by omega) (by omega) k0 k1 k2
  clear hv hof hch
  cases hok : okC x.z y
  · rw [hok] at HLC
    have HR := hide (show addChange x y = (⟨0, [], []⟩, 2) by unfold addChange; rw [if_neg (by rw [HV.out]; decide), if_pos hok])
    clear hok
    go_enter Tryd.func32, Tryd.ntmps32
    go_upto_region 1 with fail
    generalize (((w.alloc (.cells #[.int .i64 x.z, .slice A x.of.length c, .slice A2 x.ch.length c2] 47)).alloc (.cells #[.int .i64 y.a, .int .i64 y.b, .int .i64 y.c] 41)).alloc (.cells #[.int .i64 0, .slice none 0 0, .slice none 0 0] 47)) = w0 at *
    go_upto_region 3 with (go_at_call 88; (with_reducible refine (HK.out).mono ?_); rintro e w1 ⟨rfl, b1⟩)
    have XZ1 := hide (XZ.out.below b1 (by have := XZ.out.lt; omega))
    have XC1 := hide (XC.out.below b1 (by have := XC.out.lt; omega))
    have XR1 := hide (XR.out.below b1 (by have := XR.out.lt; omega))
    have BW1 := hide (BW.out.trans (b1.mono BW.out.size))
    clear b1
    have zc0 := XZ1.out.cell 0
    have zc1 := XZ1.out.cell 1
    have zc2 := XZ1.out.cell 2
    have cc0 := XC1.out.cell 0
    have cc1 := XC1.out.cell 1
    have cc2 := XC1.out.cell 2
    have HCC := hide (HLC.out w1 cc0 cc1 cc2)
    have T1 := hide (XR1.out.set 0 (.int .i64 0))
    have T2 := hide (T1.out.set 1 (.slice none 0 0))
    have T3' := hide (T2.out.set 2 (.slice none 0 0))
    have m0 : w1.cell? ⟨w.heap.size + 1 + 1, 0, none⟩ = some (.int .i64 0) := XR1.out.cell 0
    have n0' := XR1.out.fro 0
    have m1 : (w1.setCell ⟨w.heap.size + 1 + 1, 0, none⟩ (.int .i64 0)).cell? ⟨w.heap.size + 1 + 1, 1, none⟩ = some (.slice none 0 0) := T1.out.cell 1
    have n1 := T1.out.fro 1
    have m2 : ((w1.setCell ⟨w.heap.size + 1 + 1, 0, none⟩ (.int .i64 0)).setCell ⟨w.heap.size + 1 + 1, 1, none⟩ (.slice none 0 0)).cell? ⟨w.heap.size + 1 + 1, 2, none⟩ = some (.slice none 0 0) := T2.out.cell 2
    have n2 := T2.out.fro 2
    have q0 : (((w1.setCell ⟨w.heap.size + 1 + 1, 0, none⟩ (.int .i64 0)).setCell ⟨w.heap.size + 1 + 1, 1, none⟩ (.slice none 0 0)).setCell ⟨w.heap.size + 1 + 1, 2, none⟩ (.slice none 0 0)).cell? ⟨w.heap.size + 1 + 1, 0, none⟩ = some (.int .i64 0) := T3'.out.cell 0
    have q1 : (((w1.setCell ⟨w.heap.size + 1 + 1, 0, none⟩ (.int .i64 0)).setCell ⟨w.heap.size + 1 + 1, 1, none⟩ (.slice none 0 0)).setCell ⟨w.heap.size + 1 + 1, 2, none⟩ (.slice none 0 0)).cell? ⟨w.heap.size + 1 + 1, 1, none⟩ = some (.slice none 0 0) := T3'.out.cell 1
    have q2 : (((w1.setCell ⟨w.heap.size + 1 + 1, 0, none⟩ (.int .i64 0)).setCell ⟨w.heap.size + 1 + 1, 1, none⟩ (.slice none 0 0)).setCell ⟨w.heap.size + 1 + 1, 2, none⟩ (.slice none 0 0)).cell? ⟨w.heap.size + 1 + 1, 2, none⟩ = some (.slice none 0 0) := T3'.out.cell 2
    go_wp2_with (go_at_call 66; (with_reducible refine (HCC.out).mono ?_); rintro e w' ⟨rfl, rfl⟩)
    exact bodyPost_ret (v := .tuple #[.agg #[.int .i64 0, .slice none 0 0, .slice none 0 0], .int .i64 2]) (by simp [results, Tryd.results32, go_sem, q0, q1, q2]) rfl (none_zoned HR.out (((BW1.out.setCell (p := ⟨w.heap.size + 1 + 1, 0, none⟩) (by dsimp only; omega) _).setCell (p := ⟨w.heap.size + 1 + 1, 1, none⟩) (by dsimp only; omega) _).setCell (p := ⟨w.heap.size + 1 + 1, 2, none⟩) (by dsimp only; omega) _))

  rw [hok] at HLC
  have HOKC := hide hok
  clear hok
  cases hh : hasC x.ch y
  case true =>
    have HR := hide (show addChange x y = (⟨0, [], []⟩, 4) by unfold addChange; rw [if_neg (by rw [HV.out]; decide), if_neg (by rw [HOKC.out]; decide), if_pos hh])
    have HH := hide hh
    clear hh
    go_enter Tryd.func32, Tryd.ntmps32
    go_upto_region 1 with fail
    generalize (((w.alloc (.cells #[.int .i64 x.z, .slice A x.of.length c, .slice A2 x.ch.length c2] 47)).alloc (.cells #[.int .i64 y.a, .int .i64 y.b, .int .i64 y.c] 41)).alloc (.cells #[.int .i64 0, .slice none 0 0, .slice none 0 0] 47)) = w0 at *
    go_upto_region 3 with (go_at_call 88; (with_reducible refine (HK.out).mono ?_); rintro e w1 ⟨rfl, b1⟩)
    have XZ1 := hide (XZ.out.below b1 (by have := XZ.out.lt; omega))
    have XC1 := hide (XC.out.below b1 (by have := XC.out.lt; omega))
    have XR1 := hide (XR.out.below b1 (by have := XR.out.lt; omega))
    have BW1 := hide (BW.out.trans (b1.mono BW.out.size))
    have zc0 := XZ1.out.cell 0
    have zc1 := XZ1.out.cell 1
    have zc2 := XZ1.out.cell 2
    have cc0 := XC1.out.cell 0
    have cc1 := XC1.out.cell 1
    have cc2 := XC1.out.cell 2
    have HCC := hide (HLC.out w1 cc0 cc1 cc2)
    have HB11 := hide (Below.refl w1.heap.size w1)
    clear b1
    go_upto_region 5 with (go_at_call 66; (with_reducible refine (HCC.out).mono ?_); rintro e w' ⟨rfl, rfl⟩)
    clear HCC HLC
    go_wp2_with fail
    go_loopg [6] x.ch.length (fun g i wr => ∃ j : Nat, j ≤ x.ch.length ∧ Hid (g = x.ch.length - j) ∧ i = .int .i64 j ∧ Hid ((x.ch.drop j).any (fun x => decide (x.a = y.a ∧ x.b = y.b)) = true) ∧ Hid (Below w1.heap.size w1 wr))
    case atStart => exact ⟨0, by omega, by simp [Hid], rfl, by have := HH.out; unfold hasC at this; simpa [Hid] using this, HB11⟩
    case round =>
      obtain ⟨j, hj, hgj, rfl, HA, HB⟩ := hrel
      have XZr := hide (XZ1.out.below HB.out (by have := XZ1.out.lt; omega))
      have XCr := hide (XC1.out.below HB.out (by have := XC1.out.lt; omega))
      have XRr := hide (XR1.out.below HB.out (by have := XR1.out.lt; omega))
      have BWr := hide (BW1.out.trans (HB.out.mono BW1.out.size))
      clear zc0 zc1 zc2 cc0 cc1 cc2
      have zc0 := XZr.out.cell 0
      have zc1 := XZr.out.cell 1
      have zc2 := XZr.out.cell 2
      have cc0 := XCr.out.cell 0
      have cc1 := XCr.out.cell 1
      have cc2 := XCr.out.cell 2
      by_cases hjt : j < x.ch.length
      · obtain ⟨b3, o3, t, rfl, _, ht, c0, c1, c3⟩ := (HM.out wr BWr.out).at_ hjt
        have hA := HA.out
        rw [drop_cons ht, List.any_cons] at hA
        by_cases hta : t.a = y.a
        · have hb1 : (t.a == y.a) = true := by simp [hta]
          by_cases htb : t.b = y.b
          · have hb2 : (t.b == y.b) = true := by simp [htb]
            have HTA := hide hta
            have HTB := hide htb
            clear hA hta htb ht
            go_wp2_with fail
            go_quiet (fail)
            go_upto_region 9 with fail
            have bq : Below wr.heap.size wr (wr.drewN nq) := bdn (Below.refl wr.heap.size wr) nq
            have XZq := hide (XZr.out.below bq (by have := XZr.out.lt; omega))
            have XCq := hide (XCr.out.below bq (by have := XCr.out.lt; omega))
            have XRq := hide (XRr.out.below bq (by have := XRr.out.lt; omega))
            have BWq := hide (BWr.out.trans (bq.mono BWr.out.size))
            clear zc0 zc1 zc2 cc0 cc1 cc2 c0 c1 c3 bq
            generalize wr.drewN nq = wq at *
            have T1 := hide (XRq.out.set 0 (.int .i64 0))
            have T2 := hide (T1.out.set 1 (.slice none 0 0))
            have T3' := hide (T2.out.set 2 (.slice none 0 0))
            have m0 : wq.cell? ⟨w.heap.size + 1 + 1, 0, none⟩ = some (.int .i64 0) := XRq.out.cell 0
            have n0' := XRq.out.fro 0
            have m1 : (wq.setCell ⟨w.heap.size + 1 + 1, 0, none⟩ (.int .i64 0)).cell? ⟨w.heap.size + 1 + 1, 1, none⟩ = some (.slice none 0 0) := T1.out.cell 1
            have n1 := T1.out.fro 1
            have m2 : ((wq.setCell ⟨w.heap.size + 1 + 1, 0, none⟩ (.int .i64 0)).setCell ⟨w.heap.size + 1 + 1, 1, none⟩ (.slice none 0 0)).cell? ⟨w.heap.size + 1 + 1, 2, none⟩ = some (.slice none 0 0) := T2.out.cell 2
            have n2 := T2.out.fro 2
            have q0 : (((wq.setCell ⟨w.heap.size + 1 + 1, 0, none⟩ (.int .i64 0)).setCell ⟨w.heap.size + 1 + 1, 1, none⟩ (.slice none 0 0)).setCell ⟨w.heap.size + 1 + 1, 2, none⟩ (.slice none 0 0)).cell? ⟨w.heap.size + 1 + 1, 0, none⟩ = some (.int .i64 0) := T3'.out.cell 0
            have q1 : (((wq.setCell ⟨w.heap.size + 1 + 1, 0, none⟩ (.int .i64 0)).setCell ⟨w.heap.size + 1 + 1, 1, none⟩ (.slice none 0 0)).setCell ⟨w.heap.size + 1 + 1, 2, none⟩ (.slice none 0 0)).cell? ⟨w.heap.size + 1 + 1, 1, none⟩ = some (.slice none 0 0) := T3'.out.cell 1
            have q2 : (((wq.setCell ⟨w.heap.size + 1 + 1, 0, none⟩ (.int .i64 0)).setCell ⟨w.heap.size + 1 + 1, 1, none⟩ (.slice none 0 0)).setCell ⟨w.heap.size + 1 + 1, 2, none⟩ (.slice none 0 0)).cell? ⟨w.heap.size + 1 + 1, 2, none⟩ = some (.slice none 0 0) := T3'.out.cell 2
            go_wp2_with fail
            exact bodyPost_ret (v := .tuple #[.agg #[.int .i64 0, .slice none 0 0, .slice none 0 0], .int .i64 4]) (by simp [results, Tryd.results32, go_sem, q0, q1, q2]) rfl (none_zoned HR.out (((BWq.out.setCell (p := ⟨w.heap.size + 1 + 1, 0, none⟩) (by dsimp only; omega) _).setCell (p := ⟨w.heap.size + 1 + 1, 1, none⟩) (by dsimp only; omega) _).setCell (p := ⟨w.heap.size + 1 + 1, 2, none⟩) (by dsimp only; omega) _))
          · have hb2 : (t.b == y.b) = false := by simp [htb]
            have HA2 : Hid ((x.ch.drop (j + 1)).any (fun x => decide (x.a = y.a ∧ x.b = y.b)) = true) := by
              rw [decide_eq_false (by omega), Bool.false_or] at hA; exact hA
            have HTA := hide hta
            have HTB := hide htb
            clear hA hta htb ht
            as_aux_lemma =>
              go_wp2_with fail
              go_quiet (fail)
              go_wp2_with fail
              go_roundg (x.ch.length - (j + 1))
              case measure => have := hgj.out; omega
              case rel => exact ⟨j + 1, by omega, rfl, by go_num, HA2, bdn HB.out _⟩
        · have hb1 : (t.a == y.a) = false := by simp [hta]
          have HA2 : Hid ((x.ch.drop (j + 1)).any (fun x => decide (x.a = y.a ∧ x.b = y.b)) = true) := by
            rw [decide_eq_false (by omega), Bool.false_or] at hA; exact hA
          have HTA := hide hta
          clear hA hta ht
          as_aux_lemma =>
            go_wp2_with fail
            go_quiet (fail)
            go_wp2_with fail
            go_roundg (x.ch.length - (j + 1))
            case measure => have := hgj.out; omega
            case rel => exact ⟨j + 1, by omega, rfl, by go_num, HA2, bdn HB.out _⟩
      · have hA := HA.out
        rw [List.drop_eq_nil_of_le (by omega)] at hA
        cases hA
  have HH := hide hh
  have HNO := hide fun (j : Nat) (t : T3) (ht : x.ch[j]? = some t) => (show ¬ (t.a = y.a ∧ t.b = y.b) by
    have h := hh
    unfold hasC at h
    have := List.any_eq_false.1 h t (List.mem_of_getElem? ht)
    simpa using this)
  clear hh
  go_enter Tryd.func32, Tryd.ntmps32
  go_upto_region 1 with fail
  generalize (((w.alloc (.cells #[.int .i64 x.z, .slice A x.of.length c, .slice A2 x.ch.length c2] 47)).alloc (.cells #[.int .i64 y.a, .int .i64 y.b, .int .i64 y.c] 41)).alloc (.cells #[.int .i64 0, .slice none 0 0, .slice none 0 0] 47)) = w0 at *
  go_upto_region 3 with (go_at_call 88; (with_reducible refine (HK.out).mono ?_); rintro e w1 ⟨rfl, b1⟩)
  have XZ1 := hide (XZ.out.below b1 (by have := XZ.out.lt; omega))
  have XC1 := hide (XC.out.below b1 (by have := XC.out.lt; omega))
  have XR1 := hide (XR.out.below b1 (by have := XR.out.lt; omega))
  have BW1 := hide (BW.out.trans (b1.mono BW.out.size))
  have zc0 := XZ1.out.cell 0
  have zc1 := XZ1.out.cell 1
  have zc2 := XZ1.out.cell 2
  have cc0 := XC1.out.cell 0
  have cc1 := XC1.out.cell 1
  have cc2 := XC1.out.cell 2
  have HCC := hide (HLC.out w1 cc0 cc1 cc2)
  have HB11 := hide (Below.refl w1.heap.size w1)
  clear b1
  go_upto_region 5 with (go_at_call 66; (with_reducible refine (HCC.out).mono ?_); rintro e w' ⟨rfl, rfl⟩)
  clear HCC HLC
  go_wp2_with fail
  go_loopg [6] x.ch.length (fun g i wr => ∃ j : Nat, j ≤ x.ch.length ∧ Hid (g = x.ch.length - j) ∧ i = .int .i64 j ∧ Hid (Below w1.heap.size w1 wr))
  case atStart => exact ⟨0, by omega, by simp [Hid], rfl, HB11⟩
  case round =>
    obtain ⟨j, hj, hgj, rfl, HB⟩ := hrel
    have XZr := hide (XZ1.out.below HB.out (by have := XZ1.out.lt; omega))
    have XCr := hide (XC1.out.below HB.out (by have := XC1.out.lt; omega))
    have XRr := hide (XR1.out.below HB.out (by have := XR1.out.lt; omega))
    have BWr := hide (BW1.out.trans (HB.out.mono BW1.out.size))
    clear zc0 zc1 zc2 cc0 cc1 cc2
    have zc0 := XZr.out.cell 0
    have zc1 := XZr.out.cell 1
    have zc2 := XZr.out.cell 2
    have cc0 := XCr.out.cell 0
    have cc1 := XCr.out.cell 1
    have cc2 := XCr.out.cell 2
    by_cases hjt : j < x.ch.length
    · obtain ⟨b3, o3, t, rfl, _, ht, c0, c1, c3⟩ := (HM.out wr BWr.out).at_ hjt
      have hno := HNO.out j t ht
      by_cases hta : t.a = y.a
      · have hb1 : (t.a == y.a) = true := by simp [hta]
        have hb2 : (t.b == y.b) = false := by simp; intro h; exact hno ⟨hta, h⟩
        have HTA := hide hta
        clear hta ht hno
        as_aux_lemma =>
          go_wp2_with fail
          go_quiet (fail)
          go_wp2_with fail
          go_roundg (x.ch.length - (j + 1))
          case measure => have := hgj.out; omega
          case rel => exact ⟨j + 1, by omega, rfl, by go_num, bdn HB.out _⟩
      · have hb1 : (t.a == y.a) = false := by simp [hta]
        have HTA := hide hta
        clear hta ht hno
        as_aux_lemma =>
          go_wp2_with fail
          go_quiet (fail)
          go_wp2_with fail
          go_roundg (x.ch.length - (j + 1))
          case measure => have := hgj.out; omega
          case rel => exact ⟨j + 1, by omega, rfl, by go_num, bdn HB.out _⟩
    · obtain rfl : j = x.ch.length := by omega
      by_cases h60 : 60 ≤ x.ch.length
      · have HR := hide (show addChange x y = (⟨0, [], []⟩, 5) by unfold addChange; rw [if_neg (by rw [HV.out]; decide), if_neg (by rw [HOKC.out]; decide), if_neg (by rw [HH.out]; decide), if_pos h60])
        have T1 := hide (XRr.out.set 0 (.int .i64 0))
        have T2 := hide (T1.out.set 1 (.slice none 0 0))
        have T3' := hide (T2.out.set 2 (.slice none 0 0))
        have m0 : wr.cell? ⟨w.heap.size + 1 + 1, 0, none⟩ = some (.int .i64 0) := XRr.out.cell 0
        have n0' := XRr.out.fro 0
        have m1 : (wr.setCell ⟨w.heap.size + 1 + 1, 0, none⟩ (.int .i64 0)).cell? ⟨w.heap.size + 1 + 1, 1, none⟩ = some (.slice none 0 0) := T1.out.cell 1
        have n1 := T1.out.fro 1
        have m2 : ((wr.setCell ⟨w.heap.size + 1 + 1, 0, none⟩ (.int .i64 0)).setCell ⟨w.heap.size + 1 + 1, 1, none⟩ (.slice none 0 0)).cell? ⟨w.heap.size + 1 + 1, 2, none⟩ = some (.slice none 0 0) := T2.out.cell 2
        have n2 := T2.out.fro 2
        have q0 : (((wr.setCell ⟨w.heap.size + 1 + 1, 0, none⟩ (.int .i64 0)).setCell ⟨w.heap.size + 1 + 1, 1, none⟩ (.slice none 0 0)).setCell ⟨w.heap.size + 1 + 1, 2, none⟩ (.slice none 0 0)).cell? ⟨w.heap.size + 1 + 1, 0, none⟩ = some (.int .i64 0) := T3'.out.cell 0
        have q1 : (((wr.setCell ⟨w.heap.size + 1 + 1, 0, none⟩ (.int .i64 0)).setCell ⟨w.heap.size + 1 + 1, 1, none⟩ (.slice none 0 0)).setCell ⟨w.heap.size + 1 + 1, 2, none⟩ (.slice none 0 0)).cell? ⟨w.heap.size + 1 + 1, 1, none⟩ = some (.slice none 0 0) := T3'.out.cell 1
        have q2 : (((wr.setCell ⟨w.heap.size + 1 + 1, 0, none⟩ (.int .i64 0)).setCell ⟨w.heap.size + 1 + 1, 1, none⟩ (.slice none 0 0)).setCell ⟨w.heap.size + 1 + 1, 2, none⟩ (.slice none 0 0)).cell? ⟨w.heap.size + 1 + 1, 2, none⟩ = some (.slice none 0 0) := T3'.out.cell 2
        go_wp2_with fail
        exact bodyPost_ret (v := .tuple #[.agg #[.int .i64 0, .slice none 0 0, .slice none 0 0], .int .i64 5]) (by simp [results, Tryd.results32, go_sem, q0, q1, q2]) rfl (none_zoned HR.out (((BWr.out.setCell (p := ⟨w.heap.size + 1 + 1, 0, none⟩) (by dsimp only; omega) _).setCell (p := ⟨w.heap.size + 1 + 1, 1, none⟩) (by dsimp only; omega) _).setCell (p := ⟨w.heap.size + 1 + 1, 2, none⟩) (by dsimp only; omega) _))
      · have HPW := hide (chOk_strict HCH.out)
        obtain ⟨wA, hwA⟩ : ∃ q, q = wr := ⟨wr, rfl⟩
        subst hwA
        go_upto_block 2 with fail
        go_cut [7] (fun v wx => ∃ k : Nat, v = .int .i64 k ∧ k ≤ x.ch.length ∧ Hid (posC x.ch y = k) ∧ Hid (Below w1.heap.size w1 wx))
        case first =>
          go_wp2_with fail
          go_loopg [7] x.ch.length (fun g i wr => ∃ k : Nat, k ≤ x.ch.length ∧ Hid (g = k) ∧ i = .int .i64 k ∧ Hid (∀ t, x.ch[k]? = some t → ltC y t = true) ∧ Hid (Below w1.heap.size w1 wr))
          case atStart => exact ⟨x.ch.length, by omega, rfl, rfl, hide fun t ht => (by rw [List.getElem?_eq_none (Nat.le_refl _)] at ht; cases ht), HB.out⟩
          case round =>
            obtain ⟨k, hk, hgk, rfl, HF, HBr⟩ := hrel
            have XZs := hide (XZ1.out.below HBr.out (by have := XZ1.out.lt; omega))
            have XCs := hide (XC1.out.below HBr.out (by have := XC1.out.lt; omega))
            have XRs := hide (XR1.out.below HBr.out (by have := XR1.out.lt; omega))
            have BWs := hide (BW1.out.trans (HBr.out.mono BW1.out.size))
            clear zc0 zc1 zc2 cc0 cc1 cc2
            have zc0 := XZs.out.cell 0
            have zc1 := XZs.out.cell 1
            have zc2 := XZs.out.cell 2
            have cc0 := XCs.out.cell 0
            have cc1 := XCs.out.cell 1
            have cc2 := XCs.out.cell 2

            cases k with
            | zero =>
              have HPOS := hide (pos_end HPW.out HH.out (Nat.zero_le _) HF.out (.inl rfl))
              go_wp2_with fail
              go_quiet (fail)
              go_wp2_with fail
              go_meet
              exact ⟨0, rfl, by omega, HPOS.out, bdn HBr.out _⟩
            | succ m =>
              obtain ⟨b3, o3, t, rfl, _, ht, c0, c1, c3⟩ := (HM.out wr BWs.out).at_ (k := m) (by omega)
              have HEX := hide fun (h : ltC y t = false) => pos_end HPW.out HH.out hk HF.out (.inr ⟨t, by simpa using ht, h⟩)
              by_cases hlt : y.a < t.a
              · have hd1 : decide (y.a < t.a) = true := decide_eq_true hlt
                have HF2 : Hid (∀ t', x.ch[m]? = some t' → ltC y t' = true) := hide fun t' ht' => (by
                  obtain rfl := Option.some.inj (ht.symm.trans ht')
                  rw [ltC_iff]; exact .inl hlt)
                have HLT := hide hlt
                clear hlt ht HEX
                go_wp2_with fail
                go_quiet (fail)
                go_wp2_with fail
                go_roundg m
                case measure => have := hgk.out; omega
                case rel => exact ⟨m, by omega, rfl, by go_num, HF2, bdn HBr.out _⟩
              · have hd1 : decide (y.a < t.a) = false := decide_eq_false hlt
                by_cases hta : t.a = y.a
                · have hb1 : (t.a == y.a) = true := by simp [hta]
                  by_cases htb : y.b < t.b
                  · have hd3 : decide (y.b < t.b) = true := decide_eq_true htb
                    have HF2 : Hid (∀ t', x.ch[m]? = some t' → ltC y t' = true) := hide fun t' ht' => (by
                      obtain rfl := Option.some.inj (ht.symm.trans ht')
                      rw [ltC_iff]; exact .inr ⟨hta.symm, htb⟩)
                    have HLT := hide hlt
                    have HTA := hide hta
                    have HTB := hide htb
                    clear hlt hta htb ht HEX
                    go_wp2_with fail
                    go_quiet (fail)
                    go_wp2_with fail
                    go_roundg m
                    case measure => have := hgk.out; omega
                    case rel => exact ⟨m, by omega, rfl, by go_num, HF2, bdn HBr.out _⟩
                  · have hd3 : decide (y.b < t.b) = false := decide_eq_false htb
                    have HPOS := hide (HEX.out (by rw [Bool.eq_false_iff]; intro h; rw [ltC_iff] at h; omega))
                    have HLT := hide hlt
                    have HTA := hide hta
                    have HTB := hide htb
                    clear hlt hta htb ht HEX
                    go_wp2_with fail
                    go_quiet (fail)
                    go_wp2_with fail
                    go_meet
                    exact ⟨m + 1, rfl, hk, HPOS.out, bdn HBr.out _⟩
                · have hb1 : (t.a == y.a) = false := by simp [hta]
                  have HPOS := hide (HEX.out (by rw [Bool.eq_false_iff]; intro h; rw [ltC_iff] at h; omega))
                  have HLT := hide hlt
                  have HTA := hide hta
                  clear hlt hta ht HEX
                  go_wp2_with fail
                  go_quiet (fail)
                  go_wp2_with fail
                  go_meet
                  exact ⟨m + 1, rfl, hk, HPOS.out, bdn HBr.out _⟩
        case rest =>
          obtain ⟨k, rfl, hk, HPOS, HBc⟩ := hcut
          have XZc := hide (XZ1.out.below HBc.out (by have := XZ1.out.lt; omega))
          have XCc := hide (XC1.out.below HBc.out (by have := XC1.out.lt; omega))
          have XRc := hide (XR1.out.below HBc.out (by have := XR1.out.lt; omega))
          have BWc := hide (BW1.out.trans (HBc.out.mono BW1.out.size))

          have HW := hide (l09Own_any x A c A2 c2 w.heap.size wc ⟨hs1, hs2⟩ XZc.out (HX.out _ BWc.out) (HM.out _ BWc.out))
          clear HB XZr XCr XRr BWr HB11 XZ1 XC1 XR1 BW1 XZ XC XR BW HPW HNO zc0 zc1 zc2 cc0 cc1 cc2
          go_upto_region 16 with (go_at_call 89; (with_reducible refine (HW.out).mono ?_); rintro e w5 ⟨A5, c5, A6, c6, rfl, r5, r6, ap5, b5⟩)
          have b56 : Below w5.heap.size w5 (w5.alloc (.cells #[.int .i64 x.z, .slice A5 x.of.length c5, .slice A6 x.ch.length c6] 47)) := (Below.refl _ _).alloc (Nat.le_refl _) _
          have hwc2 : w.heap.size + 1 + 1 < wc.heap.size := XRc.out.lt
          have h5c := b5.size
          have XO6 := hide (BoxN.new w5 #[.int .i64 x.z, .slice A5 x.of.length c5, .slice A6 x.ch.length c6] 47)
          have R6 := hide (r5.alloc (.cells #[.int .i64 x.z, .slice A5 x.of.length c5, .slice A6 x.ch.length c6] 47))
          have HLT5 := hide fun g h => (r5.lt g h)
          have XZ6 := hide ((XZc.out.below b5 (by omega)).below b56 (by omega))
          have XC6 := hide ((XCc.out.below b5 (by omega)).below b56 (by omega))
          have XR6 := hide ((XRc.out.below b5 (by omega)).below b56 (by omega))
          have BW6 := hide ((BWc.out.trans (b5.mono BWc.out.size)).trans (b56.mono (by omega)))
          have hg56 : w5.heap.size < (w5.alloc (.cells #[.int .i64 x.z, .slice A5 x.of.length c5, .slice A6 x.ch.length c6] 47)).heap.size := XO6.out.lt
          clear XZc XCc XRc BWc b5 b56 r5 r6 ap5 HBc HW
          generalize w5.alloc (.cells #[.int .i64 x.z, .slice A5 x.of.length c5, .slice A6 x.ch.length c6] 47) = w6 at *
          generalize w5.heap.size = g5 at *
          have hz6 : (w6.alloc (.cells #[] 41)).heap.size = w6.heap.size + 1 := by simp
          have hown0 := own_new0 w6 w6.heap.size 41 3 (Nat.le_refl _)
          have b66 : Below w6.heap.size w6 (w6.alloc (.cells #[] 41)) := (Below.refl _ _).alloc (Nat.le_refl _) _
          have hk0 : (0 : Int) ≤ (k : Int) := by omega
          have hkc : (k : Int) ≤ (c2 : Int) := by omega
          have hkl : (k : Int) ≤ (x.ch.length : Int) := by omega
          have hlc : (x.ch.length : Int) ≤ (c2 : Int) := by omega
          have HRT := hide (rd3_takeZ (HM.out _ (BW6.out.trans (b66.mono BW6.out.size))) k)
          have HLT1 := hide (show ((x.ch.take k).flatMap T3.cells).length = k * 3 by rw [flatMap_len T3.cells 3 (fun _ => rfl), List.length_take, Nat.min_eq_left hk])
          have e2 : (w6.alloc (.cells #[] 41)).cell? ⟨w.heap.size, 2, none⟩ = some (.slice A2 x.ch.length c2) := (XZ6.out.below b66 (by omega)).cell 2
          obtain ⟨i0, hi0, hz0, hs0, hb0⟩ := info_parts Change_inf
          go_upto_region 17 with (at_builtin; go_must (refine wp_app _ rfl _ _ 45 rfl w6.heap.size 41 i0 (.agg #[.int .i64 0, .int .i64 0, .int .i64 0]) 3 24 Tryd.underlying45 hi0 hz0 hs0 hb0 rfl (by decide) _ _ _ rfl hown0 _ _ k _ _ rfl HLT1.out HRT.out (T3.ones _) (by omega) (by decide) (by omega) ?_); intro v7 w7 hown7 hgrow7 hat7)
          rw [Nat.zero_add, List.nil_append] at hown7
          have b67 := app_below b66 hown0 hgrow7 (Nat.le_refl _) (by omega)
          obtain ⟨A7, c7, rfl, _⟩ := own_shape hown7
          have y0 : w7.cell? ⟨w.heap.size + 1, 0, none⟩ = some (.int .i64 y.a) := (XC6.out.below b67 (by omega)).cell 0
          have y1 : w7.cell? ⟨w.heap.size + 1, 1, none⟩ = some (.int .i64 y.b) := (XC6.out.below b67 (by omega)).cell 1
          have y2 : w7.cell? ⟨w.heap.size + 1, 2, none⟩ = some (.int .i64 y.c) := (XC6.out.below b67 (by omega)).cell 2
          have hz7 := b67.size
          have hzl : (w7.alloc (.cells #[.int .i64 y.a, .int .i64 y.b, .int .i64 y.c] 41)).heap.size = w7.heap.size + 1 := by simp
          clear e2 hown0 hgrow7 hat7 HRT HLT1 b66 hz6
          go_upto_region 18 with (at_builtin; go_must (refine wp_app _ rfl _ _ 45 rfl w6.heap.size 41 i0 (.agg #[.int .i64 0, .int .i64 0, .int .i64 0]) 3 24 Tryd.underlying45 hi0 hz0 hs0 hb0 rfl (by decide) _ _ _ rfl (hown7.alloc _) _ _ 1 1 [.int .i64 y.a, .int .i64 y.b, .int .i64 y.c] rfl rfl (rd_new _ _ _ _ (by first | rfl | simp)) (by intro q hq; simp at hq; rcases hq with rfl | rfl | rfl <;> rfl) (by omega) (by decide) (by omega) ?_); intro v8 w8 hown8 hgrow8 hat8)
          have b68 := app_below (b67.alloc hz7 (.cells #[.int .i64 y.a, .int .i64 y.b, .int .i64 y.c] 41)) (hown7.alloc (.cells #[.int .i64 y.a, .int .i64 y.b, .int .i64 y.c] 41)) hgrow8 (Nat.le_refl _) (by omega)
          obtain ⟨A8, c8, rfl, _⟩ := own_shape hown8
          have hz8 := b68.size
          have BW8 := BW6.out.trans (b68.mono BW6.out.size)
          have e3 : w8.cell? ⟨w.heap.size, 2, none⟩ = some (.slice A2 x.ch.length c2) := (XZ6.out.below b68 (by omega)).cell 2
          clear y0 y1 y2 hown7 hgrow8 hat8 b67 hzl
          have HRES := hide (show addChange x y = (⟨x.z, x.of, insC x.ch y⟩, 0) by unfold addChange; rw [if_neg (by rw [HV.out]; decide), if_neg (by rw [HOKC.out]; decide), if_neg (by rw [HH.out]; decide), if_neg h60])
          rcases Nat.lt_or_ge k x.ch.length with hlt | hge
          · have hck : ¬ c2 = k := by omega
            have hck2 : ¬ k = c2 := by omega
            obtain ⟨b4, o4, t4, hA2', _⟩ := (HM.out w8 BW8).at_ hlt
            subst hA2'
            have HRD := hide (rd3_dropZ (HM.out w8 BW8) hk)
            have HLD := hide (show ((x.ch.drop k).flatMap T3.cells).length = (x.ch.length - k) * 3 by rw [flatMap_len T3.cells 3 (fun _ => rfl), List.length_drop])
            go_upto_region 19 with (at_builtin; go_must (refine wp_app _ rfl _ _ 45 rfl w6.heap.size 41 i0 (.agg #[.int .i64 0, .int .i64 0, .int .i64 0]) 3 24 Tryd.underlying45 hi0 hz0 hs0 hb0 rfl (by decide) _ _ _ rfl hown8 _ _ (x.ch.length - k) _ _ rfl HLD.out HRD.out (T3.ones _) (by omega) (by decide) (by omega) ?_); intro v9 w9 hown9 hgrow9 hat9; have b69 := app_below b68 hown8 hgrow9 (Nat.le_refl _) hz8; have XO9 := hide (XO6.out.below b69 (by omega)); have o2 := XO9.out.cell 2; have f2 := XO9.out.fro 2; obtain ⟨A9, c9, rfl, _⟩ := own_shape hown9)
            have XO10 := hide (XO9.out.set 2 (.slice A9 (k + 1 + (x.ch.length - k)) c9))
            have XR10 := hide ((XR6.out.below b69 (by omega)).other (b' := g5) (by omega) 2 (.slice A9 (k + 1 + (x.ch.length - k)) c9))
            have l0 : (w9.setCell ⟨g5, 2, none⟩ (.slice A9 (k + 1 + (x.ch.length - k)) c9)).cell? ⟨g5, 0, none⟩ = some (.int .i64 x.z) := XO10.out.cell 0
            have l1 : (w9.setCell ⟨g5, 2, none⟩ (.slice A9 (k + 1 + (x.ch.length - k)) c9)).cell? ⟨g5, 1, none⟩ = some (.slice A5 x.of.length c5) := XO10.out.cell 1
            have l2 : (w9.setCell ⟨g5, 2, none⟩ (.slice A9 (k + 1 + (x.ch.length - k)) c9)).cell? ⟨g5, 2, none⟩ = some (.slice A9 (k + 1 + (x.ch.length - k)) c9) := XO10.out.cell 2
            have BW10 := hide ((BW6.out.trans (b69.mono BW6.out.size)).setCell (p := ⟨g5, 2, none⟩) (by dsimp only; omega) (.slice A9 (k + 1 + (x.ch.length - k)) c9))
            have RF10 := hide ((own_below R6.out b69 (Nat.le_refl _)).kept (grown_setCell w9 ⟨g5, 2, none⟩ (.slice A9 (k + 1 + (x.ch.length - k)) c9)) (.inr fun e => by have := HLT5.out _ e; (try dsimp only at this); omega))
            have RC10 := hide (hown9.kept (grown_setCell w9 ⟨g5, 2, none⟩ (.slice A9 (k + 1 + (x.ch.length - k)) c9)) (.inr fun e => by have := (hown9.lt _ e).1; (try dsimp only at this); omega))
            have HL9 := hide fun g h => (hown9.lt g h).1
            clear o2 f2 hown9 hgrow9 hat9 b69 XO9 e3
            generalize (w9.setCell ⟨g5, 2, none⟩ (.slice A9 (k + 1 + (x.ch.length - k)) c9)) = w10 at *
            have T1 := hide (XR10.out.set 0 (.int .i64 x.z))
            have T2 := hide (T1.out.set 1 (.slice A5 x.of.length c5))
            have T3' := hide (T2.out.set 2 (.slice A9 (k + 1 + (x.ch.length - k)) c9))
            have m0 : w10.cell? ⟨w.heap.size + 1 + 1, 0, none⟩ = some (.int .i64 0) := XR10.out.cell 0
            have n0' := XR10.out.fro 0
            have m1 : (w10.setCell ⟨w.heap.size + 1 + 1, 0, none⟩ (.int .i64 x.z)).cell? ⟨w.heap.size + 1 + 1, 1, none⟩ = some (.slice none 0 0) := T1.out.cell 1
            have n1 := T1.out.fro 1
            have m2 : ((w10.setCell ⟨w.heap.size + 1 + 1, 0, none⟩ (.int .i64 x.z)).setCell ⟨w.heap.size + 1 + 1, 1, none⟩ (.slice A5 x.of.length c5)).cell? ⟨w.heap.size + 1 + 1, 2, none⟩ = some (.slice none 0 0) := T2.out.cell 2
            have n2 := T2.out.fro 2
            have q0 : (((w10.setCell ⟨w.heap.size + 1 + 1, 0, none⟩ (.int .i64 x.z)).setCell ⟨w.heap.size + 1 + 1, 1, none⟩ (.slice A5 x.of.length c5)).setCell ⟨w.heap.size + 1 + 1, 2, none⟩ (.slice A9 (k + 1 + (x.ch.length - k)) c9)).cell? ⟨w.heap.size + 1 + 1, 0, none⟩ = some (.int .i64 x.z) := T3'.out.cell 0
            have q1 : (((w10.setCell ⟨w.heap.size + 1 + 1, 0, none⟩ (.int .i64 x.z)).setCell ⟨w.heap.size + 1 + 1, 1, none⟩ (.slice A5 x.of.length c5)).setCell ⟨w.heap.size + 1 + 1, 2, none⟩ (.slice A9 (k + 1 + (x.ch.length - k)) c9)).cell? ⟨w.heap.size + 1 + 1, 1, none⟩ = some (.slice A5 x.of.length c5) := T3'.out.cell 1
            have q2 : (((w10.setCell ⟨w.heap.size + 1 + 1, 0, none⟩ (.int .i64 x.z)).setCell ⟨w.heap.size + 1 + 1, 1, none⟩ (.slice A5 x.of.length c5)).setCell ⟨w.heap.size + 1 + 1, 2, none⟩ (.slice A9 (k + 1 + (x.ch.length - k)) c9)).cell? ⟨w.heap.size + 1 + 1, 2, none⟩ = some (.slice A9 (k + 1 + (x.ch.length - k)) c9) := T3'.out.cell 2
            go_wp2_with fail
            refine bodyPost_ret (v := .tuple #[.agg #[.int .i64 x.z, .slice A5 x.of.length c5, (.slice A9 (k + 1 + (x.ch.length - k)) c9)], .int .i64 0]) (by simp [results, Tryd.results32, go_sem, q0, q1, q2]) rfl ?_
            have hn9 : k + 1 + (x.ch.length - k) = (insC x.ch y).length := by have := insC_len x.ch y; omega
            have hcells : (insC x.ch y).flatMap T3.cells = (x.ch.take k).flatMap T3.cells ++ [.int .i64 y.a, .int .i64 y.b, .int .i64 y.c] ++ (x.ch.drop k).flatMap T3.cells := by
              unfold insC; rw [HPOS.out]; simp [List.flatMap_append, T3.cells]
            have hr := RC10.out
            rw [← hcells] at hr
            have ne2 : ∀ g, (Value.slice A5 x.of.length c5).ownBlock = some g → g ≠ w.heap.size + 1 + 1 := fun g e => by have := HLT5.out g e; omega
            have ne9 : ∀ g, (Value.slice A9 (k + 1 + (x.ch.length - k)) c9).ownBlock = some g → g ≠ w.heap.size + 1 + 1 := fun g e => by have := HL9.out g e; omega
            have K1 := (((RF10.out.kept (grown_setCell w10 ⟨w.heap.size + 1 + 1, 0, none⟩ (.int .i64 x.z)) (.inr fun e => ne2 _ e rfl)).kept (grown_setCell _ ⟨w.heap.size + 1 + 1, 1, none⟩ (.slice A5 x.of.length c5)) (.inr fun e => ne2 _ e rfl)).kept (grown_setCell _ ⟨w.heap.size + 1 + 1, 2, none⟩ (.slice A9 (k + 1 + (x.ch.length - k)) c9)) (.inr fun e => ne2 _ e rfl))
            have K2 := (((hr.kept (grown_setCell w10 ⟨w.heap.size + 1 + 1, 0, none⟩ (.int .i64 x.z)) (.inr fun e => ne9 _ e rfl)).kept (grown_setCell _ ⟨w.heap.size + 1 + 1, 1, none⟩ (.slice A5 x.of.length c5)) (.inr fun e => ne9 _ e rfl)).kept (grown_setCell _ ⟨w.heap.size + 1 + 1, 2, none⟩ (.slice A9 (k + 1 + (x.ch.length - k)) c9)) (.inr fun e => ne9 _ e rfl))
            have hap : ∀ g, (Value.slice A5 x.of.length c5).ownBlock = some g → ∀ g2, (Value.slice A9 (k + 1 + (x.ch.length - k)) c9).ownBlock = some g2 → g < g2 := fun g e g2 e2 => by have := HLT5.out g e; have := HL9.out g2 e2; omega
            rw [HRES.out]
            rw [hn9] at K1 K2 hap ⊢
            exact ⟨A5, c5, A9, c9, rfl, own_base K1 (by omega), own_base K2 (by omega), hap, ((BW10.out.setCell (p := ⟨w.heap.size + 1 + 1, 0, none⟩) (by dsimp only; omega) _).setCell (p := ⟨w.heap.size + 1 + 1, 1, none⟩) (by dsimp only; omega) _).setCell (p := ⟨w.heap.size + 1 + 1, 2, none⟩) (by dsimp only; omega) _⟩
          · obtain rfl : k = x.ch.length := by omega
            rcases Nat.lt_or_ge x.ch.length c2 with hcl | hcl
            · have hck : ¬ c2 = x.ch.length := by omega
              have hck2 : ¬ x.ch.length = c2 := by omega
              cases A2 with
              | none =>
                go_upto_region 19 with (at_builtin; go_must (refine wp_app _ rfl _ _ 45 rfl w6.heap.size 41 i0 (.agg #[.int .i64 0, .int .i64 0, .int .i64 0]) 3 24 Tryd.underlying45 hi0 hz0 hs0 hb0 rfl (by decide) _ _ _ rfl hown8 _ _ 0 _ [] rfl rfl (Rd.nil _ 0 _) (fun u hu => by cases hu) (by omega) (by decide) (by omega) ?_); intro v9 w9 hown9 hgrow9 hat9; have b69 := app_below b68 hown8 hgrow9 (Nat.le_refl _) hz8; have XO9 := hide (XO6.out.below b69 (by omega)); have o2 := XO9.out.cell 2; have f2 := XO9.out.fro 2; obtain ⟨A9, c9, rfl, _⟩ := own_shape hown9)
                have XO10 := hide (XO9.out.set 2 (.slice A9 (x.ch.length + 1) c9))
                have XR10 := hide ((XR6.out.below b69 (by omega)).other (b' := g5) (by omega) 2 (.slice A9 (x.ch.length + 1) c9))
                have l0 : (w9.setCell ⟨g5, 2, none⟩ (.slice A9 (x.ch.length + 1) c9)).cell? ⟨g5, 0, none⟩ = some (.int .i64 x.z) := XO10.out.cell 0
                have l1 : (w9.setCell ⟨g5, 2, none⟩ (.slice A9 (x.ch.length + 1) c9)).cell? ⟨g5, 1, none⟩ = some (.slice A5 x.of.length c5) := XO10.out.cell 1
                have l2 : (w9.setCell ⟨g5, 2, none⟩ (.slice A9 (x.ch.length + 1) c9)).cell? ⟨g5, 2, none⟩ = some (.slice A9 (x.ch.length + 1) c9) := XO10.out.cell 2
                have BW10 := hide ((BW6.out.trans (b69.mono BW6.out.size)).setCell (p := ⟨g5, 2, none⟩) (by dsimp only; omega) (.slice A9 (x.ch.length + 1) c9))
                have RF10 := hide ((own_below R6.out b69 (Nat.le_refl _)).kept (grown_setCell w9 ⟨g5, 2, none⟩ (.slice A9 (x.ch.length + 1) c9)) (.inr fun e => by have := HLT5.out _ e; (try dsimp only at this); omega))
                have RC10 := hide (hown9.kept (grown_setCell w9 ⟨g5, 2, none⟩ (.slice A9 (x.ch.length + 1) c9)) (.inr fun e => by have := (hown9.lt _ e).1; (try dsimp only at this); omega))
                have HL9 := hide fun g h => (hown9.lt g h).1
                clear o2 f2 hown9 hgrow9 hat9 b69 XO9 e3
                generalize (w9.setCell ⟨g5, 2, none⟩ (.slice A9 (x.ch.length + 1) c9)) = w10 at *
                have T1 := hide (XR10.out.set 0 (.int .i64 x.z))
                have T2 := hide (T1.out.set 1 (.slice A5 x.of.length c5))
                have T3' := hide (T2.out.set 2 (.slice A9 (x.ch.length + 1) c9))
                have m0 : w10.cell? ⟨w.heap.size + 1 + 1, 0, none⟩ = some (.int .i64 0) := XR10.out.cell 0
                have n0' := XR10.out.fro 0
                have m1 : (w10.setCell ⟨w.heap.size + 1 + 1, 0, none⟩ (.int .i64 x.z)).cell? ⟨w.heap.size + 1 + 1, 1, none⟩ = some (.slice none 0 0) := T1.out.cell 1
                have n1 := T1.out.fro 1
                have m2 : ((w10.setCell ⟨w.heap.size + 1 + 1, 0, none⟩ (.int .i64 x.z)).setCell ⟨w.heap.size + 1 + 1, 1, none⟩ (.slice A5 x.of.length c5)).cell? ⟨w.heap.size + 1 + 1, 2, none⟩ = some (.slice none 0 0) := T2.out.cell 2
                have n2 := T2.out.fro 2
                have q0 : (((w10.setCell ⟨w.heap.size + 1 + 1, 0, none⟩ (.int .i64 x.z)).setCell ⟨w.heap.size + 1 + 1, 1, none⟩ (.slice A5 x.of.length c5)).setCell ⟨w.heap.size + 1 + 1, 2, none⟩ (.slice A9 (x.ch.length + 1) c9)).cell? ⟨w.heap.size + 1 + 1, 0, none⟩ = some (.int .i64 x.z) := T3'.out.cell 0
                have q1 : (((w10.setCell ⟨w.heap.size + 1 + 1, 0, none⟩ (.int .i64 x.z)).setCell ⟨w.heap.size + 1 + 1, 1, none⟩ (.slice A5 x.of.length c5)).setCell ⟨w.heap.size + 1 + 1, 2, none⟩ (.slice A9 (x.ch.length + 1) c9)).cell? ⟨w.heap.size + 1 + 1, 1, none⟩ = some (.slice A5 x.of.length c5) := T3'.out.cell 1
                have q2 : (((w10.setCell ⟨w.heap.size + 1 + 1, 0, none⟩ (.int .i64 x.z)).setCell ⟨w.heap.size + 1 + 1, 1, none⟩ (.slice A5 x.of.length c5)).setCell ⟨w.heap.size + 1 + 1, 2, none⟩ (.slice A9 (x.ch.length + 1) c9)).cell? ⟨w.heap.size + 1 + 1, 2, none⟩ = some (.slice A9 (x.ch.length + 1) c9) := T3'.out.cell 2
                go_wp2_with fail
                refine bodyPost_ret (v := .tuple #[.agg #[.int .i64 x.z, .slice A5 x.of.length c5, (.slice A9 (x.ch.length + 1) c9)], .int .i64 0]) (by simp [results, Tryd.results32, go_sem, q0, q1, q2]) rfl ?_
                have hn9 : x.ch.length + 1 = (insC x.ch y).length := by have := insC_len x.ch y; omega
                have hcells : (insC x.ch y).flatMap T3.cells = (x.ch.take x.ch.length).flatMap T3.cells ++ [.int .i64 y.a, .int .i64 y.b, .int .i64 y.c] ++ [] := by
                  unfold insC; rw [HPOS.out]; simp [List.flatMap_append, T3.cells]
                have hr := RC10.out
                rw [← hcells] at hr
                have ne2 : ∀ g, (Value.slice A5 x.of.length c5).ownBlock = some g → g ≠ w.heap.size + 1 + 1 := fun g e => by have := HLT5.out g e; omega
                have ne9 : ∀ g, (Value.slice A9 (x.ch.length + 1) c9).ownBlock = some g → g ≠ w.heap.size + 1 + 1 := fun g e => by have := HL9.out g e; omega
                have K1 := (((RF10.out.kept (grown_setCell w10 ⟨w.heap.size + 1 + 1, 0, none⟩ (.int .i64 x.z)) (.inr fun e => ne2 _ e rfl)).kept (grown_setCell _ ⟨w.heap.size + 1 + 1, 1, none⟩ (.slice A5 x.of.length c5)) (.inr fun e => ne2 _ e rfl)).kept (grown_setCell _ ⟨w.heap.size + 1 + 1, 2, none⟩ (.slice A9 (x.ch.length + 1) c9)) (.inr fun e => ne2 _ e rfl))
                have K2 := (((hr.kept (grown_setCell w10 ⟨w.heap.size + 1 + 1, 0, none⟩ (.int .i64 x.z)) (.inr fun e => ne9 _ e rfl)).kept (grown_setCell _ ⟨w.heap.size + 1 + 1, 1, none⟩ (.slice A5 x.of.length c5)) (.inr fun e => ne9 _ e rfl)).kept (grown_setCell _ ⟨w.heap.size + 1 + 1, 2, none⟩ (.slice A9 (x.ch.length + 1) c9)) (.inr fun e => ne9 _ e rfl))
                have hap : ∀ g, (Value.slice A5 x.of.length c5).ownBlock = some g → ∀ g2, (Value.slice A9 (x.ch.length + 1) c9).ownBlock = some g2 → g < g2 := fun g e g2 e2 => by have := HLT5.out g e; have := HL9.out g2 e2; omega
                rw [HRES.out]
                rw [hn9] at K1 K2 hap ⊢
                exact ⟨A5, c5, A9, c9, rfl, own_base K1 (by omega), own_base K2 (by omega), hap, ((BW10.out.setCell (p := ⟨w.heap.size + 1 + 1, 0, none⟩) (by dsimp only; omega) _).setCell (p := ⟨w.heap.size + 1 + 1, 1, none⟩) (by dsimp only; omega) _).setCell (p := ⟨w.heap.size + 1 + 1, 2, none⟩) (by dsimp only; omega) _⟩
              | some a =>
                obtain ⟨b4, o4, q4⟩ := a
                go_upto_region 19 with (at_builtin; go_must (refine wp_app _ rfl _ _ 45 rfl w6.heap.size 41 i0 (.agg #[.int .i64 0, .int .i64 0, .int .i64 0]) 3 24 Tryd.underlying45 hi0 hz0 hs0 hb0 rfl (by decide) _ _ _ rfl hown8 _ _ 0 _ [] rfl rfl (Rd.nil _ 0 _) (fun u hu => by cases hu) (by omega) (by decide) (by omega) ?_); intro v9 w9 hown9 hgrow9 hat9; have b69 := app_below b68 hown8 hgrow9 (Nat.le_refl _) hz8; have XO9 := hide (XO6.out.below b69 (by omega)); have o2 := XO9.out.cell 2; have f2 := XO9.out.fro 2; obtain ⟨A9, c9, rfl, _⟩ := own_shape hown9)
                have XO10 := hide (XO9.out.set 2 (.slice A9 (x.ch.length + 1) c9))
                have XR10 := hide ((XR6.out.below b69 (by omega)).other (b' := g5) (by omega) 2 (.slice A9 (x.ch.length + 1) c9))
                have l0 : (w9.setCell ⟨g5, 2, none⟩ (.slice A9 (x.ch.length + 1) c9)).cell? ⟨g5, 0, none⟩ = some (.int .i64 x.z) := XO10.out.cell 0
                have l1 : (w9.setCell ⟨g5, 2, none⟩ (.slice A9 (x.ch.length + 1) c9)).cell? ⟨g5, 1, none⟩ = some (.slice A5 x.of.length c5) := XO10.out.cell 1
                have l2 : (w9.setCell ⟨g5, 2, none⟩ (.slice A9 (x.ch.length + 1) c9)).cell? ⟨g5, 2, none⟩ = some (.slice A9 (x.ch.length + 1) c9) := XO10.out.cell 2
                have BW10 := hide ((BW6.out.trans (b69.mono BW6.out.size)).setCell (p := ⟨g5, 2, none⟩) (by dsimp only; omega) (.slice A9 (x.ch.length + 1) c9))
                have RF10 := hide ((own_below R6.out b69 (Nat.le_refl _)).kept (grown_setCell w9 ⟨g5, 2, none⟩ (.slice A9 (x.ch.length + 1) c9)) (.inr fun e => by have := HLT5.out _ e; (try dsimp only at this); omega))
                have RC10 := hide (hown9.kept (grown_setCell w9 ⟨g5, 2, none⟩ (.slice A9 (x.ch.length + 1) c9)) (.inr fun e => by have := (hown9.lt _ e).1; (try dsimp only at this); omega))
                have HL9 := hide fun g h => (hown9.lt g h).1
                clear o2 f2 hown9 hgrow9 hat9 b69 XO9 e3
                generalize (w9.setCell ⟨g5, 2, none⟩ (.slice A9 (x.ch.length + 1) c9)) = w10 at *
                have T1 := hide (XR10.out.set 0 (.int .i64 x.z))
                have T2 := hide (T1.out.set 1 (.slice A5 x.of.length c5))
                have T3' := hide (T2.out.set 2 (.slice A9 (x.ch.length + 1) c9))
                have m0 : w10.cell? ⟨w.heap.size + 1 + 1, 0, none⟩ = some (.int .i64 0) := XR10.out.cell 0
                have n0' := XR10.out.fro 0
                have m1 : (w10.setCell ⟨w.heap.size + 1 + 1, 0, none⟩ (.int .i64 x.z)).cell? ⟨w.heap.size + 1 + 1, 1, none⟩ = some (.slice none 0 0) := T1.out.cell 1
                have n1 := T1.out.fro 1
                have m2 : ((w10.setCell ⟨w.heap.size + 1 + 1, 0, none⟩ (.int .i64 x.z)).setCell ⟨w.heap.size + 1 + 1, 1, none⟩ (.slice A5 x.of.length c5)).cell? ⟨w.heap.size + 1 + 1, 2, none⟩ = some (.slice none 0 0) := T2.out.cell 2
                have n2 := T2.out.fro 2
                have q0 : (((w10.setCell ⟨w.heap.size + 1 + 1, 0, none⟩ (.int .i64 x.z)).setCell ⟨w.heap.size + 1 + 1, 1, none⟩ (.slice A5 x.of.length c5)).setCell ⟨w.heap.size + 1 + 1, 2, none⟩ (.slice A9 (x.ch.length + 1) c9)).cell? ⟨w.heap.size + 1 + 1, 0, none⟩ = some (.int .i64 x.z) := T3'.out.cell 0
                have q1 : (((w10.setCell ⟨w.heap.size + 1 + 1, 0, none⟩ (.int .i64 x.z)).setCell ⟨w.heap.size + 1 + 1, 1, none⟩ (.slice A5 x.of.length c5)).setCell ⟨w.heap.size + 1 + 1, 2, none⟩ (.slice A9 (x.ch.length + 1) c9)).cell? ⟨w.heap.size + 1 + 1, 1, none⟩ = some (.slice A5 x.of.length c5) := T3'.out.cell 1
                have q2 : (((w10.setCell ⟨w.heap.size + 1 + 1, 0, none⟩ (.int .i64 x.z)).setCell ⟨w.heap.size + 1 + 1, 1, none⟩ (.slice A5 x.of.length c5)).setCell ⟨w.heap.size + 1 + 1, 2, none⟩ (.slice A9 (x.ch.length + 1) c9)).cell? ⟨w.heap.size + 1 + 1, 2, none⟩ = some (.slice A9 (x.ch.length + 1) c9) := T3'.out.cell 2
                go_wp2_with fail
                refine bodyPost_ret (v := .tuple #[.agg #[.int .i64 x.z, .slice A5 x.of.length c5, (.slice A9 (x.ch.length + 1) c9)], .int .i64 0]) (by simp [results, Tryd.results32, go_sem, q0, q1, q2]) rfl ?_
                have hn9 : x.ch.length + 1 = (insC x.ch y).length := by have := insC_len x.ch y; omega
                have hcells : (insC x.ch y).flatMap T3.cells = (x.ch.take x.ch.length).flatMap T3.cells ++ [.int .i64 y.a, .int .i64 y.b, .int .i64 y.c] ++ [] := by
                  unfold insC; rw [HPOS.out]; simp [List.flatMap_append, T3.cells]
                have hr := RC10.out
                rw [← hcells] at hr
                have ne2 : ∀ g, (Value.slice A5 x.of.length c5).ownBlock = some g → g ≠ w.heap.size + 1 + 1 := fun g e => by have := HLT5.out g e; omega
                have ne9 : ∀ g, (Value.slice A9 (x.ch.length + 1) c9).ownBlock = some g → g ≠ w.heap.size + 1 + 1 := fun g e => by have := HL9.out g e; omega
                have K1 := (((RF10.out.kept (grown_setCell w10 ⟨w.heap.size + 1 + 1, 0, none⟩ (.int .i64 x.z)) (.inr fun e => ne2 _ e rfl)).kept (grown_setCell _ ⟨w.heap.size + 1 + 1, 1, none⟩ (.slice A5 x.of.length c5)) (.inr fun e => ne2 _ e rfl)).kept (grown_setCell _ ⟨w.heap.size + 1 + 1, 2, none⟩ (.slice A9 (x.ch.length + 1) c9)) (.inr fun e => ne2 _ e rfl))
                have K2 := (((hr.kept (grown_setCell w10 ⟨w.heap.size + 1 + 1, 0, none⟩ (.int .i64 x.z)) (.inr fun e => ne9 _ e rfl)).kept (grown_setCell _ ⟨w.heap.size + 1 + 1, 1, none⟩ (.slice A5 x.of.length c5)) (.inr fun e => ne9 _ e rfl)).kept (grown_setCell _ ⟨w.heap.size + 1 + 1, 2, none⟩ (.slice A9 (x.ch.length + 1) c9)) (.inr fun e => ne9 _ e rfl))
                have hap : ∀ g, (Value.slice A5 x.of.length c5).ownBlock = some g → ∀ g2, (Value.slice A9 (x.ch.length + 1) c9).ownBlock = some g2 → g < g2 := fun g e g2 e2 => by have := HLT5.out g e; have := HL9.out g2 e2; omega
                rw [HRES.out]
                rw [hn9] at K1 K2 hap ⊢
                exact ⟨A5, c5, A9, c9, rfl, own_base K1 (by omega), own_base K2 (by omega), hap, ((BW10.out.setCell (p := ⟨w.heap.size + 1 + 1, 0, none⟩) (by dsimp only; omega) _).setCell (p := ⟨w.heap.size + 1 + 1, 1, none⟩) (by dsimp only; omega) _).setCell (p := ⟨w.heap.size + 1 + 1, 2, none⟩) (by dsimp only; omega) _⟩
            · have hck : c2 = x.ch.length := by omega
              subst hck
              cases A2 with
              | none =>
                go_upto_region 19 with (at_builtin; go_must (refine wp_app _ rfl _ _ 45 rfl w6.heap.size 41 i0 (.agg #[.int .i64 0, .int .i64 0, .int .i64 0]) 3 24 Tryd.underlying45 hi0 hz0 hs0 hb0 rfl (by decide) _ _ _ rfl hown8 _ _ 0 _ [] rfl rfl (Rd.nil _ 0 _) (fun u hu => by cases hu) (by omega) (by decide) (by omega) ?_); intro v9 w9 hown9 hgrow9 hat9; have b69 := app_below b68 hown8 hgrow9 (Nat.le_refl _) hz8; have XO9 := hide (XO6.out.below b69 (by omega)); have o2 := XO9.out.cell 2; have f2 := XO9.out.fro 2; obtain ⟨A9, c9, rfl, _⟩ := own_shape hown9)
                have XO10 := hide (XO9.out.set 2 (.slice A9 (x.ch.length + 1) c9))
                have XR10 := hide ((XR6.out.below b69 (by omega)).other (b' := g5) (by omega) 2 (.slice A9 (x.ch.length + 1) c9))
                have l0 : (w9.setCell ⟨g5, 2, none⟩ (.slice A9 (x.ch.length + 1) c9)).cell? ⟨g5, 0, none⟩ = some (.int .i64 x.z) := XO10.out.cell 0
                have l1 : (w9.setCell ⟨g5, 2, none⟩ (.slice A9 (x.ch.length + 1) c9)).cell? ⟨g5, 1, none⟩ = some (.slice A5 x.of.length c5) := XO10.out.cell 1
                have l2 : (w9.setCell ⟨g5, 2, none⟩ (.slice A9 (x.ch.length + 1) c9)).cell? ⟨g5, 2, none⟩ = some (.slice A9 (x.ch.length + 1) c9) := XO10.out.cell 2
                have BW10 := hide ((BW6.out.trans (b69.mono BW6.out.size)).setCell (p := ⟨g5, 2, none⟩) (by dsimp only; omega) (.slice A9 (x.ch.length + 1) c9))
                have RF10 := hide ((own_below R6.out b69 (Nat.le_refl _)).kept (grown_setCell w9 ⟨g5, 2, none⟩ (.slice A9 (x.ch.length + 1) c9)) (.inr fun e => by have := HLT5.out _ e; (try dsimp only at this); omega))
                have RC10 := hide (hown9.kept (grown_setCell w9 ⟨g5, 2, none⟩ (.slice A9 (x.ch.length + 1) c9)) (.inr fun e => by have := (hown9.lt _ e).1; (try dsimp only at this); omega))
                have HL9 := hide fun g h => (hown9.lt g h).1
                clear o2 f2 hown9 hgrow9 hat9 b69 XO9 e3
                generalize (w9.setCell ⟨g5, 2, none⟩ (.slice A9 (x.ch.length + 1) c9)) = w10 at *
                have T1 := hide (XR10.out.set 0 (.int .i64 x.z))
                have T2 := hide (T1.out.set 1 (.slice A5 x.of.length c5))
                have T3' := hide (T2.out.set 2 (.slice A9 (x.ch.length + 1) c9))
                have m0 : w10.cell? ⟨w.heap.size + 1 + 1, 0, none⟩ = some (.int .i64 0) := XR10.out.cell 0
                have n0' := XR10.out.fro 0
                have m1 : (w10.setCell ⟨w.heap.size + 1 + 1, 0, none⟩ (.int .i64 x.z)).cell? ⟨w.heap.size + 1 + 1, 1, none⟩ = some (.slice none 0 0) := T1.out.cell 1
                have n1 := T1.out.fro 1
                have m2 : ((w10.setCell ⟨w.heap.size + 1 + 1, 0, none⟩ (.int .i64 x.z)).setCell ⟨w.heap.size + 1 + 1, 1, none⟩ (.slice A5 x.of.length c5)).cell? ⟨w.heap.size + 1 + 1, 2, none⟩ = some (.slice none 0 0) := T2.out.cell 2
                have n2 := T2.out.fro 2
                have q0 : (((w10.setCell ⟨w.heap.size + 1 + 1, 0, none⟩ (.int .i64 x.z)).setCell ⟨w.heap.size + 1 + 1, 1, none⟩ (.slice A5 x.of.length c5)).setCell ⟨w.heap.size + 1 + 1, 2, none⟩ (.slice A9 (x.ch.length + 1) c9)).cell? ⟨w.heap.size + 1 + 1, 0, none⟩ = some (.int .i64 x.z) := T3'.out.cell 0
                have q1 : (((w10.setCell ⟨w.heap.size + 1 + 1, 0, none⟩ (.int .i64 x.z)).setCell ⟨w.heap.size + 1 + 1, 1, none⟩ (.slice A5 x.of.length c5)).setCell ⟨w.heap.size + 1 + 1, 2, none⟩ (.slice A9 (x.ch.length + 1) c9)).cell? ⟨w.heap.size + 1 + 1, 1, none⟩ = some (.slice A5 x.of.length c5) := T3'.out.cell 1
                have q2 : (((w10.setCell ⟨w.heap.size + 1 + 1, 0, none⟩ (.int .i64 x.z)).setCell ⟨w.heap.size + 1 + 1, 1, none⟩ (.slice A5 x.of.length c5)).setCell ⟨w.heap.size + 1 + 1, 2, none⟩ (.slice A9 (x.ch.length + 1) c9)).cell? ⟨w.heap.size + 1 + 1, 2, none⟩ = some (.slice A9 (x.ch.length + 1) c9) := T3'.out.cell 2
                go_wp2_with fail
                refine bodyPost_ret (v := .tuple #[.agg #[.int .i64 x.z, .slice A5 x.of.length c5, (.slice A9 (x.ch.length + 1) c9)], .int .i64 0]) (by simp [results, Tryd.results32, go_sem, q0, q1, q2]) rfl ?_
                have hn9 : x.ch.length + 1 = (insC x.ch y).length := by have := insC_len x.ch y; omega
                have hcells : (insC x.ch y).flatMap T3.cells = (x.ch.take x.ch.length).flatMap T3.cells ++ [.int .i64 y.a, .int .i64 y.b, .int .i64 y.c] ++ [] := by
                  unfold insC; rw [HPOS.out]; simp [List.flatMap_append, T3.cells]
                have hr := RC10.out
                rw [← hcells] at hr
                have ne2 : ∀ g, (Value.slice A5 x.of.length c5).ownBlock = some g → g ≠ w.heap.size + 1 + 1 := fun g e => by have := HLT5.out g e; omega
                have ne9 : ∀ g, (Value.slice A9 (x.ch.length + 1) c9).ownBlock = some g → g ≠ w.heap.size + 1 + 1 := fun g e => by have := HL9.out g e; omega
                have K1 := (((RF10.out.kept (grown_setCell w10 ⟨w.heap.size + 1 + 1, 0, none⟩ (.int .i64 x.z)) (.inr fun e => ne2 _ e rfl)).kept (grown_setCell _ ⟨w.heap.size + 1 + 1, 1, none⟩ (.slice A5 x.of.length c5)) (.inr fun e => ne2 _ e rfl)).kept (grown_setCell _ ⟨w.heap.size + 1 + 1, 2, none⟩ (.slice A9 (x.ch.length + 1) c9)) (.inr fun e => ne2 _ e rfl))
                have K2 := (((hr.kept (grown_setCell w10 ⟨w.heap.size + 1 + 1, 0, none⟩ (.int .i64 x.z)) (.inr fun e => ne9 _ e rfl)).kept (grown_setCell _ ⟨w.heap.size + 1 + 1, 1, none⟩ (.slice A5 x.of.length c5)) (.inr fun e => ne9 _ e rfl)).kept (grown_setCell _ ⟨w.heap.size + 1 + 1, 2, none⟩ (.slice A9 (x.ch.length + 1) c9)) (.inr fun e => ne9 _ e rfl))
                have hap : ∀ g, (Value.slice A5 x.of.length c5).ownBlock = some g → ∀ g2, (Value.slice A9 (x.ch.length + 1) c9).ownBlock = some g2 → g < g2 := fun g e g2 e2 => by have := HLT5.out g e; have := HL9.out g2 e2; omega
                rw [HRES.out]
                rw [hn9] at K1 K2 hap ⊢
                exact ⟨A5, c5, A9, c9, rfl, own_base K1 (by omega), own_base K2 (by omega), hap, ((BW10.out.setCell (p := ⟨w.heap.size + 1 + 1, 0, none⟩) (by dsimp only; omega) _).setCell (p := ⟨w.heap.size + 1 + 1, 1, none⟩) (by dsimp only; omega) _).setCell (p := ⟨w.heap.size + 1 + 1, 2, none⟩) (by dsimp only; omega) _⟩
              | some a =>
                obtain ⟨b4, o4, q4⟩ := a
                go_upto_region 19 with (at_builtin; go_must (refine wp_app _ rfl _ _ 45 rfl w6.heap.size 41 i0 (.agg #[.int .i64 0, .int .i64 0, .int .i64 0]) 3 24 Tryd.underlying45 hi0 hz0 hs0 hb0 rfl (by decide) _ _ _ rfl hown8 _ _ 0 _ [] rfl rfl (Rd.nil _ 0 _) (fun u hu => by cases hu) (by omega) (by decide) (by omega) ?_); intro v9 w9 hown9 hgrow9 hat9; have b69 := app_below b68 hown8 hgrow9 (Nat.le_refl _) hz8; have XO9 := hide (XO6.out.below b69 (by omega)); have o2 := XO9.out.cell 2; have f2 := XO9.out.fro 2; obtain ⟨A9, c9, rfl, _⟩ := own_shape hown9)
                have XO10 := hide (XO9.out.set 2 (.slice A9 (x.ch.length + 1) c9))
                have XR10 := hide ((XR6.out.below b69 (by omega)).other (b' := g5) (by omega) 2 (.slice A9 (x.ch.length + 1) c9))
                have l0 : (w9.setCell ⟨g5, 2, none⟩ (.slice A9 (x.ch.length + 1) c9)).cell? ⟨g5, 0, none⟩ = some (.int .i64 x.z) := XO10.out.cell 0
                have l1 : (w9.setCell ⟨g5, 2, none⟩ (.slice A9 (x.ch.length + 1) c9)).cell? ⟨g5, 1, none⟩ = some (.slice A5 x.of.length c5) := XO10.out.cell 1
                have l2 : (w9.setCell ⟨g5, 2, none⟩ (.slice A9 (x.ch.length + 1) c9)).cell? ⟨g5, 2, none⟩ = some (.slice A9 (x.ch.length + 1) c9) := XO10.out.cell 2
                have BW10 := hide ((BW6.out.trans (b69.mono BW6.out.size)).setCell (p := ⟨g5, 2, none⟩) (by dsimp only; omega) (.slice A9 (x.ch.length + 1) c9))
                have RF10 := hide ((own_below R6.out b69 (Nat.le_refl _)).kept (grown_setCell w9 ⟨g5, 2, none⟩ (.slice A9 (x.ch.length + 1) c9)) (.inr fun e => by have := HLT5.out _ e; (try dsimp only at this); omega))
                have RC10 := hide (hown9.kept (grown_setCell w9 ⟨g5, 2, none⟩ (.slice A9 (x.ch.length + 1) c9)) (.inr fun e => by have := (hown9.lt _ e).1; (try dsimp only at this); omega))
                have HL9 := hide fun g h => (hown9.lt g h).1
                clear o2 f2 hown9 hgrow9 hat9 b69 XO9 e3
                generalize (w9.setCell ⟨g5, 2, none⟩ (.slice A9 (x.ch.length + 1) c9)) = w10 at *
                have T1 := hide (XR10.out.set 0 (.int .i64 x.z))
                have T2 := hide (T1.out.set 1 (.slice A5 x.of.length c5))
                have T3' := hide (T2.out.set 2 (.slice A9 (x.ch.length + 1) c9))
                have m0 : w10.cell? ⟨w.heap.size + 1 + 1, 0, none⟩ = some (.int .i64 0) := XR10.out.cell 0
                have n0' := XR10.out.fro 0
                have m1 : (w10.setCell ⟨w.heap.size + 1 + 1, 0, none⟩ (.int .i64 x.z)).cell? ⟨w.heap.size + 1 + 1, 1, none⟩ = some (.slice none 0 0) := T1.out.cell 1
                have n1 := T1.out.fro 1
                have m2 : ((w10.setCell ⟨w.heap.size + 1 + 1, 0, none⟩ (.int .i64 x.z)).setCell ⟨w.heap.size + 1 + 1, 1, none⟩ (.slice A5 x.of.length c5)).cell? ⟨w.heap.size + 1 + 1, 2, none⟩ = some (.slice none 0 0) := T2.out.cell 2
                have n2 := T2.out.fro 2
                have q0 : (((w10.setCell ⟨w.heap.size + 1 + 1, 0, none⟩ (.int .i64 x.z)).setCell ⟨w.heap.size + 1 + 1, 1, none⟩ (.slice A5 x.of.length c5)).setCell ⟨w.heap.size + 1 + 1, 2, none⟩ (.slice A9 (x.ch.length + 1) c9)).cell? ⟨w.heap.size + 1 + 1, 0, none⟩ = some (.int .i64 x.z) := T3'.out.cell 0
                have q1 : (((w10.setCell ⟨w.heap.size + 1 + 1, 0, none⟩ (.int .i64 x.z)).setCell ⟨w.heap.size + 1 + 1, 1, none⟩ (.slice A5 x.of.length c5)).setCell ⟨w.heap.size + 1 + 1, 2, none⟩ (.slice A9 (x.ch.length + 1) c9)).cell? ⟨w.heap.size + 1 + 1, 1, none⟩ = some (.slice A5 x.of.length c5) := T3'.out.cell 1
                have q2 : (((w10.setCell ⟨w.heap.size + 1 + 1, 0, none⟩ (.int .i64 x.z)).setCell ⟨w.heap.size + 1 + 1, 1, none⟩ (.slice A5 x.of.length c5)).setCell ⟨w.heap.size + 1 + 1, 2, none⟩ (.slice A9 (x.ch.length + 1) c9)).cell? ⟨w.heap.size + 1 + 1, 2, none⟩ = some (.slice A9 (x.ch.length + 1) c9) := T3'.out.cell 2
                go_wp2_with fail
                refine bodyPost_ret (v := .tuple #[.agg #[.int .i64 x.z, .slice A5 x.of.length c5, (.slice A9 (x.ch.length + 1) c9)], .int .i64 0]) (by simp [results, Tryd.results32, go_sem, q0, q1, q2]) rfl ?_
                have hn9 : x.ch.length + 1 = (insC x.ch y).length := by have := insC_len x.ch y; omega
                have hcells : (insC x.ch y).flatMap T3.cells = (x.ch.take x.ch.length).flatMap T3.cells ++ [.int .i64 y.a, .int .i64 y.b, .int .i64 y.c] ++ [] := by
                  unfold insC; rw [HPOS.out]; simp [List.flatMap_append, T3.cells]
                have hr := RC10.out
                rw [← hcells] at hr
                have ne2 : ∀ g, (Value.slice A5 x.of.length c5).ownBlock = some g → g ≠ w.heap.size + 1 + 1 := fun g e => by have := HLT5.out g e; omega
                have ne9 : ∀ g, (Value.slice A9 (x.ch.length + 1) c9).ownBlock = some g → g ≠ w.heap.size + 1 + 1 := fun g e => by have := HL9.out g e; omega
                have K1 := (((RF10.out.kept (grown_setCell w10 ⟨w.heap.size + 1 + 1, 0, none⟩ (.int .i64 x.z)) (.inr fun e => ne2 _ e rfl)).kept (grown_setCell _ ⟨w.heap.size + 1 + 1, 1, none⟩ (.slice A5 x.of.length c5)) (.inr fun e => ne2 _ e rfl)).kept (grown_setCell _ ⟨w.heap.size + 1 + 1, 2, none⟩ (.slice A9 (x.ch.length + 1) c9)) (.inr fun e => ne2 _ e rfl))
                have K2 := (((hr.kept (grown_setCell w10 ⟨w.heap.size + 1 + 1, 0, none⟩ (.int .i64 x.z)) (.inr fun e => ne9 _ e rfl)).kept (grown_setCell _ ⟨w.heap.size + 1 + 1, 1, none⟩ (.slice A5 x.of.length c5)) (.inr fun e => ne9 _ e rfl)).kept (grown_setCell _ ⟨w.heap.size + 1 + 1, 2, none⟩ (.slice A9 (x.ch.length + 1) c9)) (.inr fun e => ne9 _ e rfl))
                have hap : ∀ g, (Value.slice A5 x.of.length c5).ownBlock = some g → ∀ g2, (Value.slice A9 (x.ch.length + 1) c9).ownBlock = some g2 → g < g2 := fun g e g2 e2 => by have := HLT5.out g e; have := HL9.out g2 e2; omega
                rw [HRES.out]
                rw [hn9] at K1 K2 hap ⊢
                exact ⟨A5, c5, A9, c9, rfl, own_base K1 (by omega), own_base K2 (by omega), hap, ((BW10.out.setCell (p := ⟨w.heap.size + 1 + 1, 0, none⟩) (by dsimp only; omega) _).setCell (p := ⟨w.heap.size + 1 + 1, 1, none⟩) (by dsimp only; omega) _).setCell (p := ⟨w.heap.size + 1 + 1, 2, none⟩) (by dsimp only; omega) _⟩
theorem specAddChange_any (x : TZ) (y : T3) (A : Option Addr) (c : Nat) (A2 : Option Addr) (c2 : Nat) (w : World) (hs : Small_Zoned x) (hcap : x.ch.length ≤ c2) (_ : ∀ a, A2 = some a → ∃ b o, a = ⟨b, o, none⟩) (h1 : RdI w w.heap.size A x.of) (h2 : Rd3 w w.heap.size A2 x.ch) :
    Calls Tryd.prog 32 #[.agg #[.int .i64 x.z, .slice A x.of.length c, .slice A2 x.ch.length c2], .agg #[.int .i64 y.a, .int .i64 y.b, .int .i64 y.c]] w fun e w' => ∃ (A' : Option Addr) (c' : Nat) (A2' : Option Addr) (c2' : Nat), e = .returned (.tuple #[.agg #[.int .i64 (addChange x y).1.z, .slice A' (addChange x y).1.of.length c', .slice A2' (addChange x y).1.ch.length c2'], .int .i64 (addChange x y).2]) ∧
      w'.ownsRow w.heap.size 2 1 (.slice A' (addChange x y).1.of.length c') (addChange x y).1.of.length ((addChange x y).1.of.map (Value.int .i64)) ∧ w'.ownsRow w.heap.size 41 3 (.slice A2' (addChange x y).1.ch.length c2') (addChange x y).1.ch.length ((addChange x y).1.ch.flatMap T3.cells) ∧
      (∀ g, (Value.slice A' (addChange x y).1.of.length c').ownBlock = some g → (Value.slice A2' (addChange x y).1.ch.length c2').ownBlock ≠ some g) ∧ Below w.heap.size w w' := by
  refine (specAddChangeM_any x y A c A2 c2 w hs hcap h1 h2).mono ?_
  rintro e w' ⟨A', c', A2', c2', rfl, r1, r2, hap, b⟩
  exact ⟨A', c', A2', c2', rfl, r1, r2, fun g e e2 => Nat.lt_irrefl _ (hap g e g e2), b⟩
end Go.Proofs.YtofjnmeblmbnmaaDoor
