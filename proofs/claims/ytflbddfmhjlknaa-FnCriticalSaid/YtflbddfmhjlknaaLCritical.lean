/-
  The law FnCritical returns true for every input. No condition.
-/
import Derived.Test.YtflbddfmhjlknaaNet10
import Derived.Test.YtflbddfmhjlknaaNet12
import Derived.Test.YtflbddfmhjlknaaNetS
import Derived.Test.YtflbddfmhjlknaaSrc9
import Derived.Test.YtflbddfmhjlknaaSrc7
import Derived.Test.YtflbddfmhjlknaaLawH
import Derived.Test.YtflbddfmhjlknaaRows
import Derived.Test.YtflbddfmhjlknaaOpenB
import Derived.ProofKit
import Derived.Deep.DeepCutAuto
import Derived.Deep.RegionHeld3
import Derived.OpenShut
namespace Go.Proofs.Ytflbddfmhjlknaa
open Go.ChangeShapes Go.WideShapes Go.ChangeAt Go.RowKit

theorem rd3_take {w : World} {B : Nat} {A : Option Addr} {xs : List T3} (h : Rd3 w B A xs) (k : Nat) : Rd3 w B A (xs.take k) := fun hn => by
  have hne : xs.flatMap T3.cells ≠ [] := by intro e; rw [← List.take_append_drop k xs, List.flatMap_append] at e; exact hn (List.append_eq_nil_iff.1 e).1
  obtain ⟨b', o', hA, hb, hc⟩ := h hne
  refine ⟨b', o', hA, hb, fun j u hj => hc j u ?_⟩
  have e : xs.flatMap T3.cells = (xs.take k).flatMap T3.cells ++ (xs.drop k).flatMap T3.cells := by rw [← List.flatMap_append, List.take_append_drop]
  rw [e, List.getElem?_append_left (List.getElem?_eq_some_iff.1 hj).1]
  exact hj
theorem flat3_len (xs : List T3) : (xs.flatMap T3.cells).length = xs.length * 3 := by
  induction xs with
  | nil => rfl
  | cons x xs ih => rw [List.flatMap_cons, List.length_append, ih, List.length_cons]; simp [T3.cells]; omega
theorem cells_one (xs : List T3) : ∀ u ∈ xs.flatMap T3.cells, u.oneCell' = true := fun u hu => by
  obtain ⟨x, _, hx⟩ := List.mem_flatMap.1 hu
  simp [T3.cells] at hx
  rcases hx with rfl | rfl | rfl <;> rfl
theorem rd3_drop {w : World} {B b o : Nat} {xs : List T3} (h : Rd3 w B (some ⟨b, o, none⟩) xs) (k : Nat) : Rd3 w B (some ⟨b, o + k * 3, none⟩) (xs.drop k) := fun hn => by
  have e : xs.flatMap T3.cells = (xs.take k).flatMap T3.cells ++ (xs.drop k).flatMap T3.cells := by rw [← List.flatMap_append, List.take_append_drop]
  have hne : xs.flatMap T3.cells ≠ [] := by intro e2; rw [e] at e2; exact hn (List.append_eq_nil_iff.1 e2).2
  obtain ⟨b', o', hA, hb, hc⟩ := h hne
  cases hA
  refine ⟨b, o + k * 3, rfl, hb, fun j u hj => ?_⟩
  rw [Nat.add_assoc]
  refine hc (k * 3 + j) u ?_
  have hk : k ≤ xs.length := by
    rcases Nat.lt_or_ge xs.length k with h1 | h1
    · rw [List.drop_eq_nil_of_le (by omega)] at hn; exact (hn rfl).elim
    · exact h1
  rw [e, List.getElem?_append_right (by rw [flat3_len, List.length_take]; omega), flat3_len, List.length_take, Nat.min_eq_left hk]
  rw [show k * 3 + j - k * 3 = j by omega]
  exact hj
set_option maxRecDepth 100000 in
set_option maxHeartbeats 8000000 in
theorem lCritical_walk (x : List Int) (v : Value) (y : List Int) (u : Value) (w : World) (r : ∃ A c, v = .slice A x.length c ∧ RdB w w.heap.size A x) (nx : x.length ≤ 9223372036854775807) (fx : ∀ z ∈ x, 0 ≤ z ∧ z ≤ 255) (r2 : ∃ A c, u = .slice A y.length c ∧ RdB w w.heap.size A y) (ny : y.length ≤ 9223372036854775807) (fy : ∀ z ∈ y, 0 ≤ z ∧ z ≤ 255) :
    Calls Try.prog 9 #[v, u] w fun e w' => e = .returned (.bool true) ∧ Below w.heap.size w w' := by
  obtain ⟨i0, hi0, hz0, hs0, hb0⟩ := info_parts Tube_inf
  obtain ⟨A, c, rfl, r⟩ := r
  obtain ⟨A9, c9, rfl, r2⟩ := r2
  have HL := hide (a2Long_any x.length y.length A A9 c c9 w nx ny)
  by_cases hlong : 3000 < x.length ∨ 3000 < y.length
  · rw [decide_eq_true hlong] at HL
    clear hlong r r2
    go_enter Try.func9, Try.ntmps9
    go_wp2_with (go_at_call 65; refine (HL.out).mono ?_; rintro e w' ⟨rfl, rfl⟩)
    go_ret
    exact ⟨rfl, Below.refl _ _⟩
  rw [decide_eq_false hlong] at HL
  have HT := hide (a2Net_any x A c w ⟨by omega, fx⟩ r)
  have HAT : Hid (∀ (W : World), Below w.heap.size w W → Calls Try.prog 75 #[.slice A9 y.length c9, .int .i64 0, .int .i64 200] W fun e w' => ∃ z, e = .returned (.int .i64 z) ∧ (0 ≤ z ∧ ((1 : Int) ≤ 200 → z < 200)) ∧ W = w') := fun W hW => a2At_any y A9 c9 0 200 W ⟨by omega, fy⟩ ((r2.below hW).more hW.size)
  clear r nx fx r2 ny fy hlong
  go_enter Try.func9, Try.ntmps9
  go_upto_region 4 with (first | (go_at_call 65; refine (HL.out).mono ?_; rintro e w' ⟨rfl, rfl⟩) | (go_at_call 66; (with_reducible refine (HT.out).mono ?_); rintro e w1 ⟨n, A2, c2, tb, rfl, hrd, hok, ⟨hl14, hlc⟩, b1⟩))
  have HOK := hide hok
  obtain ⟨hn2, hn10⟩ := hok.1
  have X2 := hide (BoxN.new w1 #[.int .i64 n, .slice A2 tb.length c2] 87)
  have HB2 := hide (b1.alloc b1.size (.cells #[.int .i64 n, .slice A2 tb.length c2] 87))
  have b12 : Below w1.heap.size w1 (w1.alloc (.cells #[.int .i64 n, .slice A2 tb.length c2] 87)) := (Below.refl _ _).alloc (Nat.le_refl _) _
  have HR2 := hide ((hrd.below b12).more b12.size)
  clear hrd hok b1 b12 HL HT
  generalize w1.heap.size = gN at *
  generalize w1.alloc (.cells #[.int .i64 n, .slice A2 tb.length c2] 87) = w2 at *
  have x0 : w2.cell? ⟨gN, 0, none⟩ = some (.int .i64 n) := X2.out.cell 0
  have x1 : w2.cell? ⟨gN, 1, none⟩ = some (.slice A2 tb.length c2) := X2.out.cell 1
  have hgN := X2.out.lt
  have HY := hide fun W (hW : Below w2.heap.size w2 W) (j : Nat) => hW.cell (p := ⟨gN, j, none⟩) hgN
  cases hst : strongB n tb (-1)
  · have HC := hide (implCritF_any n tb A2 c2 w2 HOK.out hst HR2.out)
    have HS := hide fun W (hW : Below w2.heap.size w2 W) => specIsStrongF_any n tb A2 c2 W HOK.out hst ((HR2.out.below hW).more hW.size)
    clear hst
    go_wp2_with (first | (go_at_call 73; (with_reducible refine (HC.out).mono ?_); rintro e w3 ⟨rfl, b3⟩; have z0 := (HY.out w3 b3 0).trans x0; have z1 := (HY.out w3 b3 1).trans x1) | (go_at_call 74; (with_reducible refine (HS.out _ b3).mono ?_); rintro e w4 ⟨rfl, b4⟩))
    go_ret
    have b24 := b3.trans (b4.mono b3.size)
    exact ⟨rfl, HB2.out.trans (b24.mono HB2.out.size)⟩
  have HC := hide (implCritT_any n tb A2 c2 w2 HOK.out hst HR2.out)
  have HST := hide hst
  have HRI := hide (crit_rises (n := n) (tb := tb))
  have hl1 : (critL n tb).length ≤ 1000 := by have := idxFrom_len (critP n tb) (List.range tb.length) 0; rw [List.length_range] at this; unfold critL; omega
  have HCM := hide fun (i : Nat) (hi : i < tb.length) => crit_mem (n := n) hi
  have HDR := hide fun (i : Nat) (hi : i < tb.length) => strong_drop HOK.out hi
  have HDO := hide fun (i : Nat) (hi : i < tb.length) => dropAt_ok HOK.out hi
  clear hst
  generalize critL n tb = L1 at *
  go_upto_region 10 with (first | (go_at_call 73; (with_reducible refine (HC.out).mono ?_); rintro e w3 ⟨A4, c4, rfl, r4, b3⟩; have z0 := (HY.out w3 b3 0).trans x0; have z1 := (HY.out w3 b3 1).trans x1; have HRS := hide (a2Rises_any L1 tb.length A4 c4 w3 (by omega) HRI.out r4)) | (go_at_call 70; (with_reducible refine (HRS.out).mono ?_); rintro e w4 ⟨rfl, b4⟩))
  have HB24 := hide (b3.trans (b4.mono b3.size))
  have R4 := hide ((r4.below b4).more b4.size)
  clear r4 b3 b4 HRS HC HRI z0 z1 x0 x1
  go_wp2_with fail
  go_loopg [10] tb.length (fun g i wr => ∃ k : Nat, k ≤ tb.length ∧ Hid (g = tb.length - k) ∧ i = .int .i64 k ∧ Hid (Below w4.heap.size w4 wr))
  case atStart => exact ⟨0, by omega, by simp [Hid], rfl, Below.refl _ _⟩
  case round =>
    obtain ⟨k, hk, hg, rfl, HB⟩ := hrel
    have HBR := hide (HB24.out.trans (HB.out.mono HB24.out.size))
    have y0 : wr.cell? ⟨gN, 0, none⟩ = some (.int .i64 n) := (HY.out wr HBR.out 0).trans (X2.out.cell 0)
    have y1 : wr.cell? ⟨gN, 1, none⟩ = some (.slice A2 tb.length c2) := (HY.out wr HBR.out 1).trans (X2.out.cell 1)
    by_cases hkt : k < tb.length
    · have hzr := HB.out.size
      have XN := hide (X2.out.below HBR.out hgN)
      have XN3 := hide (XN.out.alloc (.cells #[.int .i64 n, .slice none 0 0] 87))
      have XB3 := hide (BoxN.new wr #[.int .i64 n, .slice none 0 0] 87)
      have BR3 := hide (HBR.out.alloc HBR.out.size (.cells #[.int .i64 n, .slice none 0 0] 87))
      have BB3 := hide (HB.out.alloc hzr (.cells #[.int .i64 n, .slice none 0 0] 87))
      have hgx : gN < wr.heap.size := XN.out.lt
      have hgx2 := HBR.out.size
      clear XN
      go_upto_region 14 with fail
      clear y1
      generalize wr.heap.size = gx at *
      generalize wr.alloc (.cells #[.int .i64 n, .slice none 0 0] 87) = wX at *
      have hgk := XB3.out.lt
      -- the tubes before
      have XN4 : Hid (BoxN wX.drew gN #[.int .i64 n, .slice A2 tb.length c2] 87) := XN3.out
      have XB4 : Hid (BoxN wX.drew gx #[.int .i64 n, .slice none 0 0] 87) := XB3.out
      have BR4 : Hid (Below w2.heap.size w2 wX.drew) := BR3.out.drew
      have BB4 : Hid (Below w4.heap.size w4 wX.drew) := BB3.out.drew
      have e1 : wX.drew.cell? ⟨gN, 1, none⟩ = some (.slice A2 tb.length c2) := XN4.out.cell 1
      have hgk4 : gx < wX.drew.heap.size := hgk
      clear XN3 XB3 BR3 BB3 y0 hgk
      have hkc : (k : Int) ≤ (c2 : Int) := by omega
      have hk0 : (0 : Int) ≤ (k : Int) := by omega
      refine wp_region_held_drew (S := fun W => W.cell? ⟨gN, 1, none⟩ = some (.slice A2 tb.length c2)) (by kernel_rfl) (e1) (fun hHeld => ?_)
      generalize wX.drew = wd at *
      have k1 : wd.cell? ⟨gx, 1, none⟩ = some (.slice none 0 0) := XB4.out.cell 1
      have hrow0 : wd.ownsRow (gx + 1) 93 3 (.slice none 0 0) 0 [] := World.ownsRow_nil wd (gx + 1) 93 3
      have HRT1 := hide (rd3_take ((HR2.out.below BR4.out).more BR4.out.size) k)
      have HLT1 := hide (show ((tb.take k).flatMap T3.cells).length = k * 3 by rw [flat3_len, List.length_take, Nat.min_eq_left (by omega)])
      have hsz0 : gx + 1 ≤ wd.heap.size := hgk4
      refine wpAnyH_take (i := 0) (v := ?_) rfl (by kernel_rfl) (by kernel_rfl) (by kernel_rfl) (fun _ _ _ h => h) (Or.inl ⟨by rfl, ?_⟩) (by assumption) ?_
      rotate_left 1
      · (intro w hSw; (try dsimp only at hSw); go_simp; try with_reducible rfl)
      try simp only [Act.put, List.getElem_toArray, List.getElem_cons_succ, List.getElem_cons_zero, List.setIfInBounds_toArray, List.set_cons_zero, List.set_cons_succ]
      refine wpAnyH_take (i := 2) (v := ?_) rfl (by kernel_rfl) (by kernel_rfl) (by kernel_rfl) (fun _ _ _ h => h) (Or.inl ⟨by rfl, ?_⟩) (by assumption) ?_
      rotate_left 1
      · (intro w hSw; (try dsimp only at hSw); go_simp; try with_reducible rfl)
      try simp only [Act.put, List.getElem_toArray, List.getElem_cons_succ, List.getElem_cons_zero, List.setIfInBounds_toArray, List.set_cons_zero, List.set_cons_succ]
      refine wpAnyH_take (i := 3) (v := ?_) rfl (by kernel_rfl) (by kernel_rfl) (by kernel_rfl) (fun _ _ _ h => h) (Or.inl ⟨by rfl, ?_⟩) (by assumption) ?_
      rotate_left 1
      · (intro w hSw; (try dsimp only at hSw); go_simp; try with_reducible rfl)
      try simp only [Act.put, List.getElem_toArray, List.getElem_cons_succ, List.getElem_cons_zero, List.setIfInBounds_toArray, List.set_cons_zero, List.set_cons_succ]
      refine wpAnyH_take (i := 4) (v := ?_) rfl (by kernel_rfl) (by kernel_rfl) (by kernel_rfl) (fun _ _ _ h => h) (Or.inl ⟨by rfl, ?_⟩) (by assumption) ?_
      rotate_left 1
      · (intro w hSw; (try dsimp only at hSw); go_simp; try with_reducible rfl)
      try simp only [Act.put, List.getElem_toArray, List.getElem_cons_succ, List.getElem_cons_zero, List.setIfInBounds_toArray, List.set_cons_zero, List.set_cons_succ]
      refine wpAnyH_take (i := 5) (v := ?_) rfl (by kernel_rfl) (by kernel_rfl) (by kernel_rfl) (fun _ _ _ h => h) (Or.inl ⟨by rfl, ?_⟩) (by assumption) ?_
      rotate_left 1
      · (intro w hSw; (try dsimp only at hSw); go_simp; try with_reducible rfl)
      try simp only [Act.put, List.getElem_toArray, List.getElem_cons_succ, List.getElem_cons_zero, List.setIfInBounds_toArray, List.set_cons_zero, List.set_cons_succ]
      refine wpAnyH_ready (rs := [1]) (by kernel_rfl) (by simp) ?_
      refine AllReadyH.cons rfl (fun K hK => ?_) AllReadyH.nil
      try simp only [Act.put, List.getElem_toArray, List.getElem_cons_succ, List.getElem_cons_zero, List.setIfInBounds_toArray, List.set_cons_zero, List.set_cons_succ]
      go_simp
      refine hK.out _ _ (e1) (fun hHeld => ?_)
      clear hK K
      try simp only [Act.put, List.getElem_toArray, List.getElem_cons_succ, List.getElem_cons_zero, List.setIfInBounds_toArray, List.set_cons_zero, List.set_cons_succ]
      refine wpAnyH_ready (rs := [6]) (by kernel_rfl) (by simp) ?_
      refine AllReadyH.cons rfl (fun K hK => ?_) AllReadyH.nil
      try simp only [Act.put, List.getElem_toArray, List.getElem_cons_succ, List.getElem_cons_zero, List.setIfInBounds_toArray, List.set_cons_zero, List.set_cons_succ]
      rw [if_pos (by rfl)]
      refine op_app _ _ _ 85 rfl (gx + 1) 93 i0 (.agg #[.int .i64 0, .int .i64 0, .int .i64 0]) 3 24 Try.underlying85 hi0 hz0 hs0 hb0 rfl (by decide) _ _ _ rfl hrow0 _ _ k _ ((tb.take k).flatMap T3.cells) rfl HLT1.out HRT1.out (cells_one _) (by omega) (by decide) hsz0 ?_
      intro v' w5 hown5 hgr5 hat5
      rw [Nat.zero_add] at hown5
      obtain ⟨A5, c5, rfl, _⟩ := own_shape hown5
      have XN5 : Hid (BoxN w5 gN #[.int .i64 n, .slice A2 tb.length c2] 87) := (hgr5.block gN XN4.out.lt (fun e => by cases e)).trans XN4.out
      have XB5 : Hid (BoxN w5 gx #[.int .i64 n, .slice none 0 0] 87) := (hgr5.block gx XB4.out.lt (fun e => by cases e)).trans XB4.out
      have BR5 := hide (app_below BR4.out hrow0 hgr5 (by omega) BR4.out.size)
      have BB5 := hide (app_below BB4.out hrow0 hgr5 (by have := BB4.out.size; omega) BB4.out.size)
      have l1 : w5.cell? ⟨gN, 1, none⟩ = some (.slice A2 tb.length c2) := XN5.out.cell 1
      have l2 : w5.cell? ⟨gx, 1, none⟩ = some (.slice none 0 0) := XB5.out.cell 1
      have lf := XB5.out.fro 1
      dsimp only
      refine hK.out _ _ (l1) (fun hHeld => ?_)
      clear hK K
      try simp only [Act.put, List.getElem_toArray, List.getElem_cons_succ, List.getElem_cons_zero, List.setIfInBounds_toArray, List.set_cons_zero, List.set_cons_succ]
      refine wpAnyH_take (i := 7) (v := ?_) rfl (by kernel_rfl) (by kernel_rfl) (by kernel_rfl) (fun _ _ _ h => h) (Or.inl ⟨by rfl, ?_⟩) (by assumption) ?_
      rotate_left 1
      · (intro w hSw; (try dsimp only at hSw); go_simp; try with_reducible rfl)
      try simp only [Act.put, List.getElem_toArray, List.getElem_cons_succ, List.getElem_cons_zero, List.setIfInBounds_toArray, List.set_cons_zero, List.set_cons_succ]
      refine wpAnyH_ready (rs := [8]) (by kernel_rfl) (by simp) ?_
      refine AllReadyH.cons rfl (fun K hK => ?_) AllReadyH.nil
      try simp only [Act.put, List.getElem_toArray, List.getElem_cons_succ, List.getElem_cons_zero, List.setIfInBounds_toArray, List.set_cons_zero, List.set_cons_succ]
      go_simp
      have XN6 := hide (XN5.out.other (b' := gx) (by omega) 1 (.slice A5 k c5))
      have m1 : (w5.setCell ⟨gx, 1, none⟩ (.slice A5 k c5)).cell? ⟨gN, 1, none⟩ = some (.slice A2 tb.length c2) := XN6.out.cell 1
      refine hK.out _ _ (m1) (fun hHeld => ?_)
      clear hK K
      try simp only [Act.put, List.getElem_toArray, List.getElem_cons_succ, List.getElem_cons_zero, List.setIfInBounds_toArray, List.set_cons_zero, List.set_cons_succ]
      refine wpAnyH_done (by kernel_rfl) ?_ _
      have hne5 : (Value.slice A5 k c5).ownBlock = none ∨ (Value.slice A5 k c5).ownBlock ≠ some gx := .inr (fun e => by have := (hown5.lt _ e).1; omega)
      have XB6 : Hid (BoxN (w5.setCell ⟨gx, 1, none⟩ (.slice A5 k c5)) gx #[.int .i64 n, .slice A5 k c5] 87) := XB5.out.set 1 (.slice A5 k c5)
      have RW6 := hide (hown5.kept (grown_setCell w5 ⟨gx, 1, none⟩ (.slice A5 k c5)) hne5)
      have BR6 := hide (BR5.out.setCell (p := ⟨gx, 1, none⟩) hgx2 (.slice A5 k c5))
      have BB6 := hide (BB5.out.setCell (p := ⟨gx, 1, none⟩) hzr (.slice A5 k c5))
      clear XN4 XB4 BR4 BB4 XN5 XB5 BR5 BB5 HRT1 HLT1 e1 k1 l1 l2 lf m1 hown5 hgr5 hat5 hrow0 hsz0 hgk4 hne5
      go_upto_region 15 with fail
      generalize w5.setCell ⟨gx, 1, none⟩ (.slice A5 k c5) = wY at *
      have XN7 : Hid (BoxN wY.drew gN #[.int .i64 n, .slice A2 tb.length c2] 87) := XN6.out
      have XB7 : Hid (BoxN wY.drew gx #[.int .i64 n, .slice A5 k c5] 87) := XB6.out
      have BR7 : Hid (Below w2.heap.size w2 wY.drew) := BR6.out.drew
      have BB7 : Hid (Below w4.heap.size w4 wY.drew) := BB6.out.drew
      have RW7 : Hid (wY.drew.ownsRow (gx + 1) 93 3 (.slice A5 k c5) k ([] ++ (tb.take k).flatMap T3.cells)) := RW6.out
      have e1 : wY.drew.cell? ⟨gN, 1, none⟩ = some (.slice A2 tb.length c2) := XN7.out.cell 1
      clear XN6 XB6 BR6 BB6 RW6
      refine wp_region_held_drew (S := fun W => W.cell? ⟨gN, 1, none⟩ = some (.slice A2 tb.length c2)) (by kernel_rfl) (e1) (fun hHeld => ?_)
      generalize wY.drew = wd2 at *
      have k1 : wd2.cell? ⟨gx, 1, none⟩ = some (.slice A5 k c5) := XB7.out.cell 1
      have hrow7 := RW7.out
      have hsz7 : gx + 1 ≤ wd2.heap.size := XB7.out.lt
      have hk1c : (k : Int) + 1 ≤ (c2 : Int) := by omega
      have hk1l : (k : Int) + 1 ≤ (tb.length : Int) := by omega
      have hk10 : (0 : Int) ≤ (k : Int) + 1 := by omega
      have hw1 : IntKind.i64.wrap ((k : Int) + 1) = (k : Int) + 1 := by rw [IntKind.wrap_i64] <;> omega
      obtain ⟨pb, po, _, hA2, _⟩ := (HR2.out).at_ hkt
      subst hA2
      have HLT2 := hide (show ((tb.drop (k + 1)).flatMap T3.cells).length = (tb.length - (k + 1)) * 3 by rw [flat3_len, List.length_drop])
      have HRTC : Hid (Rd wd2 wd2.heap.size (if c2 = k + 1 then some ⟨pb, po, none⟩ else some ⟨pb, po + (k + 1) * 3, none⟩) ((tb.drop (k + 1)).flatMap T3.cells)) := by
        by_cases hcc : c2 = k + 1
        · have hd : tb.drop (k + 1) = [] := List.drop_eq_nil_of_le (by omega)
          rw [hd]
          exact Rd.nil _ _ _
        · rw [if_neg hcc]
          exact rd3_drop ((HR2.out.below BR7.out).more BR7.out.size) (k + 1)
      refine wpAnyH_take (i := 0) (v := ?_) rfl (by kernel_rfl) (by kernel_rfl) (by kernel_rfl) (fun _ _ _ h => h) (Or.inl ⟨by rfl, ?_⟩) (by assumption) ?_
      rotate_left 1
      · (intro w hSw; (try dsimp only at hSw); go_simp; try with_reducible rfl)
      try simp only [Act.put, List.getElem_toArray, List.getElem_cons_succ, List.getElem_cons_zero, List.setIfInBounds_toArray, List.set_cons_zero, List.set_cons_succ]
      refine wpAnyH_take (i := 2) (v := ?_) rfl (by kernel_rfl) (by kernel_rfl) (by kernel_rfl) (fun _ _ _ h => h) (Or.inl ⟨by rfl, ?_⟩) (by assumption) ?_
      rotate_left 1
      · (intro w hSw; (try dsimp only at hSw); go_simp; try with_reducible rfl)
      try simp only [Act.put, List.getElem_toArray, List.getElem_cons_succ, List.getElem_cons_zero, List.setIfInBounds_toArray, List.set_cons_zero, List.set_cons_succ]
      refine wpAnyH_take (i := 3) (v := ?_) rfl (by kernel_rfl) (by kernel_rfl) (by kernel_rfl) (fun _ _ _ h => h) (Or.inl ⟨by rfl, ?_⟩) (by assumption) ?_
      rotate_left 1
      · (intro w hSw; (try dsimp only at hSw); go_simp; try with_reducible rfl)
      try simp only [Act.put, List.getElem_toArray, List.getElem_cons_succ, List.getElem_cons_zero, List.setIfInBounds_toArray, List.set_cons_zero, List.set_cons_succ]
      refine wpAnyH_take (i := 4) (v := ?_) rfl (by kernel_rfl) (by kernel_rfl) (by kernel_rfl) (fun _ _ _ h => h) (Or.inl ⟨by rfl, ?_⟩) (by assumption) ?_
      rotate_left 1
      · (intro w hSw; (try dsimp only at hSw); go_simp; try with_reducible rfl)
      try simp only [Act.put, List.getElem_toArray, List.getElem_cons_succ, List.getElem_cons_zero, List.setIfInBounds_toArray, List.set_cons_zero, List.set_cons_succ]
      refine wpAnyH_take (i := 5) (v := ?_) rfl (by kernel_rfl) (by kernel_rfl) (by kernel_rfl) (fun _ _ _ h => h) (Or.inl ⟨by rfl, ?_⟩) (by assumption) ?_
      rotate_left 1
      · (intro w hSw; (try dsimp only at hSw); go_simp; try with_reducible rfl)
      try simp only [Act.put, List.getElem_toArray, List.getElem_cons_succ, List.getElem_cons_zero, List.setIfInBounds_toArray, List.set_cons_zero, List.set_cons_succ]
      refine wpAnyH_take (i := 6) (v := ?_) rfl (by kernel_rfl) (by kernel_rfl) (by kernel_rfl) (fun _ _ _ h => h) (Or.inl ⟨by rfl, ?_⟩) (by assumption) ?_
      rotate_left 1
      · (intro w hSw; (try dsimp only at hSw); go_simp; try with_reducible rfl)
      try simp only [Act.put, List.getElem_toArray, List.getElem_cons_succ, List.getElem_cons_zero, List.setIfInBounds_toArray, List.set_cons_zero, List.set_cons_succ]
      generalize (if c2 = k + 1 then some ({ block := pb, off := po } : Addr) else some { block := pb, off := po + (k + 1) * 3 }) = Ax at *
      refine wpAnyH_ready (rs := [1]) (by kernel_rfl) (by simp) ?_
      refine AllReadyH.cons rfl (fun K hK => ?_) AllReadyH.nil
      try simp only [Act.put, List.getElem_toArray, List.getElem_cons_succ, List.getElem_cons_zero, List.setIfInBounds_toArray, List.set_cons_zero, List.set_cons_succ]
      go_simp
      refine hK.out _ _ (e1) (fun hHeld => ?_)
      clear hK K
      try simp only [Act.put, List.getElem_toArray, List.getElem_cons_succ, List.getElem_cons_zero, List.setIfInBounds_toArray, List.set_cons_zero, List.set_cons_succ]
      refine wpAnyH_ready (rs := [7]) (by kernel_rfl) (by simp) ?_
      refine AllReadyH.cons rfl (fun K hK => ?_) AllReadyH.nil
      try simp only [Act.put, List.getElem_toArray, List.getElem_cons_succ, List.getElem_cons_zero, List.setIfInBounds_toArray, List.set_cons_zero, List.set_cons_succ]
      rw [if_pos (by rfl)]
      refine op_app _ _ _ 85 rfl (gx + 1) 93 i0 (.agg #[.int .i64 0, .int .i64 0, .int .i64 0]) 3 24 Try.underlying85 hi0 hz0 hs0 hb0 rfl (by decide) _ _ _ rfl hrow7 _ _ (tb.length - (k + 1)) _ ((tb.drop (k + 1)).flatMap T3.cells) rfl HLT2.out HRTC.out (cells_one _) (by omega) (by decide) hsz7 ?_
      intro v' w6 hown6 hgr6 hat6
      have hrow6 : w6.ownsRow (gx + 1) 93 3 v' (dropAt tb k).length ((dropAt tb k).flatMap T3.cells) := by
        have e2 : (dropAt tb k).flatMap T3.cells = [] ++ (tb.take k).flatMap T3.cells ++ (tb.drop (k + 1)).flatMap T3.cells := by unfold dropAt; rw [List.flatMap_append]; rfl
        rw [dropAt_len hkt, e2]; exact hown6
      clear hown6
      obtain ⟨A6, c6, rfl, _⟩ := own_shape hrow6
      have XN8 : Hid (BoxN w6 gN #[.int .i64 n, .slice (some ⟨pb, po, none⟩) tb.length c2] 87) := (hgr6.block gN XN7.out.lt (fun e => by have := (hrow7.lt _ e.symm).1; omega)).trans XN7.out
      have XB8 : Hid (BoxN w6 gx #[.int .i64 n, .slice A5 k c5] 87) := (hgr6.block gx XB7.out.lt (fun e => by have := (hrow7.lt _ e.symm).1; omega)).trans XB7.out
      have BR8 := hide (app_below BR7.out hrow7 hgr6 (by omega) BR7.out.size)
      have BB8 := hide (app_below BB7.out hrow7 hgr6 (by omega) BB7.out.size)
      have l1 : w6.cell? ⟨gN, 1, none⟩ = some (.slice (some ⟨pb, po, none⟩) tb.length c2) := XN8.out.cell 1
      have l2 : w6.cell? ⟨gx, 1, none⟩ = some (.slice A5 k c5) := XB8.out.cell 1
      have lf := XB8.out.fro 1
      dsimp only
      refine hK.out _ _ (l1) (fun hHeld => ?_)
      clear hK K
      try simp only [Act.put, List.getElem_toArray, List.getElem_cons_succ, List.getElem_cons_zero, List.setIfInBounds_toArray, List.set_cons_zero, List.set_cons_succ]
      refine wpAnyH_take (i := 8) (v := ?_) rfl (by kernel_rfl) (by kernel_rfl) (by kernel_rfl) (fun _ _ _ h => h) (Or.inl ⟨by rfl, ?_⟩) (by assumption) ?_
      rotate_left 1
      · (intro w hSw; (try dsimp only at hSw); go_simp; try with_reducible rfl)
      try simp only [Act.put, List.getElem_toArray, List.getElem_cons_succ, List.getElem_cons_zero, List.setIfInBounds_toArray, List.set_cons_zero, List.set_cons_succ]
      refine wpAnyH_ready (rs := [9]) (by kernel_rfl) (by simp) ?_
      refine AllReadyH.cons rfl (fun K hK => ?_) AllReadyH.nil
      try simp only [Act.put, List.getElem_toArray, List.getElem_cons_succ, List.getElem_cons_zero, List.setIfInBounds_toArray, List.set_cons_zero, List.set_cons_succ]
      go_simp
      have XN9 := hide (XN8.out.other (b' := gx) (by omega) 1 (.slice A6 (dropAt tb k).length c6))
      have m1 : (w6.setCell ⟨gx, 1, none⟩ (.slice A6 (dropAt tb k).length c6)).cell? ⟨gN, 1, none⟩ = some (.slice (some ⟨pb, po, none⟩) tb.length c2) := XN9.out.cell 1
      refine hK.out _ _ (m1) (fun hHeld => ?_)
      clear hK K
      try simp only [Act.put, List.getElem_toArray, List.getElem_cons_succ, List.getElem_cons_zero, List.setIfInBounds_toArray, List.set_cons_zero, List.set_cons_succ]
      refine wpAnyH_done (by kernel_rfl) ?_ _
      have hne6 : (Value.slice A6 (dropAt tb k).length c6).ownBlock = none ∨ (Value.slice A6 (dropAt tb k).length c6).ownBlock ≠ some gx := .inr (fun e => by have := (hrow6.lt _ e).1; omega)
      have XB9 : Hid (BoxN (w6.setCell ⟨gx, 1, none⟩ (.slice A6 (dropAt tb k).length c6)) gx #[.int .i64 n, .slice A6 (dropAt tb k).length c6] 87) := XB8.out.set 1 (.slice A6 (dropAt tb k).length c6)
      have RW9 := hide (hrow6.kept (grown_setCell w6 ⟨gx, 1, none⟩ (.slice A6 (dropAt tb k).length c6)) hne6)
      have BB9 := hide (BB8.out.setCell (p := ⟨gx, 1, none⟩) hzr (.slice A6 (dropAt tb k).length c6))
      clear XN7 XB7 BR7 BB7 RW7 XN8 XB8 BR8 BB8 HRTC HLT2 e1 k1 l1 l2 lf m1 hrow6 hgr6 hat6 hrow7 hsz7 hne6 XN9 hw1
      go_upto_region 16 with fail
      generalize w6.setCell ⟨gx, 1, none⟩ (.slice A6 (dropAt tb k).length c6) = wZ at *
      have HIS := hide (implIsStrong_any n (dropAt tb k) A6 c6 wZ (HDO.out k hkt) (Rd.of_own RW9.out))
      rw [HDR.out k hkt] at HIS
      have HCK := hide (HCM.out k hkt)
      have j0 : wZ.cell? ⟨gx, 0, none⟩ = some (.int .i64 n) := XB9.out.cell 0
      have j1 : wZ.cell? ⟨gx, 1, none⟩ = some (.slice A6 (dropAt tb k).length c6) := XB9.out.cell 1
      clear RW9 XB9
      generalize strongB n tb k = sk at *
      have HH := hide fun W (hW : Below w4.heap.size w4 W) => a2Has_any L1 k A4 c4 W (by omega) ((R4.out.below hW).more hW.size)
      rw [HCK.out] at HH
      cases sk
      all_goals (
        go_wp2_with (first | (go_at_call 67; (with_reducible refine (HIS.out).mono ?_); rintro e w8 ⟨rfl, b8⟩; have b48 := BB9.out.trans (b8.mono BB9.out.size)) | (go_at_call 71; (with_reducible refine (HH.out _ b48).mono ?_); rintro e w' ⟨rfl, rfl⟩))
        have B48 := hide b48
        go_roundg (tb.length - (k + 1))
        case measure => have := hg.out; omega
        case rel => exact ⟨k + 1, by omega, rfl, by go_num, B48⟩)
    · have BW := hide (HB2.out.trans (HBR.out.mono HB2.out.size))
      have HATW := hide (HAT.out wr BW.out)
      go_upto_region 20 with (go_at_call 75; (with_reducible refine (HATW.out).mono ?_); rintro e w5 ⟨z, rfl, ⟨hz0, hz1'⟩, rfl⟩; have hz1 := hz1' (by omega))
      have hot : OkTube n ⟨0, 1, 1 + z⟩ := ⟨⟨by dsimp only; omega, by dsimp only; omega⟩, ⟨by dsimp only; omega, by dsimp only; omega⟩, by dsimp only; omega, by dsimp only; omega, by dsimp only; omega⟩
      have XT := hide (BoxN.new wr #[.int .i64 0, .int .i64 1, .int .i64 (1 + z)] 93)
      have XN6 := hide ((X2.out.below HBR.out hgN).alloc (.cells #[.int .i64 0, .int .i64 1, .int .i64 (1 + z)] 93))
      have BR6 := hide (HBR.out.alloc HBR.out.size (.cells #[.int .i64 0, .int .i64 1, .int .i64 (1 + z)] 93))
      have HAD := hide (implAddTube_any n tb ⟨0, 1, 1 + z⟩ A2 c2 _ HOK.out (by omega) hot ((HR2.out.below BR6.out).more BR6.out.size))
      have hsa := strong_add HOK.out (t := ⟨0, 1, 1 + z⟩) (by omega) hot HST.out
      have HS1 := hide hsa.1
      have HS2 := hide hsa.2
      have HOW := hide (add_ok HOK.out (t := ⟨0, 1, 1 + z⟩) (by omega) hot)
      dsimp only at HAD
      clear y0 y1 hsa hot hz1' HATW
      generalize wr.heap.size = gT at *
      generalize wr.alloc (.cells #[.int .i64 0, .int .i64 1, .int .i64 (1 + z)] 93) = w6 at *
      have x0 : w6.cell? ⟨gN, 0, none⟩ = some (.int .i64 n) := XN6.out.cell 0
      have x1 : w6.cell? ⟨gN, 1, none⟩ = some (.slice A2 tb.length c2) := XN6.out.cell 1
      have t0 : w6.cell? ⟨gT, 0, none⟩ = some (.int .i64 0) := XT.out.cell 0
      have t1 : w6.cell? ⟨gT, 1, none⟩ = some (.int .i64 1) := XT.out.cell 1
      have t2 : w6.cell? ⟨gT, 2, none⟩ = some (.int .i64 (1 + z)) := XT.out.cell 2
      go_upto_region 21 with (go_at_call 76; (with_reducible refine (HAD.out).mono ?_); rintro e w7 ⟨A7, c7, rfl, r7, b7⟩)
      have XW := hide (BoxN.new w7 #[.int .i64 n, .slice A7 (tb.length + 1) c7] 87)
      have XN8 := hide (((XN6.out.below b7 XN6.out.lt) : BoxN w7 gN _ _).alloc (.cells #[.int .i64 n, .slice A7 (tb.length + 1) c7] 87))
      have BR7 := BR6.out.trans (b7.mono BR6.out.size)
      have BR8 := hide (BR7.alloc BR7.size (.cells #[.int .i64 n, .slice A7 (tb.length + 1) c7] 87))
      have b78 : Below w7.heap.size w7 (w7.alloc (.cells #[.int .i64 n, .slice A7 (tb.length + 1) c7] 87)) := (Below.refl _ _).alloc (Nat.le_refl _) _
      have hlen : (tb ++ [(⟨0, 1, 1 + z⟩ : T3)]).length = tb.length + 1 := by simp
      have hCW := implCritT_any n (tb ++ [⟨0, 1, 1 + z⟩]) A7 c7 _ HOW.out HS1.out ((r7.below b78).more b78.size)
      rw [hlen] at hCW
      have HCW := hide hCW
      have hcm := crit_mem (n := n) (tb := tb ++ [⟨0, 1, 1 + z⟩]) (i := tb.length) (by rw [hlen]; omega)
      rw [HS2.out] at hcm
      have HCMM := hide hcm
      have hl2 : (critL n (tb ++ [⟨0, 1, 1 + z⟩])).length ≤ 1000 := by have h := idxFrom_len (critP n (tb ++ [⟨0, 1, 1 + z⟩])) (List.range (tb ++ [(⟨0, 1, 1 + z⟩ : T3)]).length) 0; rw [List.length_range] at h; unfold critL; omega
      clear r7 b7 BR7 b78 hlen hCW hcm x0 x1 t0 t1 t2 HAD XT XN6 BR6
      generalize critL n (tb ++ [⟨0, 1, 1 + z⟩]) = L2 at *
      generalize w7.heap.size = gW at *
      generalize w7.alloc (.cells #[.int .i64 n, .slice A7 (tb.length + 1) c7] 87) = w8 at *
      have x0 : w8.cell? ⟨gW, 0, none⟩ = some (.int .i64 n) := XW.out.cell 0
      have x1 : w8.cell? ⟨gW, 1, none⟩ = some (.slice A7 (tb.length + 1) c7) := XW.out.cell 1
      have HLT := hide XW.out.lt
      have HLN := hide XN8.out.lt
      go_wp2_with (first | (go_at_call 73; (with_reducible refine (HCW.out).mono ?_); rintro e w9 ⟨A10, c10, rfl, r10, b10⟩; have u1 := (b10.cell (p := ⟨gW, 1, none⟩) HLT.out).trans x1; have v1 := (b10.cell (p := ⟨gN, 1, none⟩) HLN.out).trans (XN8.out.cell 1); have HH := hide (a2Has_any L2 tb.length A10 c10 w9 (by omega) r10); rw [HCMM.out] at HH; clear r10) | (go_at_call 71; refine (HH.out).mono ?_; rintro e w' ⟨rfl, rfl⟩))
      go_ret
      have b29 := BR8.out.trans (b10.mono BR8.out.size)
      exact ⟨ret_b (by simp), HB2.out.trans (b29.mono HB2.out.size)⟩
theorem fnCritical_own : ownKnob Try.prog.godebug = none := by kernel_rfl
theorem fnCritical_laid : laidOutB Try.prog = true := by kernel_rfl
set_option maxRecDepth 100000 in
theorem fnCritical_lifted (os : Os) (started : os.Started) (H : Type) (enc : TypeId × Value → H) :
    ReturnsInHanded {} Try.checked os 9 .any (Rows.fnCriticalSpec.pre6 enc Try.prog Try.f9 Rows.fnCriticalRow.domain false) (Rows.fnCriticalSpec.post enc Try.prog Try.f9 false true false false) := by
  refine returnsInHanded_of_change (C := Try.checked) fnCritical_own started (by kernel_rfl) Try.func9
    (ChangeSpec.witness6 (enc := enc) (C := Try.checked) false ⟨#[], #[.slice none 0 0, .slice none 0 0], []⟩ 8 (by kernel_rfl) (by kernel_rfl) (by kernel_rfl) (by kernel_rfl)) ?_
  intro W base args ds gs before hval0 hW hcnd _
  have hval : ∀ (j : Nat) t v, Try.f9.params[j]? = some t → args[j]? = some v → Value.okWide Try.prog W .any base t v := hval0
  have hW' := hW
  obtain ⟨p, q, hA0, hV, rfl, hfz, hnd⟩ := hW
  have hA : DataW.TrodAll enc Try.prog W 0 (fun _ => true) true Try.f9.params.toList args.toList ds p := hA0
  rw [Try.params9] at hA hval
  obtain ⟨v0, vs0, d0, ds0, p0, q0, hargs, rfl, rfl, h0, r0⟩ := trodAll_cons hA
  obtain ⟨v1, vs1, d1, ds1, p1, q1, rfl, rfl, rfl, h1, r1⟩ := trodAll_cons r0
  obtain ⟨rfl, rfl, rfl⟩ := trodAll_nil r1
  obtain rfl : args = #[v0, v1] := by cases args; simp_all
  obtain ⟨rfl, rfl⟩ := trodVars_none hV
  have k0 := h0
  have lt0 : ∀ x ∈ p0, x.block < W.heap.size := by obtain ⟨m, hm⟩ := k0; exact DataW.trod_lt m _ _ _ hm
  obtain ⟨A0, c0, zs0, rfl, rd0, len0, bd0⟩ := open_B Try.underlying22 Try.underlying5 (by kernel_rfl) (hval 0 22 v0 rfl rfl) h0
  have k1 := h1
  have lt1 : ∀ x ∈ p1, x.block < W.heap.size := by obtain ⟨m, hm⟩ := k1; exact DataW.trod_lt m _ _ _ hm
  obtain ⟨A1, c1, zs1, rfl, rd1, len1, bd1⟩ := open_B Try.underlying22 Try.underlying5 (by kernel_rfl) (hval 1 22 v1 rfl rfl) h1
  clear hA0 hval0
  refine (lCritical_walk zs0 (.slice A0 zs0.length c0) zs1 (.slice A1 zs1.length c1) W ⟨A0, c0, rfl, rd0⟩ len0 bd0 ⟨A1, c1, rfl, rd1⟩ len1 bd1).mono fun e W' ⟨he, bel⟩ => ?_
  subst he
  exact ⟨_, rfl, _, _, _, [], _, [], hW', trodAll_mk1 (shut_bool Try.underlying4 _), (trodAll_cons_mk (Below.trod fnCritical_laid (by kernel_rfl) (of_decide_eq_true (by kernel_rfl)) k0 bel lt0) (trodAll_cons_mk (Below.trod fnCritical_laid (by kernel_rfl) (of_decide_eq_true (by kernel_rfl)) k1 bel lt1) trodAll_mk0)), rfl, bel.frame _, fun h => by cases h⟩
theorem fnCritical_holds : Rows.FnCriticalSaid :=
  OpenClaim.holds_of_wide 9 Try.f9 rfl rfl rfl rfl rfl rfl rfl ⟨rfl, rfl, rfl, rfl, rfl⟩ rfl rfl rfl rfl rfl (by kernel_rfl) Try.func9 (by kernel_rfl)
    (of_decide_eq_true (by kernel_rfl)) (by unfold Func.isWrapper; first | (rw [if_pos (by decide +kernel)]; kernel_rfl) | (rw [if_neg (by decide +kernel)]; exact ⟨rfl, rfl⟩))
    (fun os started H enc _ => fnCritical_lifted os started H enc)
#print axioms fnCritical_holds
end Go.Proofs.Ytflbddfmhjlknaa
