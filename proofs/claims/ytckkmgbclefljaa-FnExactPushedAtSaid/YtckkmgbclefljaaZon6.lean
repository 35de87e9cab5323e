/-
  Zones: the tubes with a level at a tick; in the program and in the reference.
-/
import Derived.Test.YtckkmgbclefljaaZon5
namespace Go.Proofs.Ytckkmgbclefljaa
open Go.RowKit

def pushedAt (x : TZ) (tick : Int) : List Int × Int := if codeZ x 0 tick = 0 then (idxFrom (fun z => !decide (lvl x.ch z tick = 0)) x.of 0, 0) else ([], codeZ x 0 tick)
set_option maxRecDepth 100000 in
set_option maxHeartbeats 4000000 in
theorem S_PushedAt (x : TZ) (v : Value) (tick : Int) (w : World) (hs : Small_Zoned x) (_ : Fit_Zoned x) (h : R_Zoned w w.heap.size v x) (_ : -9223372036854775808 ≤ tick) (_ : tick ≤ 9223372036854775807) :
    Calls Try.prog 45 #[v, .int .i64 tick] w fun e w' => ∃ r, e = .returned (.tuple #[r, .int .i64 (pushedAt x tick).2]) ∧ O_Int64S w' w.heap.size w'.heap.size r (pushedAt x tick).1 ∧ Below w.heap.size w w' := by
  obtain ⟨A, c, A2, c2, rfl, h1, h2⟩ := h
  obtain ⟨i0, hi0, hz0, hs0, hb0⟩ := info_parts int64_info
  have b0 : Below w.heap.size w (w.alloc (.cells #[.int .i64 x.z, .slice A x.of.length c, .slice A2 x.ch.length c2] 36)) := (by repeat (first | exact Below.refl _ _ | assumption | (refine Below.alloc ?_ (by simp <;> omega) _) | refine Below.drew ?_ | refine bdn ?_ _))
  have HC := hide (l09Code_any x A c A2 c2 w.heap.size 0 tick (w.alloc (.cells #[.int .i64 x.z, .slice A x.of.length c, .slice A2 x.ch.length c2] 36)) hs (by simp [go_sem]) (by simp [go_sem]) (by simp [go_sem]) ((h1.below b0).more b0.size) ((h2.below b0).more b0.size))
  have z0 : w.heap.size + 1 ≤ (w.alloc (.cells #[.int .i64 x.z, .slice A x.of.length c, .slice A2 x.ch.length c2] 36)).heap.size := by simp
  have X0 := hide (BoxAt.new w #[.int .i64 x.z, .slice A x.of.length c, .slice A2 x.ch.length c2] 36)
  have HX := hide h1
  have HM := hide h2
  clear h1 h2
  by_cases hc : codeZ x 0 tick = 0
  case neg =>
    have HR := hide (show pushedAt x tick = ([], codeZ x 0 tick) by simp [pushedAt, hc])
    have hne : (codeZ x 0 tick != 0) = true := by simp [hc]
    generalize codeZ x 0 tick = cd at *
    go_enter Try.func45, Try.ntmps45
    go_wp2_with (go_at_call 68; refine (HC.out).mono ?_; rintro e w1 ⟨rfl, hb1⟩)
    go_ret2
    exact ⟨_, by rw [HR.out]; rfl, by rw [HR.out]; exact O_Int64S.nil _ _ _ _ _, b0.trans (hb1.mono b0.size)⟩
  have hv := vZoned_iff (codeZ_ok hc).1
  have hle := hv.2.1
  have HR := hide (show pushedAt x tick = (idxFrom (fun z => !decide (lvl x.ch z tick = 0)) x.of 0, 0) by simp [pushedAt, hc])
  have HL := hide fun zone W (hW : Below (w.heap.size + 1) (w.alloc (.cells #[.int .i64 x.z, .slice A x.of.length c, .slice A2 x.ch.length c2] 36)) W) => l09Level_any x A2 c2 w.heap.size zone tick W (codeZ_ok hc).1 (by have := (X0.out.below hW (by omega)).cell 2; simpa using this) ((HM.out.below (b0.trans (hW.mono (by omega)))).more (by have := hW.size; omega))
  rw [hc] at HC
  clear hc hv
  go_enter Try.func45, Try.ntmps45
  go_wp2_with (go_at_call 68; refine (HC.out).mono ?_; rintro e w1 ⟨rfl, hb1⟩)
  have hb2 : Below (w.heap.size + 1) (w.alloc (.cells #[.int .i64 x.z, .slice A x.of.length c, .slice A2 x.ch.length c2] 36)) w1 := hb1.mono z0
  have ho1 := own_new0 w1 (w.heap.size + 1) 2 1 (by have := hb2.size; omega)
  have hb3 : Below (w.heap.size + 1) (w.alloc (.cells #[.int .i64 x.z, .slice A x.of.length c, .slice A2 x.ch.length c2] 36)) (w1.alloc (.cells #[] 2)) := hb2.alloc (by have := hb2.size; omega) _
  go_loopg [7, 8] x.of.length (fun g s i wr => ∃ (k : Nat) (acc : List Int), k ≤ x.of.length ∧ Hid (g = x.of.length - k) ∧ i = .int .i64 k ∧ acc.length ≤ k ∧ wr.ownsRow (w.heap.size + 1) 2 1 s acc.length (acc.map (Value.int .i64)) ∧
    Hid (idxFrom (fun z => !decide (lvl x.ch z tick = 0)) x.of 0 = acc ++ idxFrom (fun z => !decide (lvl x.ch z tick = 0)) (x.of.drop k) k) ∧ Below (w.heap.size + 1) (w.alloc (.cells #[.int .i64 x.z, .slice A x.of.length c, .slice A2 x.ch.length c2] 36)) wr)
  case atStart => exact ⟨0, [], by omega, by simp [Hid], rfl, by simp, ho1, by simp [Hid], hb3⟩
  case round =>
    obtain ⟨k, acc, hk, hg, rfl, hal, hown, HS, hb⟩ := hrel
    clear ho1 hb3 hb2 hb1
    have hsz : w.heap.size + 1 ≤ wr.heap.size := by have := hb.size; omega
    have hl0 : w.heap.size < wr.heap.size := by omega
    have X1 := X0.out.below hb (by omega)
    have k1 := X1.cell 1
    simp only [List.getElem?_cons_succ, List.getElem?_cons_zero] at k1
    have bw : Below w.heap.size w wr := b0.trans (hb.mono (by omega))
    by_cases hlt : k < x.of.length
    · obtain ⟨b1, o1, z1, rfl, hbb, hz1, hca⟩ := (HX.out.below bw).at_ hlt
      by_cases he : lvl x.ch z1 tick ≠ 0
      · have hE : (!decide (lvl x.ch z1 tick = 0)) = true := by simp [he]
        have HS' : Hid (idxFrom (fun z => !decide (lvl x.ch z tick = 0)) x.of 0 = (acc ++ [(k : Int)]) ++ idxFrom (fun z => !decide (lvl x.ch z tick = 0)) (x.of.drop (k + 1)) (k + 1)) := by
          have := HS.out; rw [drop_cons hz1] at this; simp only [idxFrom, hE, if_true] at this; unfold Hid; rw [this]; simp
        have HQ := hide (HL.out z1 _ hb)
        have hne : (lvl x.ch z1 tick != 0) = true := by simpa using he
        clear hz1 he hE
        generalize lvl x.ch z1 tick = lv at *
        go_wp2_with (first | (go_at_call 69; refine (HQ.out).mono ?_; rintro e w' ⟨rfl, rfl⟩) | (at_builtin; go_must (refine wp_app _ rfl _ _ 28 rfl ((w.heap.size + 1)) 2 i0 (.int .i64 0) 1 8 Try.underlying28 hi0 hz0 hs0 hb0 rfl (by decide) _ _ _ rfl (hown.alloc _) _ _ 1 1 [.int .i64 (k : Int)] rfl rfl (rd_new _ _ _ _ (by simp)) (int_one _) (by omega) (by decide) (by simp <;> omega) ?_); intro v' w2 hown' hgrow hat))
        have hb4 := app_below (hb.alloc hsz _) (hown.alloc _) hgrow (Nat.le_refl _) (by simp <;> omega)
        go_roundg (x.of.length - (k + 1))
        case measure => have := hg.out; omega
        case rel => exact ⟨k + 1, acc ++ [(k : Int)], by omega, rfl, by go_num, by simp; omega, by simpa using hown', HS', hb4⟩
      · have hE : (!decide (lvl x.ch z1 tick = 0)) = false := by simp at he; simp [he]
        have HS' : Hid (idxFrom (fun z => !decide (lvl x.ch z tick = 0)) x.of 0 = acc ++ idxFrom (fun z => !decide (lvl x.ch z tick = 0)) (x.of.drop (k + 1)) (k + 1)) := by
          have := HS.out; rw [drop_cons hz1] at this; simp only [idxFrom, hE] at this; unfold Hid; rw [this]; simp
        have HQ := hide (HL.out z1 _ hb)
        have hne : (lvl x.ch z1 tick != 0) = false := by simpa using he
        clear hz1 he hE
        generalize lvl x.ch z1 tick = lv at *
        go_wp2_with (go_at_call 69; refine (HQ.out).mono ?_; rintro e w' ⟨rfl, rfl⟩)
        go_roundg (x.of.length - (k + 1))
        case measure => have := hg.out; omega
        case rel => exact ⟨k + 1, acc, by omega, rfl, by go_num, by omega, hown, HS', hb⟩
    · go_wp2_with fail
      go_ret2
      have := HS.out
      rw [List.drop_eq_nil_of_le (by omega)] at this
      simp only [idxFrom, List.append_nil] at this
      refine ⟨_, by rw [HR.out]; rfl, ?_, bw⟩
      rw [HR.out, this]
      exact O_Int64S.widen (OwnV.of_row hown (by dsimp only; omega)) (by omega) (Nat.le_refl _)
set_option maxRecDepth 100000 in
set_option maxHeartbeats 4000000 in
theorem P_PushedAt (x : TZ) (v : Value) (tick : Int) (w : World) (hs : Small_Zoned x) (hf : Fit_Zoned x) (h : R_Zoned w w.heap.size v x) (_ : -9223372036854775808 ≤ tick) (_ : tick ≤ 9223372036854775807) :
    Calls Try.prog 46 #[v, .int .i64 tick] w fun e w' => ∃ r, e = .returned (.tuple #[r, .int .i64 (pushedAt x tick).2]) ∧ O_Int64S w' w.heap.size w'.heap.size r (pushedAt x tick).1 ∧ Below w.heap.size w w' := by
  have h0 := h
  obtain ⟨A, c, A2, c2, rfl, h1, h2⟩ := h0
  obtain ⟨i0, hi0, hz0, hs0, hb0⟩ := info_parts int64_info
  have b0 : Below w.heap.size w (w.alloc (.cells #[.int .i64 x.z, .slice A x.of.length c, .slice A2 x.ch.length c2] 36)) := (by repeat (first | exact Below.refl _ _ | assumption | (refine Below.alloc ?_ (by simp <;> omega) _) | refine Below.drew ?_ | refine bdn ?_ _))
  have HC := hide (zoneCode_any x _ 0 tick _ hs hf ((h.below b0).more b0.size))
  have z0 : w.heap.size + 1 ≤ (w.alloc (.cells #[.int .i64 x.z, .slice A x.of.length c, .slice A2 x.ch.length c2] 36)).heap.size := by simp
  have X0 := hide (BoxAt.new w #[.int .i64 x.z, .slice A x.of.length c, .slice A2 x.ch.length c2] 36)
  have HX := hide h1
  have HL := hide fun zone W (hW : Below w.heap.size w W) => levelAt_any x (.agg #[.int .i64 x.z, .slice A x.of.length c, .slice A2 x.ch.length c2]) zone tick W hs ((h.below hW).more hW.size)
  clear h h1 h2
  by_cases hc : codeZ x 0 tick = 0
  case neg =>
    have HR := hide (show pushedAt x tick = ([], codeZ x 0 tick) by simp [pushedAt, hc])
    have hne : (codeZ x 0 tick != 0) = true := by simp [hc]
    generalize codeZ x 0 tick = cd at *
    go_enter Try.func46, Try.ntmps46
    go_wp2_with (go_at_call 70; refine (HC.out).mono ?_; rintro e w1 ⟨rfl, hb1⟩)
    go_ret2
    exact ⟨_, by rw [HR.out]; rfl, by rw [HR.out]; exact O_Int64S.nil _ _ _ _ _, b0.trans (hb1.mono b0.size)⟩
  have hv := vZoned_iff (codeZ_ok hc).1
  have hle := hv.2.1
  have HR := hide (show pushedAt x tick = (idxFrom (fun z => !decide (lvl x.ch z tick = 0)) x.of 0, 0) by simp [pushedAt, hc])
  rw [hc] at HC
  clear hc hv
  go_enter Try.func46, Try.ntmps46
  go_wp2_with (go_at_call 70; refine (HC.out).mono ?_; rintro e w1 ⟨rfl, hb1⟩; have hb2 := hb1.mono z0; have X1 := X0.out.below hb2 (by omega); have hl1 := X1.lt; have k1 := X1.cell 1; simp only [List.getElem?_cons_succ, List.getElem?_cons_zero] at k1)
  have ho1 := own_new0 w1 (w.heap.size + 1) 2 1 hl1
  have hb3 : Below (w.heap.size + 1) (w.alloc (.cells #[.int .i64 x.z, .slice A x.of.length c, .slice A2 x.ch.length c2] 36)) (w1.alloc (.cells #[] 2)) := hb2.alloc hl1 _
  clear k1
  go_loopg [7, 20] x.of.length (fun g s i wr => ∃ (k : Nat) (acc : List Int), k ≤ x.of.length ∧ Hid (g = x.of.length - k) ∧ i = .int .i64 k ∧ acc.length ≤ k ∧ wr.ownsRow (w.heap.size + 1) 2 1 s acc.length (acc.map (Value.int .i64)) ∧
    Hid (idxFrom (fun z => !decide (lvl x.ch z tick = 0)) x.of 0 = acc ++ idxFrom (fun z => !decide (lvl x.ch z tick = 0)) (x.of.drop k) k) ∧ Below (w.heap.size + 1) (w.alloc (.cells #[.int .i64 x.z, .slice A x.of.length c, .slice A2 x.ch.length c2] 36)) wr)
  case atStart => exact ⟨0, [], by omega, by simp [Hid], rfl, by simp, ho1, by simp [Hid], hb3⟩
  case round =>
    obtain ⟨k, acc, hk, hg, rfl, hal, hown, HS, hb⟩ := hrel
    clear ho1 hb3 hb2 hb1
    have hsz : w.heap.size + 1 ≤ wr.heap.size := by have := hb.size; omega
    have bw : Below w.heap.size w wr := b0.trans (hb.mono (by omega))
    have X1 := X0.out.below hb (by omega)
    have k0 := X1.cell 0
    have k1 := X1.cell 1
    have k2 := X1.cell 2
    simp only [List.getElem?_cons_succ, List.getElem?_cons_zero] at k0 k1 k2
    by_cases hlt : k < x.of.length
    · obtain ⟨b1, o1, z1, rfl, hbb, hz1, hca⟩ := (HX.out.below bw).at_ hlt
      by_cases he : lvl x.ch z1 tick ≠ 0
      · have hE : (!decide (lvl x.ch z1 tick = 0)) = true := by simp [he]
        have HS' : Hid (idxFrom (fun z => !decide (lvl x.ch z tick = 0)) x.of 0 = (acc ++ [(k : Int)]) ++ idxFrom (fun z => !decide (lvl x.ch z tick = 0)) (x.of.drop (k + 1)) (k + 1)) := by
          have := HS.out; rw [drop_cons hz1] at this; simp only [idxFrom, hE, if_true] at this; unfold Hid; rw [this]; simp
        have HQ := hide (HL.out z1 _ bw)
        have hne : (lvl x.ch z1 tick != 0) = true := by simpa using he
        clear hz1 he hE
        generalize lvl x.ch z1 tick = lv at *
        go_wp2_with (first | (go_at_call 71; refine (HQ.out).mono ?_; rintro e w1 ⟨rfl, hb5⟩; have hown1 := own_below hown hb5 (Nat.le_refl _); have hb6 := hb.trans (hb5.mono hsz); have hsz1 : w.heap.size + 1 ≤ w1.heap.size := by have := hb6.size; omega) | (at_builtin; go_must (refine wp_app _ rfl _ _ 28 rfl ((w.heap.size + 1)) 2 i0 (.int .i64 0) 1 8 Try.underlying28 hi0 hz0 hs0 hb0 rfl (by decide) _ _ _ rfl (hown1.alloc _) _ _ 1 1 [.int .i64 (k : Int)] rfl rfl (rd_new _ _ _ _ (by simp)) (int_one _) (by omega) (by decide) (by simp <;> omega) ?_); intro v' w2 hown' hgrow hat))
        have hb4 := app_below (hb6.alloc hsz1 _) (hown1.alloc _) hgrow (Nat.le_refl _) (by simp <;> omega)
        go_roundg (x.of.length - (k + 1))
        case measure => have := hg.out; omega
        case rel => exact ⟨k + 1, acc ++ [(k : Int)], by omega, rfl, by go_num, by simp; omega, by simpa using hown', HS', hb4⟩
      · have hE : (!decide (lvl x.ch z1 tick = 0)) = false := by simp at he; simp [he]
        have HS' : Hid (idxFrom (fun z => !decide (lvl x.ch z tick = 0)) x.of 0 = acc ++ idxFrom (fun z => !decide (lvl x.ch z tick = 0)) (x.of.drop (k + 1)) (k + 1)) := by
          have := HS.out; rw [drop_cons hz1] at this; simp only [idxFrom, hE] at this; unfold Hid; rw [this]; simp
        have HQ := hide (HL.out z1 _ bw)
        have hne : (lvl x.ch z1 tick != 0) = false := by simpa using he
        clear hz1 he hE
        generalize lvl x.ch z1 tick = lv at *
        go_wp2_with (go_at_call 71; refine (HQ.out).mono ?_; rintro e w1 ⟨rfl, hb5⟩; have hown1 := own_below hown hb5 (Nat.le_refl _); have hb6 := hb.trans (hb5.mono hsz))
        go_roundg (x.of.length - (k + 1))
        case measure => have := hg.out; omega
        case rel => exact ⟨k + 1, acc, by omega, rfl, by go_num, by omega, hown1, HS', hb6⟩
    · go_wp2_with fail
      go_ret2
      have := HS.out
      rw [List.drop_eq_nil_of_le (by omega)] at this
      simp only [idxFrom, List.append_nil] at this
      refine ⟨_, by rw [HR.out]; rfl, ?_, bw⟩
      rw [HR.out, this]
      exact O_Int64S.widen (OwnV.of_row hown (by dsimp only; omega)) (by omega) (Nat.le_refl _)
end Go.Proofs.Ytckkmgbclefljaa
