/-
  Zones: the level by the reference's contract; a zone's tubes and the tubes with a level, in the program and in the reference.
-/
import Derived.Test.YtckkmgbclefljaaZon4
namespace Go.Proofs.Ytckkmgbclefljaa
open Go.RowKit

set_option maxRecDepth 100000 in
set_option maxHeartbeats 4000000 in
theorem S_LevelAt (x : TZ) (v : Value) (zone tick : Int) (w : World) (hs : Small_Zoned x) (_ : Fit_Zoned x) (h : R_Zoned w w.heap.size v x) (_ : -9223372036854775808 ≤ zone) (_ : zone ≤ 9223372036854775807) (_ : -9223372036854775808 ≤ tick) (_ : tick ≤ 9223372036854775807) :
    Calls Try.prog 32 #[v, .int .i64 zone, .int .i64 tick] w fun e w' => e = .returned (.tuple #[.int .i64 (levelAt x zone tick).1, .int .i64 (levelAt x zone tick).2]) ∧ Below w.heap.size w w' := by
  obtain ⟨A, c, A2, c2, rfl, h1, h2⟩ := h
  have b0 : Below w.heap.size w (w.alloc (.cells #[.int .i64 x.z, .slice A x.of.length c, .slice A2 x.ch.length c2] 36)) := (by repeat (first | exact Below.refl _ _ | assumption | (refine Below.alloc ?_ (by simp <;> omega) _) | refine Below.drew ?_ | refine bdn ?_ _))
  have HC := hide (l09Code_any x A c A2 c2 w.heap.size zone tick (w.alloc (.cells #[.int .i64 x.z, .slice A x.of.length c, .slice A2 x.ch.length c2] 36)) hs (by simp [go_sem]) (by simp [go_sem]) (by simp [go_sem]) ((h1.below b0).more b0.size) ((h2.below b0).more b0.size))
  have z0 : w.heap.size + 1 ≤ (w.alloc (.cells #[.int .i64 x.z, .slice A x.of.length c, .slice A2 x.ch.length c2] 36)).heap.size := by simp
  have X0 := hide (BoxAt.new w #[.int .i64 x.z, .slice A x.of.length c, .slice A2 x.ch.length c2] 36)
  have HM := hide h2
  clear h1 h2
  by_cases hc : codeZ x zone tick = 0
  case neg =>
    have HR := hide (show levelAt x zone tick = (0, codeZ x zone tick) by simp [levelAt, hc])
    have hne : (codeZ x zone tick != 0) = true := by simp [hc]
    generalize codeZ x zone tick = cd at *
    go_enter Try.func32, Try.ntmps32
    go_wp2_with (go_at_call 68; refine (HC.out).mono ?_; rintro e w1 ⟨rfl, hb1⟩)
    go_ret2
    exact ⟨by rw [HR.out]; rfl, b0.trans (hb1.mono b0.size)⟩
  have hv := (codeZ_ok hc).1
  have HR := hide (show levelAt x zone tick = (lvl x.ch zone tick, 0) by simp [levelAt, hc])
  have HL := hide fun W (hW : Below (w.heap.size + 1) (w.alloc (.cells #[.int .i64 x.z, .slice A x.of.length c, .slice A2 x.ch.length c2] 36)) W) => l09Level_any x A2 c2 w.heap.size zone tick W hv (by have := (X0.out.below hW (by omega)).cell 2; simpa using this) ((HM.out.below (b0.trans (hW.mono (by omega)))).more (by have := hW.size; omega))
  rw [hc] at HC
  clear hc hv
  go_enter Try.func32, Try.ntmps32
  go_wp2_with (first | (go_at_call 68; refine (HC.out).mono ?_; rintro e w1 ⟨rfl, hb1⟩; have hb2 := hb1.mono z0) | (go_at_call 69; refine (HL.out _ hb2).mono ?_; rintro e w' ⟨rfl, rfl⟩))
  go_ret2
  exact ⟨by rw [HR.out]; rfl, b0.trans (hb2.mono (by omega))⟩
def tubesOfZone (x : TZ) (zone : Int) : List Int × Int := if codeZ x zone 0 = 0 then (idxFrom (fun z => decide (z = zone)) x.of 0, 0) else ([], codeZ x zone 0)
set_option maxRecDepth 100000 in
set_option maxHeartbeats 4000000 in
theorem S_TubesOfZone (x : TZ) (v : Value) (zone : Int) (w : World) (hs : Small_Zoned x) (_ : Fit_Zoned x) (h : R_Zoned w w.heap.size v x) (_ : -9223372036854775808 ≤ zone) (_ : zone ≤ 9223372036854775807) :
    Calls Try.prog 41 #[v, .int .i64 zone] w fun e w' => ∃ r, e = .returned (.tuple #[r, .int .i64 (tubesOfZone x zone).2]) ∧ O_Int64S w' w.heap.size w'.heap.size r (tubesOfZone x zone).1 ∧ Below w.heap.size w w' := by
  obtain ⟨A, c, A2, c2, rfl, h1, h2⟩ := h
  obtain ⟨i0, hi0, hz0, hs0, hb0⟩ := info_parts int64_info
  have b0 : Below w.heap.size w (w.alloc (.cells #[.int .i64 x.z, .slice A x.of.length c, .slice A2 x.ch.length c2] 36)) := (by repeat (first | exact Below.refl _ _ | assumption | (refine Below.alloc ?_ (by simp <;> omega) _) | refine Below.drew ?_ | refine bdn ?_ _))
  have HC := hide (l09Code_any x A c A2 c2 w.heap.size zone 0 (w.alloc (.cells #[.int .i64 x.z, .slice A x.of.length c, .slice A2 x.ch.length c2] 36)) hs (by simp [go_sem]) (by simp [go_sem]) (by simp [go_sem]) ((h1.below b0).more b0.size) ((h2.below b0).more b0.size))
  have z0 : w.heap.size + 1 ≤ (w.alloc (.cells #[.int .i64 x.z, .slice A x.of.length c, .slice A2 x.ch.length c2] 36)).heap.size := by simp
  have X0 := hide (BoxAt.new w #[.int .i64 x.z, .slice A x.of.length c, .slice A2 x.ch.length c2] 36)
  have HX := hide h1
  clear h1 h2
  by_cases hc : codeZ x zone 0 = 0
  case neg =>
    have HR := hide (show tubesOfZone x zone = ([], codeZ x zone 0) by simp [tubesOfZone, hc])
    have hne : (codeZ x zone 0 != 0) = true := by simp [hc]
    generalize codeZ x zone 0 = cd at *
    go_enter Try.func41, Try.ntmps41
    go_wp2_with (go_at_call 68; refine (HC.out).mono ?_; rintro e w1 ⟨rfl, hb1⟩)
    go_ret2
    exact ⟨_, by rw [HR.out]; rfl, by rw [HR.out]; exact O_Int64S.nil _ _ _ _ _, b0.trans (hb1.mono b0.size)⟩
  have hv := vZoned_iff (codeZ_ok hc).1
  have hle := hv.2.1
  have HR := hide (show tubesOfZone x zone = (idxFrom (fun z => decide (z = zone)) x.of 0, 0) by simp [tubesOfZone, hc])
  rw [hc] at HC
  clear hc hv
  go_enter Try.func41, Try.ntmps41
  go_wp2_with (go_at_call 68; refine (HC.out).mono ?_; rintro e w1 ⟨rfl, hb1⟩)
  have hb2 : Below (w.heap.size + 1) (w.alloc (.cells #[.int .i64 x.z, .slice A x.of.length c, .slice A2 x.ch.length c2] 36)) w1 := hb1.mono z0
  have ho1 := own_new0 w1 (w.heap.size + 1) 2 1 (by have := hb2.size; omega)
  have hb3 : Below (w.heap.size + 1) (w.alloc (.cells #[.int .i64 x.z, .slice A x.of.length c, .slice A2 x.ch.length c2] 36)) (w1.alloc (.cells #[] 2)) := hb2.alloc (by have := hb2.size; omega) _
  go_loopg [7, 8] x.of.length (fun g s i wr => ∃ (k : Nat) (acc : List Int), k ≤ x.of.length ∧ Hid (g = x.of.length - k) ∧ i = .int .i64 k ∧ acc.length ≤ k ∧ wr.ownsRow (w.heap.size + 1) 2 1 s acc.length (acc.map (Value.int .i64)) ∧
    Hid (idxFrom (fun z => decide (z = zone)) x.of 0 = acc ++ idxFrom (fun z => decide (z = zone)) (x.of.drop k) k) ∧ Below (w.heap.size + 1) (w.alloc (.cells #[.int .i64 x.z, .slice A x.of.length c, .slice A2 x.ch.length c2] 36)) wr)
  case atStart => exact ⟨0, [], by omega, by simp [Hid], rfl, by simp, ho1, by simp [Hid], hb3⟩
  case round =>
    obtain ⟨k, acc, hk, hg, rfl, hal, hown, HS, hb⟩ := hrel
    clear ho1 hb3 hb2 hb1
    have hsz : w.heap.size + 1 ≤ wr.heap.size := by have := hb.size; omega
    have hl0 : w.heap.size < wr.heap.size := by omega
    have X1 := X0.out.below hb (by omega)
    have k1 := X1.cell 1
    simp only [List.getElem?_cons_succ, List.getElem?_cons_zero] at k1
    have bw : Below w.heap.size w wr := b0.trans (hb.mono (by omega))
    by_cases hlt : k < x.of.length
    · obtain ⟨b1, o1, z1, rfl, hbb, hz1, hca⟩ := (HX.out.below bw).at_ hlt
      by_cases he : z1 = zone
      · have hB : (z1 == zone) = true := by simp [he]
        have hE : decide (z1 = zone) = true := by simp [he]
        have HS' : Hid (idxFrom (fun z => decide (z = zone)) x.of 0 = (acc ++ [(k : Int)]) ++ idxFrom (fun z => decide (z = zone)) (x.of.drop (k + 1)) (k + 1)) := by
          have := HS.out; rw [drop_cons hz1] at this; simp only [idxFrom, hE, if_true] at this; unfold Hid; rw [this]; simp
        have he' := hide he
        clear hz1 he hE
        go_wp2_with (at_builtin; go_must (refine wp_app _ rfl _ _ 28 rfl ((w.heap.size + 1)) 2 i0 (.int .i64 0) 1 8 Try.underlying28 hi0 hz0 hs0 hb0 rfl (by decide) _ _ _ rfl (hown.alloc _) _ _ 1 1 [.int .i64 (k : Int)] rfl rfl (rd_new _ _ _ _ (by simp)) (int_one _) (by omega) (by decide) (by simp <;> omega) ?_); intro v' w2 hown' hgrow hat)
        have hb4 := app_below (hb.alloc hsz _) (hown.alloc _) hgrow (Nat.le_refl _) (by simp <;> omega)
        go_roundg (x.of.length - (k + 1))
        case measure => have := hg.out; omega
        case rel => exact ⟨k + 1, acc ++ [(k : Int)], by omega, rfl, by go_num, by simp; omega, by simpa using hown', HS', hb4⟩
      · have hB : (z1 == zone) = false := by simp [he]
        have hE : decide (z1 = zone) = false := by simp [he]
        have HS' : Hid (idxFrom (fun z => decide (z = zone)) x.of 0 = acc ++ idxFrom (fun z => decide (z = zone)) (x.of.drop (k + 1)) (k + 1)) := by
          have := HS.out; rw [drop_cons hz1] at this; simp only [idxFrom, hE] at this; unfold Hid; rw [this]; simp
        have he' := hide he
        clear hz1 he hE
        go_wp2_with fail
        go_roundg (x.of.length - (k + 1))
        case measure => have := hg.out; omega
        case rel => exact ⟨k + 1, acc, by omega, rfl, by go_num, by omega, hown, HS', hb⟩
    · go_wp2_with fail
      go_ret2
      have := HS.out
      rw [List.drop_eq_nil_of_le (by omega)] at this
      simp only [idxFrom, List.append_nil] at this
      refine ⟨_, by rw [HR.out]; rfl, ?_, bw⟩
      rw [HR.out, this]
      exact O_Int64S.widen (OwnV.of_row hown (by dsimp only; omega)) (by omega) (Nat.le_refl _)
set_option maxRecDepth 100000 in
set_option maxHeartbeats 4000000 in
theorem P_TubesOfZone (x : TZ) (v : Value) (zone : Int) (w : World) (hs : Small_Zoned x) (hf : Fit_Zoned x) (h : R_Zoned w w.heap.size v x) (_ : -9223372036854775808 ≤ zone) (_ : zone ≤ 9223372036854775807) :
    Calls Try.prog 42 #[v, .int .i64 zone] w fun e w' => ∃ r, e = .returned (.tuple #[r, .int .i64 (tubesOfZone x zone).2]) ∧ O_Int64S w' w.heap.size w'.heap.size r (tubesOfZone x zone).1 ∧ Below w.heap.size w w' := by
  have h0 := h
  obtain ⟨A, c, A2, c2, rfl, h1, h2⟩ := h0
  obtain ⟨i0, hi0, hz0, hs0, hb0⟩ := info_parts int64_info
  have b0 : Below w.heap.size w (w.alloc (.cells #[.int .i64 x.z, .slice A x.of.length c, .slice A2 x.ch.length c2] 36)) := (by repeat (first | exact Below.refl _ _ | assumption | (refine Below.alloc ?_ (by simp <;> omega) _) | refine Below.drew ?_ | refine bdn ?_ _))
  have HC := hide (zoneCode_any x _ zone 0 _ hs hf ((h.below b0).more b0.size))
  have z0 : w.heap.size + 1 ≤ (w.alloc (.cells #[.int .i64 x.z, .slice A x.of.length c, .slice A2 x.ch.length c2] 36)).heap.size := by simp
  have X0 := hide (BoxAt.new w #[.int .i64 x.z, .slice A x.of.length c, .slice A2 x.ch.length c2] 36)
  have HX := hide h1
  clear h h1 h2
  by_cases hc : codeZ x zone 0 = 0
  case neg =>
    have HR := hide (show tubesOfZone x zone = ([], codeZ x zone 0) by simp [tubesOfZone, hc])
    have hne : (codeZ x zone 0 != 0) = true := by simp [hc]
    generalize codeZ x zone 0 = cd at *
    go_enter Try.func42, Try.ntmps42
    go_wp2_with (go_at_call 70; refine (HC.out).mono ?_; rintro e w1 ⟨rfl, hb1⟩)
    go_ret2
    exact ⟨_, by rw [HR.out]; rfl, by rw [HR.out]; exact O_Int64S.nil _ _ _ _ _, b0.trans (hb1.mono b0.size)⟩
  have hv := vZoned_iff (codeZ_ok hc).1
  have hle := hv.2.1
  have HR := hide (show tubesOfZone x zone = (idxFrom (fun z => decide (z = zone)) x.of 0, 0) by simp [tubesOfZone, hc])
  rw [hc] at HC
  clear hc hv
  go_enter Try.func42, Try.ntmps42
  go_wp2_with (go_at_call 70; refine (HC.out).mono ?_; rintro e w1 ⟨rfl, hb1⟩; have hb2 := hb1.mono z0; have X1 := X0.out.below hb2 (by omega); have hl1 := X1.lt; have k1 := X1.cell 1; simp only [List.getElem?_cons_succ, List.getElem?_cons_zero] at k1)
  have ho1 := own_new0 w1 (w.heap.size + 1) 2 1 hl1
  have hb3 : Below (w.heap.size + 1) (w.alloc (.cells #[.int .i64 x.z, .slice A x.of.length c, .slice A2 x.ch.length c2] 36)) (w1.alloc (.cells #[] 2)) := hb2.alloc hl1 _
  clear k1
  go_loopg [7, 20] x.of.length (fun g s i wr => ∃ (k : Nat) (acc : List Int), k ≤ x.of.length ∧ Hid (g = x.of.length - k) ∧ i = .int .i64 k ∧ acc.length ≤ k ∧ wr.ownsRow (w.heap.size + 1) 2 1 s acc.length (acc.map (Value.int .i64)) ∧
    Hid (idxFrom (fun z => decide (z = zone)) x.of 0 = acc ++ idxFrom (fun z => decide (z = zone)) (x.of.drop k) k) ∧ Below (w.heap.size + 1) (w.alloc (.cells #[.int .i64 x.z, .slice A x.of.length c, .slice A2 x.ch.length c2] 36)) wr)
  case atStart => exact ⟨0, [], by omega, by simp [Hid], rfl, by simp, ho1, by simp [Hid], hb3⟩
  case round =>
    obtain ⟨k, acc, hk, hg, rfl, hal, hown, HS, hb⟩ := hrel
    clear ho1 hb3 hb2 hb1
    have hsz : w.heap.size + 1 ≤ wr.heap.size := by have := hb.size; omega
    have bw : Below w.heap.size w wr := b0.trans (hb.mono (by omega))
    by_cases hlt : k < x.of.length
    · obtain ⟨b1, o1, z1, rfl, hbb, hz1, hca⟩ := (HX.out.below bw).at_ hlt
      by_cases he : z1 = zone
      · have hB : (z1 == zone) = true := by simp [he]
        have hE : decide (z1 = zone) = true := by simp [he]
        have HS' : Hid (idxFrom (fun z => decide (z = zone)) x.of 0 = (acc ++ [(k : Int)]) ++ idxFrom (fun z => decide (z = zone)) (x.of.drop (k + 1)) (k + 1)) := by
          have := HS.out; rw [drop_cons hz1] at this; simp only [idxFrom, hE, if_true] at this; unfold Hid; rw [this]; simp
        have he' := hide he
        clear hz1 he hE
        go_wp2_with (at_builtin; go_must (refine wp_app _ rfl _ _ 28 rfl ((w.heap.size + 1)) 2 i0 (.int .i64 0) 1 8 Try.underlying28 hi0 hz0 hs0 hb0 rfl (by decide) _ _ _ rfl (hown.alloc _) _ _ 1 1 [.int .i64 (k : Int)] rfl rfl (rd_new _ _ _ _ (by simp)) (int_one _) (by omega) (by decide) (by simp <;> omega) ?_); intro v' w2 hown' hgrow hat)
        have hb4 := app_below (hb.alloc hsz _) (hown.alloc _) hgrow (Nat.le_refl _) (by simp <;> omega)
        go_roundg (x.of.length - (k + 1))
        case measure => have := hg.out; omega
        case rel => exact ⟨k + 1, acc ++ [(k : Int)], by omega, rfl, by go_num, by simp; omega, by simpa using hown', HS', hb4⟩
      · have hB : (z1 == zone) = false := by simp [he]
        have hE : decide (z1 = zone) = false := by simp [he]
        have HS' : Hid (idxFrom (fun z => decide (z = zone)) x.of 0 = acc ++ idxFrom (fun z => decide (z = zone)) (x.of.drop (k + 1)) (k + 1)) := by
          have := HS.out; rw [drop_cons hz1] at this; simp only [idxFrom, hE] at this; unfold Hid; rw [this]; simp
        have he' := hide he
        clear hz1 he hE
        go_wp2_with fail
        go_roundg (x.of.length - (k + 1))
        case measure => have := hg.out; omega
        case rel => exact ⟨k + 1, acc, by omega, rfl, by go_num, by omega, hown, HS', hb⟩
    · go_wp2_with fail
      go_ret2
      have := HS.out
      rw [List.drop_eq_nil_of_le (by omega)] at this
      simp only [idxFrom, List.append_nil] at this
      refine ⟨_, by rw [HR.out]; rfl, ?_, bw⟩
      rw [HR.out, this]
      exact O_Int64S.widen (OwnV.of_row hown (by dsimp only; omega)) (by omega) (Nat.le_refl _)
end Go.Proofs.Ytckkmgbclefljaa
