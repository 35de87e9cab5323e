/-
  Zones: the level by the reference's contract; a zone's tubes and the tubes with a level, in the program and in the reference.
  Zones: the tubes with a level at a tick; in the program and in the reference.
  Networks, plain laws: ways, least lengths by rounds of relaxing, and what they say of ways.
-/
import Derived.Test.YtklfjekpeoigoaaQPressed6
import Derived.Test.YtklfjekpeoigoaaQPressed0
namespace Go.Proofs.Ytklfjekpeoigoaa
open Go.RowKit

def tubesOfZone (x : TZ) (zone : Int) : List Int × Int := if codeZ x zone 0 = 0 then (idxFrom (fun z => decide (z = zone)) x.of 0, 0) else ([], codeZ x zone 0)
set_option maxRecDepth 100000 in
set_option maxHeartbeats 4000000 in
theorem S_TubesOfZone (x : TZ) (v : Value) (zone : Int) (w : World) (hs : Small_Zoned x) (_ : Fit_Zoned x) (h : R_Zoned w w.heap.size v x) (_ : -9223372036854775808 ≤ zone) (_ : zone ≤ 9223372036854775807) :
    Calls Try.prog 112 #[v, .int .i64 zone] w fun e w' => ∃ r, e = .returned (.tuple #[r, .int .i64 (tubesOfZone x zone).2]) ∧ O_Int64S w' w.heap.size w'.heap.size r (tubesOfZone x zone).1 ∧ Below w.heap.size w w' := by
  obtain ⟨A, c, A2, c2, rfl, h1, h2⟩ := h
  obtain ⟨i0, hi0, hz0, hs0, hb0⟩ := info_parts int64_info
  have b0 : Below w.heap.size w (w.alloc (.cells #[.int .i64 x.z, .slice A x.of.length c, .slice A2 x.ch.length c2] 114)) := (by repeat (first | exact Below.refl _ _ | assumption | (refine Below.alloc ?_ (by simp <;> omega) _) | refine Below.drew ?_ | refine bdn ?_ _))
  have HC := hide (l09Code_any x A c A2 c2 w.heap.size zone 0 (w.alloc (.cells #[.int .i64 x.z, .slice A x.of.length c, .slice A2 x.ch.length c2] 114)) hs (by simp [go_sem]) (by simp [go_sem]) (by simp [go_sem]) ((h1.below b0).more b0.size) ((h2.below b0).more b0.size))
  have z0 : w.heap.size + 1 ≤ (w.alloc (.cells #[.int .i64 x.z, .slice A x.of.length c, .slice A2 x.ch.length c2] 114)).heap.size := by simp
  have X0 := hide (BoxAt.new w #[.int .i64 x.z, .slice A x.of.length c, .slice A2 x.ch.length c2] 114)
  have HX := hide h1
  clear h1 h2
  by_cases hc : codeZ x zone 0 = 0
  case neg =>
    have HR := hide (show tubesOfZone x zone = ([], codeZ x zone 0) by simp [tubesOfZone, hc])
    have hne : (codeZ x zone 0 != 0) = true := by simp [hc]
    generalize codeZ x zone 0 = cd at *
    go_enter Try.func112, Try.ntmps112
    go_wp2_with (go_at_call 223; refine (HC.out).mono ?_; rintro e w1 ⟨rfl, hb1⟩)
    go_ret2
    exact ⟨_, by rw [HR.out]; rfl, by rw [HR.out]; exact O_Int64S.nil _ _ _ _ _, b0.trans (hb1.mono b0.size)⟩
  have hv := vZoned_iff (codeZ_ok hc).1
  have hle := hv.2.1
  have HR := hide (show tubesOfZone x zone = (idxFrom (fun z => decide (z = zone)) x.of 0, 0) by simp [tubesOfZone, hc])
  rw [hc] at HC
  clear hc hv
  go_enter Try.func112, Try.ntmps112
  go_wp2_with (go_at_call 223; refine (HC.out).mono ?_; rintro e w1 ⟨rfl, hb1⟩)
  have hb2 : Below (w.heap.size + 1) (w.alloc (.cells #[.int .i64 x.z, .slice A x.of.length c, .slice A2 x.ch.length c2] 114)) w1 := hb1.mono z0
  have ho1 := own_new0 w1 (w.heap.size + 1) 2 1 (by have := hb2.size; omega)
  have hb3 : Below (w.heap.size + 1) (w.alloc (.cells #[.int .i64 x.z, .slice A x.of.length c, .slice A2 x.ch.length c2] 114)) (w1.alloc (.cells #[] 2)) := hb2.alloc (by have := hb2.size; omega) _
  go_loopg [7, 8] x.of.length (fun g s i wr => ∃ (k : Nat) (acc : List Int), k ≤ x.of.length ∧ Hid (g = x.of.length - k) ∧ i = .int .i64 k ∧ acc.length ≤ k ∧ wr.ownsRow (w.heap.size + 1) 2 1 s acc.length (acc.map (Value.int .i64)) ∧
    Hid (idxFrom (fun z => decide (z = zone)) x.of 0 = acc ++ idxFrom (fun z => decide (z = zone)) (x.of.drop k) k) ∧ Below (w.heap.size + 1) (w.alloc (.cells #[.int .i64 x.z, .slice A x.of.length c, .slice A2 x.ch.length c2] 114)) wr)
  case atStart => exact ⟨0, [], by omega, by simp [Hid], rfl, by simp, ho1, by simp [Hid], hb3⟩
  case round =>
    obtain ⟨k, acc, hk, hg, rfl, hal, hown, HS, hb⟩ := hrel
    clear ho1 hb3 hb2 hb1
    have hsz : w.heap.size + 1 ≤ wr.heap.size := by have := hb.size; omega
    have hl0 : w.heap.size < wr.heap.size := by omega
    have X1 := X0.out.below hb (by omega)
    have k1 := X1.cell 1
    simp only [List.getElem?_cons_succ, List.getElem?_cons_zero] at k1
    have bw : Below w.heap.size w wr := b0.trans (hb.mono (by omega))
    by_cases hlt : k < x.of.length
    · obtain ⟨b1, o1, z1, rfl, hbb, hz1, hca⟩ := (HX.out.below bw).at_ hlt
      by_cases he : z1 = zone
      · have hB : (z1 == zone) = true := by simp [he]
        have hE : decide (z1 = zone) = true := by simp [he]
        have HS' : Hid (idxFrom (fun z => decide (z = zone)) x.of 0 = (acc ++ [(k : Int)]) ++ idxFrom (fun z => decide (z = zone)) (x.of.drop (k + 1)) (k + 1)) := by
          have := HS.out; rw [drop_cons hz1] at this; simp only [idxFrom, hE, if_true] at this; unfold Hid; rw [this]; simp
        have he' := hide he
        clear hz1 he hE
        go_wp2_with (at_builtin; go_must (refine wp_app _ rfl _ _ 22 rfl ((w.heap.size + 1)) 2 i0 (.int .i64 0) 1 8 Try.underlying22 hi0 hz0 hs0 hb0 rfl (by decide) _ _ _ rfl (hown.alloc _) _ _ 1 1 [.int .i64 (k : Int)] rfl rfl (rd_new _ _ _ _ (by simp)) (int_one _) (by omega) (by decide) (by simp <;> omega) ?_); intro v' w2 hown' hgrow hat)
        have hb4 := app_below (hb.alloc hsz _) (hown.alloc _) hgrow (Nat.le_refl _) (by simp <;> omega)
        go_roundg (x.of.length - (k + 1))
        case measure => have := hg.out; omega
        case rel => exact ⟨k + 1, acc ++ [(k : Int)], by omega, rfl, by go_num, by simp; omega, by simpa using hown', HS', hb4⟩
      · have hB : (z1 == zone) = false := by simp [he]
        have hE : decide (z1 = zone) = false := by simp [he]
        have HS' : Hid (idxFrom (fun z => decide (z = zone)) x.of 0 = acc ++ idxFrom (fun z => decide (z = zone)) (x.of.drop (k + 1)) (k + 1)) := by
          have := HS.out; rw [drop_cons hz1] at this; simp only [idxFrom, hE] at this; unfold Hid; rw [this]; simp
        have he' := hide he
        clear hz1 he hE
        go_wp2_with fail
        go_roundg (x.of.length - (k + 1))
        case measure => have := hg.out; omega
        case rel => exact ⟨k + 1, acc, by omega, rfl, by go_num, by omega, hown, HS', hb⟩
    · go_wp2_with fail
      go_ret2
      have := HS.out
      rw [List.drop_eq_nil_of_le (by omega)] at this
      simp only [idxFrom, List.append_nil] at this
      refine ⟨_, by rw [HR.out]; rfl, ?_, bw⟩
      rw [HR.out, this]
      exact O_Int64S.widen (OwnV.of_row hown (by dsimp only; omega)) (by omega) (Nat.le_refl _)
set_option maxRecDepth 100000 in
set_option maxHeartbeats 4000000 in
theorem P_TubesOfZone (x : TZ) (v : Value) (zone : Int) (w : World) (hs : Small_Zoned x) (hf : Fit_Zoned x) (h : R_Zoned w w.heap.size v x) (_ : -9223372036854775808 ≤ zone) (_ : zone ≤ 9223372036854775807) :
    Calls Try.prog 111 #[v, .int .i64 zone] w fun e w' => ∃ r, e = .returned (.tuple #[r, .int .i64 (tubesOfZone x zone).2]) ∧ O_Int64S w' w.heap.size w'.heap.size r (tubesOfZone x zone).1 ∧ Below w.heap.size w w' := by
  have h0 := h
  obtain ⟨A, c, A2, c2, rfl, h1, h2⟩ := h0
  obtain ⟨i0, hi0, hz0, hs0, hb0⟩ := info_parts int64_info
  have b0 : Below w.heap.size w (w.alloc (.cells #[.int .i64 x.z, .slice A x.of.length c, .slice A2 x.ch.length c2] 114)) := (by repeat (first | exact Below.refl _ _ | assumption | (refine Below.alloc ?_ (by simp <;> omega) _) | refine Below.drew ?_ | refine bdn ?_ _))
  have HC := hide (zoneCode_any x _ zone 0 _ hs hf ((h.below b0).more b0.size))
  have z0 : w.heap.size + 1 ≤ (w.alloc (.cells #[.int .i64 x.z, .slice A x.of.length c, .slice A2 x.ch.length c2] 114)).heap.size := by simp
  have X0 := hide (BoxAt.new w #[.int .i64 x.z, .slice A x.of.length c, .slice A2 x.ch.length c2] 114)
  have HX := hide h1
  clear h h1 h2
  by_cases hc : codeZ x zone 0 = 0
  case neg =>
    have HR := hide (show tubesOfZone x zone = ([], codeZ x zone 0) by simp [tubesOfZone, hc])
    have hne : (codeZ x zone 0 != 0) = true := by simp [hc]
    generalize codeZ x zone 0 = cd at *
    go_enter Try.func111, Try.ntmps111
    go_wp2_with (go_at_call 220; refine (HC.out).mono ?_; rintro e w1 ⟨rfl, hb1⟩)
    go_ret2
    exact ⟨_, by rw [HR.out]; rfl, by rw [HR.out]; exact O_Int64S.nil _ _ _ _ _, b0.trans (hb1.mono b0.size)⟩
  have hv := vZoned_iff (codeZ_ok hc).1
  have hle := hv.2.1
  have HR := hide (show tubesOfZone x zone = (idxFrom (fun z => decide (z = zone)) x.of 0, 0) by simp [tubesOfZone, hc])
  rw [hc] at HC
  clear hc hv
  go_enter Try.func111, Try.ntmps111
  go_wp2_with (go_at_call 220; refine (HC.out).mono ?_; rintro e w1 ⟨rfl, hb1⟩; have hb2 := hb1.mono z0; have X1 := X0.out.below hb2 (by omega); have hl1 := X1.lt; have k1 := X1.cell 1; simp only [List.getElem?_cons_succ, List.getElem?_cons_zero] at k1)
  have ho1 := own_new0 w1 (w.heap.size + 1) 2 1 hl1
  have hb3 : Below (w.heap.size + 1) (w.alloc (.cells #[.int .i64 x.z, .slice A x.of.length c, .slice A2 x.ch.length c2] 114)) (w1.alloc (.cells #[] 2)) := hb2.alloc hl1 _
  clear k1
  go_loopg [7, 20] x.of.length (fun g s i wr => ∃ (k : Nat) (acc : List Int), k ≤ x.of.length ∧ Hid (g = x.of.length - k) ∧ i = .int .i64 k ∧ acc.length ≤ k ∧ wr.ownsRow (w.heap.size + 1) 2 1 s acc.length (acc.map (Value.int .i64)) ∧
    Hid (idxFrom (fun z => decide (z = zone)) x.of 0 = acc ++ idxFrom (fun z => decide (z = zone)) (x.of.drop k) k) ∧ Below (w.heap.size + 1) (w.alloc (.cells #[.int .i64 x.z, .slice A x.of.length c, .slice A2 x.ch.length c2] 114)) wr)
  case atStart => exact ⟨0, [], by omega, by simp [Hid], rfl, by simp, ho1, by simp [Hid], hb3⟩
  case round =>
    obtain ⟨k, acc, hk, hg, rfl, hal, hown, HS, hb⟩ := hrel
    clear ho1 hb3 hb2 hb1
    have hsz : w.heap.size + 1 ≤ wr.heap.size := by have := hb.size; omega
    have bw : Below w.heap.size w wr := b0.trans (hb.mono (by omega))
    by_cases hlt : k < x.of.length
    · obtain ⟨b1, o1, z1, rfl, hbb, hz1, hca⟩ := (HX.out.below bw).at_ hlt
      by_cases he : z1 = zone
      · have hB : (z1 == zone) = true := by simp [he]
        have hE : decide (z1 = zone) = true := by simp [he]
        have HS' : Hid (idxFrom (fun z => decide (z = zone)) x.of 0 = (acc ++ [(k : Int)]) ++ idxFrom (fun z => decide (z = zone)) (x.of.drop (k + 1)) (k + 1)) := by
          have := HS.out; rw [drop_cons hz1] at this; simp only [idxFrom, hE, if_true] at this; unfold Hid; rw [this]; simp
        have he' := hide he
        clear hz1 he hE
        go_wp2_with (at_builtin; go_must (refine wp_app _ rfl _ _ 22 rfl ((w.heap.size + 1)) 2 i0 (.int .i64 0) 1 8 Try.underlying22 hi0 hz0 hs0 hb0 rfl (by decide) _ _ _ rfl (hown.alloc _) _ _ 1 1 [.int .i64 (k : Int)] rfl rfl (rd_new _ _ _ _ (by simp)) (int_one _) (by omega) (by decide) (by simp <;> omega) ?_); intro v' w2 hown' hgrow hat)
        have hb4 := app_below (hb.alloc hsz _) (hown.alloc _) hgrow (Nat.le_refl _) (by simp <;> omega)
        go_roundg (x.of.length - (k + 1))
        case measure => have := hg.out; omega
        case rel => exact ⟨k + 1, acc ++ [(k : Int)], by omega, rfl, by go_num, by simp; omega, by simpa using hown', HS', hb4⟩
      · have hB : (z1 == zone) = false := by simp [he]
        have hE : decide (z1 = zone) = false := by simp [he]
        have HS' : Hid (idxFrom (fun z => decide (z = zone)) x.of 0 = acc ++ idxFrom (fun z => decide (z = zone)) (x.of.drop (k + 1)) (k + 1)) := by
          have := HS.out; rw [drop_cons hz1] at this; simp only [idxFrom, hE] at this; unfold Hid; rw [this]; simp
        have he' := hide he
        clear hz1 he hE
        go_wp2_with fail
        go_roundg (x.of.length - (k + 1))
        case measure => have := hg.out; omega
        case rel => exact ⟨k + 1, acc, by omega, rfl, by go_num, by omega, hown, HS', hb⟩
    · go_wp2_with fail
      go_ret2
      have := HS.out
      rw [List.drop_eq_nil_of_le (by omega)] at this
      simp only [idxFrom, List.append_nil] at this
      refine ⟨_, by rw [HR.out]; rfl, ?_, bw⟩
      rw [HR.out, this]
      exact O_Int64S.widen (OwnV.of_row hown (by dsimp only; omega)) (by omega) (Nat.le_refl _)
end Go.Proofs.Ytklfjekpeoigoaa
namespace Go.Proofs.Ytklfjekpeoigoaa
open Go.RowKit

def pushedAt (x : TZ) (tick : Int) : List Int × Int := if codeZ x 0 tick = 0 then (idxFrom (fun z => !decide (lvl x.ch z tick = 0)) x.of 0, 0) else ([], codeZ x 0 tick)
set_option maxRecDepth 100000 in
set_option maxHeartbeats 4000000 in
theorem S_PushedAt (x : TZ) (v : Value) (tick : Int) (w : World) (hs : Small_Zoned x) (_ : Fit_Zoned x) (h : R_Zoned w w.heap.size v x) (_ : -9223372036854775808 ≤ tick) (_ : tick ≤ 9223372036854775807) :
    Calls Try.prog 109 #[v, .int .i64 tick] w fun e w' => ∃ r, e = .returned (.tuple #[r, .int .i64 (pushedAt x tick).2]) ∧ O_Int64S w' w.heap.size w'.heap.size r (pushedAt x tick).1 ∧ Below w.heap.size w w' := by
  obtain ⟨A, c, A2, c2, rfl, h1, h2⟩ := h
  obtain ⟨i0, hi0, hz0, hs0, hb0⟩ := info_parts int64_info
  have b0 : Below w.heap.size w (w.alloc (.cells #[.int .i64 x.z, .slice A x.of.length c, .slice A2 x.ch.length c2] 114)) := (by repeat (first | exact Below.refl _ _ | assumption | (refine Below.alloc ?_ (by simp <;> omega) _) | refine Below.drew ?_ | refine bdn ?_ _))
  have HC := hide (l09Code_any x A c A2 c2 w.heap.size 0 tick (w.alloc (.cells #[.int .i64 x.z, .slice A x.of.length c, .slice A2 x.ch.length c2] 114)) hs (by simp [go_sem]) (by simp [go_sem]) (by simp [go_sem]) ((h1.below b0).more b0.size) ((h2.below b0).more b0.size))
  have z0 : w.heap.size + 1 ≤ (w.alloc (.cells #[.int .i64 x.z, .slice A x.of.length c, .slice A2 x.ch.length c2] 114)).heap.size := by simp
  have X0 := hide (BoxAt.new w #[.int .i64 x.z, .slice A x.of.length c, .slice A2 x.ch.length c2] 114)
  have HX := hide h1
  have HM := hide h2
  clear h1 h2
  by_cases hc : codeZ x 0 tick = 0
  case neg =>
    have HR := hide (show pushedAt x tick = ([], codeZ x 0 tick) by simp [pushedAt, hc])
    have hne : (codeZ x 0 tick != 0) = true := by simp [hc]
    generalize codeZ x 0 tick = cd at *
    go_enter Try.func109, Try.ntmps109
    go_wp2_with (go_at_call 223; refine (HC.out).mono ?_; rintro e w1 ⟨rfl, hb1⟩)
    go_ret2
    exact ⟨_, by rw [HR.out]; rfl, by rw [HR.out]; exact O_Int64S.nil _ _ _ _ _, b0.trans (hb1.mono b0.size)⟩
  have hv := vZoned_iff (codeZ_ok hc).1
  have hle := hv.2.1
  have HR := hide (show pushedAt x tick = (idxFrom (fun z => !decide (lvl x.ch z tick = 0)) x.of 0, 0) by simp [pushedAt, hc])
  have HL := hide fun zone W (hW : Below (w.heap.size + 1) (w.alloc (.cells #[.int .i64 x.z, .slice A x.of.length c, .slice A2 x.ch.length c2] 114)) W) => l09Level_any x A2 c2 w.heap.size zone tick W (codeZ_ok hc).1 (by have := (X0.out.below hW (by omega)).cell 2; simpa using this) ((HM.out.below (b0.trans (hW.mono (by omega)))).more (by have := hW.size; omega))
  rw [hc] at HC
  clear hc hv
  go_enter Try.func109, Try.ntmps109
  go_wp2_with (go_at_call 223; refine (HC.out).mono ?_; rintro e w1 ⟨rfl, hb1⟩)
  have hb2 : Below (w.heap.size + 1) (w.alloc (.cells #[.int .i64 x.z, .slice A x.of.length c, .slice A2 x.ch.length c2] 114)) w1 := hb1.mono z0
  have ho1 := own_new0 w1 (w.heap.size + 1) 2 1 (by have := hb2.size; omega)
  have hb3 : Below (w.heap.size + 1) (w.alloc (.cells #[.int .i64 x.z, .slice A x.of.length c, .slice A2 x.ch.length c2] 114)) (w1.alloc (.cells #[] 2)) := hb2.alloc (by have := hb2.size; omega) _
  go_loopg [7, 8] x.of.length (fun g s i wr => ∃ (k : Nat) (acc : List Int), k ≤ x.of.length ∧ Hid (g = x.of.length - k) ∧ i = .int .i64 k ∧ acc.length ≤ k ∧ wr.ownsRow (w.heap.size + 1) 2 1 s acc.length (acc.map (Value.int .i64)) ∧
    Hid (idxFrom (fun z => !decide (lvl x.ch z tick = 0)) x.of 0 = acc ++ idxFrom (fun z => !decide (lvl x.ch z tick = 0)) (x.of.drop k) k) ∧ Below (w.heap.size + 1) (w.alloc (.cells #[.int .i64 x.z, .slice A x.of.length c, .slice A2 x.ch.length c2] 114)) wr)
  case atStart => exact ⟨0, [], by omega, by simp [Hid], rfl, by simp, ho1, by simp [Hid], hb3⟩
  case round =>
    obtain ⟨k, acc, hk, hg, rfl, hal, hown, HS, hb⟩ := hrel
    clear ho1 hb3 hb2 hb1
    have hsz : w.heap.size + 1 ≤ wr.heap.size := by have := hb.size; omega
    have hl0 : w.heap.size < wr.heap.size := by omega
    have X1 := X0.out.below hb (by omega)
    have k1 := X1.cell 1
    simp only [List.getElem?_cons_succ, List.getElem?_cons_zero] at k1
    have bw : Below w.heap.size w wr := b0.trans (hb.mono (by omega))
    by_cases hlt : k < x.of.length
    · obtain ⟨b1, o1, z1, rfl, hbb, hz1, hca⟩ := (HX.out.below bw).at_ hlt
      by_cases he : lvl x.ch z1 tick ≠ 0
      · have hE : (!decide (lvl x.ch z1 tick = 0)) = true := by simp [he]
        have HS' : Hid (idxFrom (fun z => !decide (lvl x.ch z tick = 0)) x.of 0 = (acc ++ [(k : Int)]) ++ idxFrom (fun z => !decide (lvl x.ch z tick = 0)) (x.of.drop (k + 1)) (k + 1)) := by
          have := HS.out; rw [drop_cons hz1] at this; simp only [idxFrom, hE, if_true] at this; unfold Hid; rw [this]; simp
        have HQ := hide (HL.out z1 _ hb)
        have hne : (lvl x.ch z1 tick != 0) = true := by simpa using he
        clear hz1 he hE
        generalize lvl x.ch z1 tick = lv at *
        go_wp2_with (first | (go_at_call 225; refine (HQ.out).mono ?_; rintro e w' ⟨rfl, rfl⟩) | (at_builtin; go_must (refine wp_app _ rfl _ _ 22 rfl ((w.heap.size + 1)) 2 i0 (.int .i64 0) 1 8 Try.underlying22 hi0 hz0 hs0 hb0 rfl (by decide) _ _ _ rfl (hown.alloc _) _ _ 1 1 [.int .i64 (k : Int)] rfl rfl (rd_new _ _ _ _ (by simp)) (int_one _) (by omega) (by decide) (by simp <;> omega) ?_); intro v' w2 hown' hgrow hat))
        have hb4 := app_below (hb.alloc hsz _) (hown.alloc _) hgrow (Nat.le_refl _) (by simp <;> omega)
        go_roundg (x.of.length - (k + 1))
        case measure => have := hg.out; omega
        case rel => exact ⟨k + 1, acc ++ [(k : Int)], by omega, rfl, by go_num, by simp; omega, by simpa using hown', HS', hb4⟩
      · have hE : (!decide (lvl x.ch z1 tick = 0)) = false := by simp at he; simp [he]
        have HS' : Hid (idxFrom (fun z => !decide (lvl x.ch z tick = 0)) x.of 0 = acc ++ idxFrom (fun z => !decide (lvl x.ch z tick = 0)) (x.of.drop (k + 1)) (k + 1)) := by
          have := HS.out; rw [drop_cons hz1] at this; simp only [idxFrom, hE] at this; unfold Hid; rw [this]; simp
        have HQ := hide (HL.out z1 _ hb)
        have hne : (lvl x.ch z1 tick != 0) = false := by simpa using he
        clear hz1 he hE
        generalize lvl x.ch z1 tick = lv at *
        go_wp2_with (go_at_call 225; refine (HQ.out).mono ?_; rintro e w' ⟨rfl, rfl⟩)
        go_roundg (x.of.length - (k + 1))
        case measure => have := hg.out; omega
        case rel => exact ⟨k + 1, acc, by omega, rfl, by go_num, by omega, hown, HS', hb⟩
    · go_wp2_with fail
      go_ret2
      have := HS.out
      rw [List.drop_eq_nil_of_le (by omega)] at this
      simp only [idxFrom, List.append_nil] at this
      refine ⟨_, by rw [HR.out]; rfl, ?_, bw⟩
      rw [HR.out, this]
      exact O_Int64S.widen (OwnV.of_row hown (by dsimp only; omega)) (by omega) (Nat.le_refl _)
set_option maxRecDepth 100000 in
set_option maxHeartbeats 4000000 in
theorem P_PushedAt (x : TZ) (v : Value) (tick : Int) (w : World) (hs : Small_Zoned x) (hf : Fit_Zoned x) (h : R_Zoned w w.heap.size v x) (_ : -9223372036854775808 ≤ tick) (_ : tick ≤ 9223372036854775807) :
    Calls Try.prog 108 #[v, .int .i64 tick] w fun e w' => ∃ r, e = .returned (.tuple #[r, .int .i64 (pushedAt x tick).2]) ∧ O_Int64S w' w.heap.size w'.heap.size r (pushedAt x tick).1 ∧ Below w.heap.size w w' := by
  have h0 := h
  obtain ⟨A, c, A2, c2, rfl, h1, h2⟩ := h0
  obtain ⟨i0, hi0, hz0, hs0, hb0⟩ := info_parts int64_info
  have b0 : Below w.heap.size w (w.alloc (.cells #[.int .i64 x.z, .slice A x.of.length c, .slice A2 x.ch.length c2] 114)) := (by repeat (first | exact Below.refl _ _ | assumption | (refine Below.alloc ?_ (by simp <;> omega) _) | refine Below.drew ?_ | refine bdn ?_ _))
  have HC := hide (zoneCode_any x _ 0 tick _ hs hf ((h.below b0).more b0.size))
  have z0 : w.heap.size + 1 ≤ (w.alloc (.cells #[.int .i64 x.z, .slice A x.of.length c, .slice A2 x.ch.length c2] 114)).heap.size := by simp
  have X0 := hide (BoxAt.new w #[.int .i64 x.z, .slice A x.of.length c, .slice A2 x.ch.length c2] 114)
  have HX := hide h1
  have HL := hide fun zone W (hW : Below w.heap.size w W) => levelAt_any x (.agg #[.int .i64 x.z, .slice A x.of.length c, .slice A2 x.ch.length c2]) zone tick W hs ((h.below hW).more hW.size)
  clear h h1 h2
  by_cases hc : codeZ x 0 tick = 0
  case neg =>
    have HR := hide (show pushedAt x tick = ([], codeZ x 0 tick) by simp [pushedAt, hc])
    have hne : (codeZ x 0 tick != 0) = true := by simp [hc]
    generalize codeZ x 0 tick = cd at *
    go_enter Try.func108, Try.ntmps108
    go_wp2_with (go_at_call 220; refine (HC.out).mono ?_; rintro e w1 ⟨rfl, hb1⟩)
    go_ret2
    exact ⟨_, by rw [HR.out]; rfl, by rw [HR.out]; exact O_Int64S.nil _ _ _ _ _, b0.trans (hb1.mono b0.size)⟩
  have hv := vZoned_iff (codeZ_ok hc).1
  have hle := hv.2.1
  have HR := hide (show pushedAt x tick = (idxFrom (fun z => !decide (lvl x.ch z tick = 0)) x.of 0, 0) by simp [pushedAt, hc])
  rw [hc] at HC
  clear hc hv
  go_enter Try.func108, Try.ntmps108
  go_wp2_with (go_at_call 220; refine (HC.out).mono ?_; rintro e w1 ⟨rfl, hb1⟩; have hb2 := hb1.mono z0; have X1 := X0.out.below hb2 (by omega); have hl1 := X1.lt; have k1 := X1.cell 1; simp only [List.getElem?_cons_succ, List.getElem?_cons_zero] at k1)
  have ho1 := own_new0 w1 (w.heap.size + 1) 2 1 hl1
  have hb3 : Below (w.heap.size + 1) (w.alloc (.cells #[.int .i64 x.z, .slice A x.of.length c, .slice A2 x.ch.length c2] 114)) (w1.alloc (.cells #[] 2)) := hb2.alloc hl1 _
  clear k1
  go_loopg [7, 20] x.of.length (fun g s i wr => ∃ (k : Nat) (acc : List Int), k ≤ x.of.length ∧ Hid (g = x.of.length - k) ∧ i = .int .i64 k ∧ acc.length ≤ k ∧ wr.ownsRow (w.heap.size + 1) 2 1 s acc.length (acc.map (Value.int .i64)) ∧
    Hid (idxFrom (fun z => !decide (lvl x.ch z tick = 0)) x.of 0 = acc ++ idxFrom (fun z => !decide (lvl x.ch z tick = 0)) (x.of.drop k) k) ∧ Below (w.heap.size + 1) (w.alloc (.cells #[.int .i64 x.z, .slice A x.of.length c, .slice A2 x.ch.length c2] 114)) wr)
  case atStart => exact ⟨0, [], by omega, by simp [Hid], rfl, by simp, ho1, by simp [Hid], hb3⟩
  case round =>
    obtain ⟨k, acc, hk, hg, rfl, hal, hown, HS, hb⟩ := hrel
    clear ho1 hb3 hb2 hb1
    have hsz : w.heap.size + 1 ≤ wr.heap.size := by have := hb.size; omega
    have bw : Below w.heap.size w wr := b0.trans (hb.mono (by omega))
    have X1 := X0.out.below hb (by omega)
    have k0 := X1.cell 0
    have k1 := X1.cell 1
    have k2 := X1.cell 2
    simp only [List.getElem?_cons_succ, List.getElem?_cons_zero] at k0 k1 k2
    by_cases hlt : k < x.of.length
    · obtain ⟨b1, o1, z1, rfl, hbb, hz1, hca⟩ := (HX.out.below bw).at_ hlt
      by_cases he : lvl x.ch z1 tick ≠ 0
      · have hE : (!decide (lvl x.ch z1 tick = 0)) = true := by simp [he]
        have HS' : Hid (idxFrom (fun z => !decide (lvl x.ch z tick = 0)) x.of 0 = (acc ++ [(k : Int)]) ++ idxFrom (fun z => !decide (lvl x.ch z tick = 0)) (x.of.drop (k + 1)) (k + 1)) := by
          have := HS.out; rw [drop_cons hz1] at this; simp only [idxFrom, hE, if_true] at this; unfold Hid; rw [this]; simp
        have HQ := hide (HL.out z1 _ bw)
        have hne : (lvl x.ch z1 tick != 0) = true := by simpa using he
        clear hz1 he hE
        generalize lvl x.ch z1 tick = lv at *
        go_wp2_with (first | (go_at_call 222; refine (HQ.out).mono ?_; rintro e w1 ⟨rfl, hb5⟩; have hown1 := own_below hown hb5 (Nat.le_refl _); have hb6 := hb.trans (hb5.mono hsz); have hsz1 : w.heap.size + 1 ≤ w1.heap.size := by have := hb6.size; omega) | (at_builtin; go_must (refine wp_app _ rfl _ _ 22 rfl ((w.heap.size + 1)) 2 i0 (.int .i64 0) 1 8 Try.underlying22 hi0 hz0 hs0 hb0 rfl (by decide) _ _ _ rfl (hown1.alloc _) _ _ 1 1 [.int .i64 (k : Int)] rfl rfl (rd_new _ _ _ _ (by simp)) (int_one _) (by omega) (by decide) (by simp <;> omega) ?_); intro v' w2 hown' hgrow hat))
        have hb4 := app_below (hb6.alloc hsz1 _) (hown1.alloc _) hgrow (Nat.le_refl _) (by simp <;> omega)
        go_roundg (x.of.length - (k + 1))
        case measure => have := hg.out; omega
        case rel => exact ⟨k + 1, acc ++ [(k : Int)], by omega, rfl, by go_num, by simp; omega, by simpa using hown', HS', hb4⟩
      · have hE : (!decide (lvl x.ch z1 tick = 0)) = false := by simp at he; simp [he]
        have HS' : Hid (idxFrom (fun z => !decide (lvl x.ch z tick = 0)) x.of 0 = acc ++ idxFrom (fun z => !decide (lvl x.ch z tick = 0)) (x.of.drop (k + 1)) (k + 1)) := by
          have := HS.out; rw [drop_cons hz1] at this; simp only [idxFrom, hE] at this; unfold Hid; rw [this]; simp
        have HQ := hide (HL.out z1 _ bw)
        have hne : (lvl x.ch z1 tick != 0) = false := by simpa using he
        clear hz1 he hE
        generalize lvl x.ch z1 tick = lv at *
        go_wp2_with (go_at_call 222; refine (HQ.out).mono ?_; rintro e w1 ⟨rfl, hb5⟩; have hown1 := own_below hown hb5 (Nat.le_refl _); have hb6 := hb.trans (hb5.mono hsz))
        go_roundg (x.of.length - (k + 1))
        case measure => have := hg.out; omega
        case rel => exact ⟨k + 1, acc, by omega, rfl, by go_num, by omega, hown1, HS', hb6⟩
    · go_wp2_with fail
      go_ret2
      have := HS.out
      rw [List.drop_eq_nil_of_le (by omega)] at this
      simp only [idxFrom, List.append_nil] at this
      refine ⟨_, by rw [HR.out]; rfl, ?_, bw⟩
      rw [HR.out, this]
      exact O_Int64S.widen (OwnV.of_row hown (by dsimp only; omega)) (by omega) (Nat.le_refl _)
end Go.Proofs.Ytklfjekpeoigoaa
namespace Go.Proofs.Ytklfjekpeoigoaa
open Go.RowKit

/-- Tubes: from a, to b, c long. A way avoids the tube 'wo'. -/
def wk (tb : List T3) (wo : Int) : List Int → Int → Int → Prop
  | [], v, u => v = u
  | i :: r, v, u => 0 ≤ i ∧ i ≠ wo ∧ ∃ t, tb[i.toNat]? = some t ∧ t.a = v ∧ wk tb wo r t.b u
def tubeAt (tb : List T3) (i : Int) : T3 := (tb[i.toNat]?).getD ⟨0, 0, 0⟩
def lenW (tb : List T3) : List Int → Int
  | [] => 0
  | i :: r => (tubeAt tb i).c + lenW tb r
def OkTubes (n : Nat) (tb : List T3) : Prop := ∀ t ∈ tb, (0 ≤ t.a ∧ t.a < n) ∧ (0 ≤ t.b ∧ t.b < n) ∧ (1 ≤ t.c ∧ t.c ≤ 2000)
theorem tubeAt_get {tb : List T3} {i : Int} {t : T3} (h : tb[i.toNat]? = some t) : tubeAt tb i = t := by simp [tubeAt, h]
theorem wk_append {tb : List T3} {wo : Int} : ∀ {p q : List Int} {v u : Int}, wk tb wo (p ++ q) v u ↔ ∃ x, wk tb wo p v x ∧ wk tb wo q x u := by
  intro p
  induction p with
  | nil => intro q v u; constructor
           · intro h; exact ⟨v, rfl, h⟩
           · rintro ⟨x, rfl, h⟩; exact h
  | cons i p ih =>
    intro q v u
    rw [List.cons_append]
    constructor
    · rintro ⟨h0, h1, t, ht, ha, h⟩
      obtain ⟨x, h2, h3⟩ := ih.1 h
      exact ⟨x, ⟨h0, h1, t, ht, ha, h2⟩, h3⟩
    · rintro ⟨x, ⟨h0, h1, t, ht, ha, h2⟩, h3⟩
      exact ⟨h0, h1, t, ht, ha, ih.2 ⟨x, h2, h3⟩⟩
theorem lenW_append (tb : List T3) : ∀ p q : List Int, lenW tb (p ++ q) = lenW tb p + lenW tb q := by
  intro p
  induction p with
  | nil => intro q; simp [lenW]
  | cons i p ih => intro q; rw [List.cons_append, lenW, lenW, ih]; omega
theorem lenW_nonneg {n : Nat} {tb : List T3} (hok : OkTubes n tb) {wo : Int} : ∀ {p : List Int} {v u : Int}, wk tb wo p v u → 0 ≤ lenW tb p := by
  intro p
  induction p with
  | nil => intro v u _; exact Int.le_refl _
  | cons i p ih =>
    rintro v u ⟨h0, h1, t, ht, ha, h⟩
    have h2 := ih h
    have h3 := (hok t (List.mem_of_getElem? ht)).2.2
    rw [lenW, tubeAt_get ht]; omega
/-- The stations at which the tubes of a way begin. -/
def begins (tb : List T3) (p : List Int) : List Int := p.map fun i => (tubeAt tb i).a
theorem begins_in {n : Nat} {tb : List T3} (hok : OkTubes n tb) {wo : Int} : ∀ {p : List Int} {v u : Int}, wk tb wo p v u → ∀ x ∈ begins tb p, 0 ≤ x ∧ x < n := by
  intro p
  induction p with
  | nil => intro v u _ x hx; cases hx
  | cons i p ih =>
    rintro v u ⟨h0, h1, t, ht, ha, h⟩ x hx
    rw [begins, List.map_cons, tubeAt_get ht] at hx
    rcases List.mem_cons.1 hx with rfl | hx
    · exact (hok t (List.mem_of_getElem? ht)).1
    · exact ih h x hx
theorem wk_start {tb : List T3} {wo : Int} {p : List Int} {v u i : Int} (h : wk tb wo (i :: p) v u) : v = (tubeAt tb i).a := by
  obtain ⟨_, _, t, ht, ha, _⟩ := h
  rw [tubeAt_get ht, ha]
theorem range_nodup (n : Nat) : ((List.range n).map fun (j : Nat) => (j : Int)).Nodup :=
  List.pairwise_map.2 ((List.nodup_range (n := n)).imp fun {a b} hab e => hab (by omega))
theorem nodup_len {n : Nat} {xs : List Int} (h : xs.Nodup) (hb : ∀ x ∈ xs, 0 ≤ x ∧ x < n) : xs.length ≤ n := by
  have := h.length_le_of_subset (l₂ := (List.range n).map fun (j : Nat) => (j : Int)) fun z hz => by
    have := hb z hz
    exact List.mem_map.2 ⟨z.toNat, List.mem_range.2 (by omega), by omega⟩
  simpa using this
/-- A list of more than n of n things has one of them twice. -/
theorem twice {n : Nat} {xs : List Int} (hl : n < xs.length) (hb : ∀ x ∈ xs, 0 ≤ x ∧ x < n) : ∃ (p q r : List Int) (a : Int), xs = p ++ a :: q ++ a :: r := by
  have h : ¬ xs.Nodup := fun h => by have := nodup_len h hb; omega
  clear hl
  induction xs with
  | nil => exact absurd List.nodup_nil h
  | cons x xs ih =>
    by_cases hm : x ∈ xs
    · obtain ⟨q, r, e⟩ := List.append_of_mem hm
      exact ⟨[], q, r, x, by rw [e]; rfl⟩
    · have h' : ¬ xs.Nodup := fun h2 => h (List.nodup_cons.2 ⟨hm, h2⟩)
      obtain ⟨p, q, r, a, e⟩ := ih (fun z hz => hb z (List.mem_cons_of_mem _ hz)) h'
      exact ⟨x :: p, q, r, a, by rw [e]; rfl⟩
/-- A way of more than n tubes can be made shorter. -/
theorem cut_way {n : Nat} {tb : List T3} (hok : OkTubes n tb) {wo : Int} {p : List Int} {v u : Int} (h : wk tb wo p v u) (hl : n < p.length) : ∃ p', wk tb wo p' v u ∧ p'.length < p.length ∧ lenW tb p' ≤ lenW tb p := by
  obtain ⟨b1, b2, b3, a, e⟩ := twice (xs := begins tb p) (by simpa [begins] using hl) (begins_in hok h)
  unfold begins at e
  rw [List.append_assoc] at e
  obtain ⟨x, y, rfl, hx, hy⟩ := List.map_eq_append_iff.1 e
  rw [List.cons_append] at hy
  obtain ⟨i, z, rfl, hi, hz⟩ := List.map_eq_cons_iff.1 hy
  obtain ⟨z1, z2, rfl, hz1, hz2⟩ := List.map_eq_append_iff.1 hz
  obtain ⟨j, z3, rfl, hj, _⟩ := List.map_eq_cons_iff.1 hz2
  obtain ⟨s, w1, w2⟩ := wk_append.1 h
  have hs := wk_start w2
  have w2' : wk tb wo ((i :: z1) ++ (j :: z3)) s u := w2
  obtain ⟨s', w3, w4⟩ := wk_append.1 w2'
  have hs' := wk_start w4
  have hss : s = s' := by rw [hs, hs', hi, hj]
  subst hss
  refine ⟨x ++ j :: z3, wk_append.2 ⟨s, w1, w4⟩, by simp; omega, ?_⟩
  have := lenW_nonneg hok w3
  rw [lenW_append, lenW_append, show i :: (z1 ++ j :: z3) = (i :: z1) ++ (j :: z3) from rfl, lenW_append]
  omega
theorem short_way {n : Nat} {tb : List T3} (hok : OkTubes n tb) {wo : Int} : ∀ (k : Nat) {p : List Int} {v u : Int}, p.length ≤ k → wk tb wo p v u → ∃ p', wk tb wo p' v u ∧ p'.length ≤ n ∧ lenW tb p' ≤ lenW tb p := by
  intro k
  induction k with
  | zero => intro p v u hk h; exact ⟨p, h, by omega, Int.le_refl _⟩
  | succ k ih =>
    intro p v u hk h
    by_cases hn : p.length ≤ n
    · exact ⟨p, h, hn, Int.le_refl _⟩
    · obtain ⟨p1, h1, h2, h3⟩ := cut_way hok h (by omega)
      obtain ⟨p2, h4, h5, h6⟩ := ih (by omega) h1
      exact ⟨p2, h4, h5, by omega⟩
/-! ### relaxing -/
def dAt (d : List Int) (v : Int) : Int := (d[v.toNat]?).getD (-1)
def relax1 (wo : Int) (i : Int) (t : T3) (d : List Int) : List Int :=
  if i = wo ∨ dAt d t.b < 0 then d else if dAt d t.a < 0 ∨ dAt d t.b + t.c < dAt d t.a then d.set t.a.toNat (dAt d t.b + t.c) else d
def relaxGo (wo : Int) : List T3 → Int → List Int → List Int
  | [], _, d => d
  | t :: r, i, d => relaxGo wo r (i + 1) (relax1 wo i t d)
def rounds (wo : Int) (tb : List T3) : Nat → List Int → List Int
  | 0, d => d
  | k + 1, d => rounds wo tb k (relaxGo wo tb 0 d)
def dist0 (n : Nat) (to : Int) : List Int := (List.replicate n (-1)).set to.toNat 0
def dist (n : Nat) (tb : List T3) (to wo : Int) : List Int := rounds wo tb n (dist0 n to)
theorem relax1_len (wo i : Int) (t : T3) (d : List Int) : (relax1 wo i t d).length = d.length := by
  unfold relax1; split
  · rfl
  · split
    · exact List.length_set ..
    · rfl
theorem relaxGo_len (wo : Int) : ∀ (tb : List T3) (i : Int) (d : List Int), (relaxGo wo tb i d).length = d.length := by
  intro tb
  induction tb with
  | nil => intro i d; rfl
  | cons t r ih => intro i d; rw [relaxGo, ih, relax1_len]
theorem rounds_len (wo : Int) (tb : List T3) : ∀ (k : Nat) (d : List Int), (rounds wo tb k d).length = d.length := by
  intro k
  induction k with
  | zero => intro d; rfl
  | succ k ih => intro d; rw [rounds, ih, relaxGo_len]
theorem dist_len (n : Nat) (tb : List T3) (to wo : Int) : (dist n tb to wo).length = n := by unfold dist dist0; rw [rounds_len, List.length_set, List.length_replicate]
theorem dAt_set {d : List Int} {v u x : Int} (hv : 0 ≤ v) (hu : 0 ≤ u) (hl : u < d.length) : dAt (d.set u.toNat x) v = if v = u then x else dAt d v := by
  unfold dAt
  by_cases h : v = u
  · subst h
    rw [if_pos rfl, List.getElem?_set_self (by omega)]; rfl
  · rw [if_neg h, List.getElem?_set_ne (by omega)]
theorem dAt_neg {d : List Int} {v : Int} (h : (d.length : Int) ≤ v) (hv : 0 ≤ v) : dAt d v = -1 := by
  unfold dAt; rw [List.getElem?_eq_none (by omega)]; rfl
/-- Values are -1 or the lengths of ways. -/
def Sound (tb : List T3) (wo to : Int) (d : List Int) : Prop := ∀ v, 0 ≤ v → (dAt d v = -1 ∨ (0 ≤ dAt d v ∧ ∃ p, wk tb wo p v to ∧ lenW tb p = dAt d v))
theorem relax1_sound {n : Nat} {tb : List T3} (hok : OkTubes n tb) {wo to i : Int} {t : T3} {d : List Int} (hd : d.length = n) (hi : 0 ≤ i) (ht : tb[i.toNat]? = some t) (h : Sound tb wo to d) : Sound tb wo to (relax1 wo i t d) := by
  obtain ⟨⟨ha0, han⟩, ⟨hb0, hbn⟩, hc⟩ := hok t (List.mem_of_getElem? ht)
  unfold relax1
  split
  · exact h
  · rename_i h1
    split
    · intro v hv
      rw [dAt_set hv ha0 (by omega)]
      split
      · rename_i hva
        subst hva
        rcases h t.b hb0 with h3 | ⟨h3, p, h4, h5⟩
        · omega
        · refine .inr ⟨by omega, i :: p, ⟨hi, fun e => h1 (.inl e), t, ht, rfl, h4⟩, ?_⟩
          rw [lenW, tubeAt_get ht, h5]; omega
      · exact h v hv
    · exact h
theorem relaxGo_sound {n : Nat} {tb : List T3} (hok : OkTubes n tb) {wo to : Int} : ∀ (r : List T3) (k : Nat) (d : List Int), d.length = n → r = tb.drop k → Sound tb wo to d → Sound tb wo to (relaxGo wo r k d) := by
  intro r
  induction r with
  | nil => intro k d _ _ h; exact h
  | cons t r ih =>
    intro k d hd hr h
    have hk : tb[k]? = some t := by
      have := congrArg (·[0]?) hr
      simp only [List.getElem?_cons_zero, List.getElem?_drop, Nat.add_zero] at this
      exact this.symm
    rw [relaxGo, show (k : Int) + 1 = ((k + 1 : Nat) : Int) by omega]
    refine ih (k + 1) _ (by rw [relax1_len, hd]) ?_ (relax1_sound hok hd (by omega) (by simpa using hk) h)
    have := congrArg List.tail hr
    simpa using this
theorem rounds_sound {n : Nat} {tb : List T3} (hok : OkTubes n tb) {wo to : Int} : ∀ (k : Nat) (d : List Int), d.length = n → Sound tb wo to d → Sound tb wo to (rounds wo tb k d) := by
  intro k
  induction k with
  | zero => intro d _ h; exact h
  | succ k ih => intro d hd h; rw [rounds]; exact ih _ (by rw [relaxGo_len, hd]) (relaxGo_sound hok tb 0 d hd rfl h)
theorem dist0_sound {n : Nat} {tb : List T3} {wo to : Int} (h0 : 0 ≤ to) (hn : to < n) : Sound tb wo to (dist0 n to) := by
  intro v hv
  unfold dist0
  rw [dAt_set hv h0 (by simpa using hn)]
  split
  · rename_i h; subst h; exact .inr ⟨Int.le_refl _, [], rfl, rfl⟩
  · left
    unfold dAt
    rw [List.getElem?_replicate]
    split <;> rfl
theorem dist_sound {n : Nat} {tb : List T3} (hok : OkTubes n tb) {wo to : Int} (h0 : 0 ≤ to) (hn : to < n) : Sound tb wo to (dist n tb to wo) :=
  rounds_sound hok n _ (by unfold dist0; simp) (dist0_sound h0 hn)
/-- One list of values is no worse than another. -/
def LeD (d e : List Int) : Prop := ∀ v, 0 ≤ v → 0 ≤ dAt e v → 0 ≤ dAt d v ∧ dAt d v ≤ dAt e v
theorem LeD.refl (d : List Int) : LeD d d := fun v _ h => ⟨h, Int.le_refl _⟩
theorem LeD.trans {a b c : List Int} (h : LeD a b) (k : LeD b c) : LeD a c := fun v hv hc => by
  have h1 := k v hv hc; have h2 := h v hv h1.1; omega
theorem relax1_le {n : Nat} {tb : List T3} (hok : OkTubes n tb) {wo i : Int} {t : T3} {d : List Int} (hd : d.length = n) (ht : t ∈ tb) : LeD (relax1 wo i t d) d := by
  obtain ⟨⟨ha0, han⟩, ⟨hb0, hbn⟩, hc⟩ := hok t ht
  unfold relax1
  split
  · exact LeD.refl _
  · split
    · intro v hv hdv
      rw [dAt_set hv ha0 (by omega)]
      split
      · rename_i h; subst h; omega
      · exact ⟨hdv, Int.le_refl _⟩
    · exact LeD.refl _
theorem relaxGo_le {n : Nat} {tb : List T3} (hok : OkTubes n tb) {wo : Int} : ∀ (r : List T3) (i : Int) (d : List Int), d.length = n → (∀ t ∈ r, t ∈ tb) → LeD (relaxGo wo r i d) d := by
  intro r
  induction r with
  | nil => intro i d _ _; exact LeD.refl _
  | cons t r ih =>
    intro i d hd hr
    rw [relaxGo]
    exact (ih (i + 1) _ (by rw [relax1_len, hd]) fun s hs => hr s (List.mem_cons_of_mem _ hs)).trans (relax1_le hok hd (hr t (List.mem_cons_self ..)))
/-- After a round each tube has been looked at. -/
theorem relax1_hit {n : Nat} {tb : List T3} (hok : OkTubes n tb) {wo i : Int} {t : T3} {d : List Int} (hd : d.length = n) (ht : t ∈ tb) (hi : i ≠ wo) (hb : 0 ≤ dAt d t.b) : 0 ≤ dAt (relax1 wo i t d) t.a ∧ dAt (relax1 wo i t d) t.a ≤ dAt d t.b + t.c := by
  obtain ⟨⟨ha0, han⟩, ⟨hb0, hbn⟩, hc⟩ := hok t ht
  unfold relax1
  rw [if_neg (by omega)]
  split
  · rw [dAt_set ha0 ha0 (by omega), if_pos rfl]; omega
  · omega
theorem relaxGo_hit {n : Nat} {tb : List T3} (hok : OkTubes n tb) {wo : Int} : ∀ (r : List T3) (i : Int) (d : List Int) (j : Nat) (t : T3), d.length = n → (∀ t ∈ r, t ∈ tb) → r[j]? = some t → i + j ≠ wo → 0 ≤ dAt d t.b → 0 ≤ dAt (relaxGo wo r i d) t.a ∧ dAt (relaxGo wo r i d) t.a ≤ dAt d t.b + t.c := by
  intro r
  induction r with
  | nil => intro i d j t _ _ h; simp at h
  | cons s r ih =>
    intro i d j t hd hr hj hi hb
    have hs := hr s (List.mem_cons_self ..)
    have hr' : ∀ t ∈ r, t ∈ tb := fun t ht => hr t (List.mem_cons_of_mem _ ht)
    have hd' : (relax1 wo i s d).length = n := by rw [relax1_len, hd]
    rw [relaxGo]
    cases j with
    | zero =>
      simp at hj; subst hj
      obtain ⟨h1, h2⟩ := relax1_hit (wo := wo) (i := i) hok hd hs (by simpa using hi) hb
      have h3 := relaxGo_le (wo := wo) hok r (i + 1) _ hd' hr' s.a (hok s hs).1.1 h1
      omega
    | succ j =>
      have ht : t ∈ tb := hr' t (List.mem_of_getElem? (by simpa using hj))
      have h1 := relax1_le (wo := wo) (i := i) hok hd hs t.b (hok t ht).2.1.1 hb
      have := ih (i + 1) _ j t hd' hr' (by simpa using hj) (by omega) h1.1
      omega
theorem rounds_le {n : Nat} {tb : List T3} (hok : OkTubes n tb) {wo : Int} : ∀ (k : Nat) (d : List Int), d.length = n → LeD (rounds wo tb k d) d := by
  intro k
  induction k with
  | zero => intro d _; exact LeD.refl _
  | succ k ih => intro d hd; rw [rounds]; exact (ih _ (by rw [relaxGo_len, hd])).trans (relaxGo_le hok tb 0 d hd fun _ h => h)
theorem rounds_snoc (wo : Int) (tb : List T3) : ∀ (k : Nat) (d : List Int), rounds wo tb (k + 1) d = relaxGo wo tb 0 (rounds wo tb k d) := by
  intro k
  induction k with
  | zero => intro d; rfl
  | succ k ih => intro d; rw [rounds, ih]; rfl
/-- After k rounds: no way of at most k tubes is shorter. -/
theorem rounds_opt {n : Nat} {tb : List T3} (hok : OkTubes n tb) {wo to : Int} (h0 : 0 ≤ to) (hn : to < n) : ∀ (k : Nat) (p : List Int) (v : Int), p.length ≤ k → 0 ≤ v → wk tb wo p v to → 0 ≤ dAt (rounds wo tb k (dist0 n to)) v ∧ dAt (rounds wo tb k (dist0 n to)) v ≤ lenW tb p := by
  intro k
  have hd0 : (dist0 n to).length = n := by unfold dist0; simp
  have hbase : 0 ≤ dAt (dist0 n to) to ∧ dAt (dist0 n to) to ≤ 0 := by
    unfold dist0; rw [dAt_set h0 h0 (by simpa using hn), if_pos rfl]; omega
  induction k with
  | zero =>
    intro p v hl hv hw
    obtain rfl : p = [] := List.eq_nil_of_length_eq_zero (by omega)
    obtain rfl : v = to := hw
    exact hbase
  | succ k ih =>
    intro p v hl hv hw
    have hdk : (rounds wo tb k (dist0 n to)).length = n := by rw [rounds_len, hd0]
    match p, hl, hw with
    | [], _, hw =>
      obtain rfl : v = to := hw
      have := rounds_le (wo := wo) hok (k + 1) (dist0 n v) hd0 v hv hbase.1
      simp only [lenW]; omega
    | i :: p, hl, ⟨hi0, hiw, t, ht, ha, hw'⟩ =>
      have htm := List.mem_of_getElem? ht
      have h1 := ih p t.b (by simpa using hl) (hok t htm).2.1.1 hw'
      have h2 := relaxGo_hit (wo := wo) hok tb 0 _ i.toNat t hdk (fun _ h => h) ht (by omega) h1.1
      rw [rounds_snoc, lenW, tubeAt_get ht, ← ha]
      omega
/-- The least lengths are the least lengths of ways. -/
theorem dist_opt {n : Nat} {tb : List T3} (hok : OkTubes n tb) {wo to : Int} (h0 : 0 ≤ to) (hn : to < n) {p : List Int} {v : Int} (hv : 0 ≤ v) (hw : wk tb wo p v to) : 0 ≤ dAt (dist n tb to wo) v ∧ dAt (dist n tb to wo) v ≤ lenW tb p := by
  obtain ⟨p', h1, h2, h3⟩ := short_way hok p.length (Nat.le_refl _) hw
  have := rounds_opt hok h0 hn n p' v h2 hv h1
  unfold dist; omega
theorem dist_way {n : Nat} {tb : List T3} (hok : OkTubes n tb) {wo to : Int} (h0 : 0 ≤ to) (hn : to < n) {v : Int} (hv : 0 ≤ v) (hd : 0 ≤ dAt (dist n tb to wo) v) : ∃ p, wk tb wo p v to ∧ lenW tb p = dAt (dist n tb to wo) v := by
  rcases dist_sound hok (wo := wo) h0 hn v hv with h | ⟨_, h⟩
  · omega
  · exact h
theorem dist_iff {n : Nat} {tb : List T3} (hok : OkTubes n tb) {wo to : Int} (h0 : 0 ≤ to) (hn : to < n) {v : Int} (hv : 0 ≤ v) : 0 ≤ dAt (dist n tb to wo) v ↔ ∃ p, wk tb wo p v to :=
  ⟨fun h => by obtain ⟨p, hp, _⟩ := dist_way hok h0 hn hv h; exact ⟨p, hp⟩, fun ⟨p, hp⟩ => (dist_opt hok h0 hn hv hp).1⟩
theorem dist_neg {n : Nat} {tb : List T3} (hok : OkTubes n tb) {wo to : Int} (h0 : 0 ≤ to) (hn : to < n) {v : Int} (hv : 0 ≤ v) (h : dAt (dist n tb to wo) v < 0) : dAt (dist n tb to wo) v = -1 := by
  rcases dist_sound hok (wo := wo) h0 hn v hv with h | ⟨h, _⟩ <;> omega
/-- Values stay within the lengths of ways of n tubes. -/
theorem dist_bd {n : Nat} {tb : List T3} (hok : OkTubes n tb) {wo : Int} : ∀ {p : List Int} {v u : Int}, wk tb wo p v u → lenW tb p ≤ 2000 * p.length := by
  intro p
  induction p with
  | nil => intro v u _; simp [lenW]
  | cons i p ih =>
    rintro v u ⟨h0, h1, t, ht, ha, h⟩
    have h2 := ih h
    have h3 := (hok t (List.mem_of_getElem? ht)).2.2
    rw [lenW, tubeAt_get ht, List.length_cons]; omega
end Go.Proofs.Ytklfjekpeoigoaa
