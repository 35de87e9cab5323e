/-
  Seals: the contracts of the reference and of the program in the laws' words: runs left, worn ones.
-/
import Derived.Test.YtflbddfmhjlknaaCarSealL
import Derived.Deep.DeepMust
namespace Go.Proofs.Ytflbddfmhjlknaa
open Go.RowKit

def runsLeft (x : List T2) : Int × Int := if vSeals x then ((x.map fun z => z.b - z.a).sum, 0) else (0, 1)
def wornSeals (x : List T2) : List Int × Int := if vSeals x then (idxFrom (fun z : T2 => z.a == z.b) x 0, 0) else ([], 1)
theorem own_drewN {w : World} {base : Nat} {e : TypeId} {size n : Nat} {v : Value} {xs : List Value} (h : w.ownsRow base e size v n xs) (k : Nat) : (w.drewN k).ownsRow base e size v n xs := h
set_option maxRecDepth 100000 in
set_option maxHeartbeats 1000000 in
theorem S_RunsLeft (x : List T2) (v : Value) (w : World) (hs : x.length ≤ 1048576) (_ : ∀ z ∈ x, z.Fits) (h : R_SealS w w.heap.size v x) :
    Calls Try.prog 19 #[v] w fun e w' => e = .returned (.tuple #[.int .i64 (runsLeft x).1, .int .i64 (runsLeft x).2]) ∧ Below w.heap.size w w' := by
  obtain ⟨A, c, rfl, h1⟩ := h
  have HV := hide (l07Seals_any x A c w hs h1)
  have HX := hide h1; clear h1
  cases hv : vSeals x
  · rw [hv] at HV
    have HR := hide (show runsLeft x = (0, 1) by simp [runsLeft, hv])
    clear hv
    go_enter Try.func19, Try.ntmps19
    go_wp2_with (go_at_call 82; refine (HV.out).mono ?_; rintro e w1 ⟨rfl, hb1⟩)
    go_ret2
    exact ⟨by rw [HR.out]; rfl, hb1⟩
  · rw [hv] at HV
    have HR := hide (show runsLeft x = ((x.map fun z => z.b - z.a).sum, 0) by simp [runsLeft, hv])
    have HO := hide (vSeals_iff.1 hv)
    obtain ⟨_, hl60⟩ := vSeals_iff.1 hv
    clear hv
    go_enter Try.func19, Try.ntmps19
    go_wp2_with (go_at_call 82; refine (HV.out).mono ?_; rintro e w1 ⟨rfl, hb1⟩)
    go_loopg [4, 5] x.length (fun g s i wr => ∃ (k : Nat) (t : Int), k ≤ x.length ∧ Hid (g = x.length - k) ∧ i = .int .i64 k ∧ s = .int .i64 t ∧ 0 ≤ t ∧ t ≤ 1000 * (k : Int) ∧
      Hid ((x.map fun z => z.b - z.a).sum = t + ((x.drop k).map fun z => z.b - z.a).sum) ∧ Below w.heap.size w wr)
    case atStart => exact ⟨0, 0, by omega, by simp [Hid], rfl, rfl, by omega, by omega, by simp [Hid], hb1⟩
    case round =>
      obtain ⟨k, t, hk, hg, rfl, rfl, ht1, ht2, HS, hb⟩ := hrel
      by_cases hlt : k < x.length
      · obtain ⟨b1, o1, z1, rfl, _, hz1, hca, hcb⟩ := (HX.out.below hb).at_ hlt
        obtain ⟨⟨hq1, hq2⟩, hq3, hq4⟩ := HO.out.1 z1 (List.mem_of_getElem? hz1)
        have HS' : Hid ((x.map fun z => z.b - z.a).sum = t + (z1.b - z1.a) + ((x.drop (k + 1)).map fun z => z.b - z.a).sum) := by
          have := HS.out; rw [drop_cons hz1, List.map_cons, List.sum_cons] at this; unfold Hid; omega
        clear hz1
        go_wp2_with fail
        go_quiet (fail)
        go_wp2_with fail
        go_roundg (x.length - (k + 1))
        case measure => have := hg.out; omega
        case rel => exact ⟨k + 1, t + (z1.b - z1.a), by omega, rfl, by go_num, rfl, by omega, by omega, HS', bdn hb _⟩
      · go_wp2_with fail
        go_ret2
        refine ⟨?_, hb⟩
        have := HS.out
        rw [List.drop_eq_nil_of_le (by omega)] at this
        rw [HR.out, this]; simp only [List.map_nil, List.sum_nil, Int.add_zero]; rfl
set_option maxRecDepth 100000 in
set_option maxHeartbeats 1000000 in
theorem P_RunsLeft (x : List T2) (v : Value) (w : World) (hs : x.length ≤ 1048576) (_ : ∀ z ∈ x, z.Fits) (h : R_SealS w w.heap.size v x) :
    Calls Try.prog 18 #[v] w fun e w' => e = .returned (.tuple #[.int .i64 (runsLeft x).1, .int .i64 (runsLeft x).2]) ∧ Below w.heap.size w w' := by
  obtain ⟨A, c, rfl, h1⟩ := h
  have HV := hide (implValidSeals_any x A c w hs h1)
  have HX := hide h1; clear h1
  cases hv : vSeals x
  · rw [hv] at HV
    have HR := hide (show runsLeft x = (0, 1) by simp [runsLeft, hv])
    clear hv
    go_enter Try.func18, Try.ntmps18
    go_wp2_with (go_at_call 27; refine (HV.out).mono ?_; rintro e w1 ⟨rfl, hb1⟩)
    go_ret2
    exact ⟨by rw [HR.out]; rfl, hb1⟩
  · rw [hv] at HV
    have HR := hide (show runsLeft x = ((x.map fun z => z.b - z.a).sum, 0) by simp [runsLeft, hv])
    have HO := hide (vSeals_iff.1 hv)
    obtain ⟨_, hl60⟩ := vSeals_iff.1 hv
    clear hv
    go_enter Try.func18, Try.ntmps18
    go_wp2_with (go_at_call 27; refine (HV.out).mono ?_; rintro e w1 ⟨rfl, hb1⟩)
    go_loopg [4, 12] x.length (fun g s i wr => ∃ (k : Nat) (t : Int), k ≤ x.length ∧ Hid (g = x.length - k) ∧ i = .int .i64 k ∧ s = .int .i64 t ∧ 0 ≤ t ∧ t ≤ 1000 * (k : Int) ∧
      Hid ((x.map fun z => z.b - z.a).sum = t + ((x.drop k).map fun z => z.b - z.a).sum) ∧ Below w.heap.size w wr)
    case atStart => exact ⟨0, 0, by omega, by simp [Hid], rfl, rfl, by omega, by omega, by simp [Hid], hb1⟩
    case round =>
      obtain ⟨k, t, hk, hg, rfl, rfl, ht1, ht2, HS, hb⟩ := hrel
      by_cases hlt : k < x.length
      · obtain ⟨b1, o1, z1, rfl, _, hz1, hca, hcb⟩ := (HX.out.below hb).at_ hlt
        obtain ⟨⟨hq1, hq2⟩, hq3, hq4⟩ := HO.out.1 z1 (List.mem_of_getElem? hz1)
        have HS' : Hid ((x.map fun z => z.b - z.a).sum = t + (z1.b - z1.a) + ((x.drop (k + 1)).map fun z => z.b - z.a).sum) := by
          have := HS.out; rw [drop_cons hz1, List.map_cons, List.sum_cons] at this; unfold Hid; omega
        clear hz1
        go_wp2_with fail
        skip
        go_roundg (x.length - (k + 1))
        case measure => have := hg.out; omega
        case rel => exact ⟨k + 1, t + (z1.b - z1.a), by omega, rfl, by go_num, rfl, by omega, by omega, HS', hb.alloc hb.size _⟩
      · go_wp2_with fail
        go_ret2
        refine ⟨?_, hb⟩
        have := HS.out
        rw [List.drop_eq_nil_of_le (by omega)] at this
        rw [HR.out, this]; simp only [List.map_nil, List.sum_nil, Int.add_zero]; rfl
set_option maxRecDepth 100000 in
set_option maxHeartbeats 1000000 in
theorem S_WornSeals (x : List T2) (v : Value) (w : World) (hs : x.length ≤ 1048576) (_ : ∀ z ∈ x, z.Fits) (h : R_SealS w w.heap.size v x) :
    Calls Try.prog 17 #[v] w fun e w' => ∃ r, e = .returned (.tuple #[r, .int .i64 (wornSeals x).2]) ∧ O_Int64S w' w.heap.size w'.heap.size r (wornSeals x).1 ∧ Below w.heap.size w w' := by
  obtain ⟨A, c, rfl, h1⟩ := h
  obtain ⟨i0, hi0, hz0, hs0, hb0⟩ := info_parts int64_info
  have HV := hide (l07Seals_any x A c w hs h1)
  have HX := hide h1; clear h1
  cases hv : vSeals x
  · rw [hv] at HV
    have HR := hide (show wornSeals x = ([], 1) by simp [wornSeals, hv])
    clear hv
    go_enter Try.func17, Try.ntmps17
    go_wp2_with (go_at_call 82; refine (HV.out).mono ?_; rintro e w1 ⟨rfl, hb1⟩)
    go_ret2
    exact ⟨_, by rw [HR.out]; rfl, by rw [HR.out]; exact O_Int64S.nil _ _ _ _ _, hb1⟩
  · rw [hv] at HV
    have HR := hide (show wornSeals x = (idxFrom (fun z : T2 => z.a == z.b) x 0, 0) by simp [wornSeals, hv])
    clear hv
    go_enter Try.func17, Try.ntmps17
    go_wp2_with (go_at_call 82; refine (HV.out).mono ?_; rintro e w1 ⟨rfl, hb1⟩)
    have ho1 := own_new0 w1 w.heap.size 2 1 hb1.size
    have hb2 : Below w.heap.size w (w1.alloc (.cells #[] 2)) := hb1.alloc hb1.size _
    go_loopg [4, 5] x.length (fun g s i wr => ∃ (k : Nat) (acc : List Int), k ≤ x.length ∧ Hid (g = x.length - k) ∧ i = .int .i64 k ∧ acc.length ≤ k ∧ wr.ownsRow w.heap.size 2 1 s acc.length (acc.map (Value.int .i64)) ∧
      Hid (idxFrom (fun z : T2 => z.a == z.b) x 0 = acc ++ idxFrom (fun z : T2 => z.a == z.b) (x.drop k) k) ∧ Below w.heap.size w wr)
    case atStart => exact ⟨0, [], by omega, by simp [Hid], rfl, by simp, ho1, by simp [Hid], hb2⟩
    case round =>
      obtain ⟨k, acc, hk, hg, rfl, hal, hown, HS, hb⟩ := hrel
      clear ho1 hb2
      by_cases hlt : k < x.length
      · obtain ⟨b1, o1, z1, rfl, _, hz1, hca, hcb⟩ := (HX.out.below hb).at_ hlt
        have hsz := hb.size
        by_cases he : z1.a = z1.b
        · have hE : (z1.a == z1.b) = true := by simp [he]
          have HS' : Hid (idxFrom (fun z : T2 => z.a == z.b) x 0 = (acc ++ [(k : Int)]) ++ idxFrom (fun z : T2 => z.a == z.b) (x.drop (k + 1)) (k + 1)) := by
            have := HS.out; rw [drop_cons hz1] at this; simp only [idxFrom, hE, if_true] at this; unfold Hid; rw [this]; simp
          have he' := hide he
          clear hz1 he
          go_wp2_with fail
          go_quiet (fail)
          go_wp2_with (at_builtin; go_must (refine wp_app _ rfl _ _ 30 rfl (w.heap.size) 2 i0 (.int .i64 0) 1 8 Try.underlying30 hi0 hz0 hs0 hb0 rfl (by decide) _ _ _ rfl ((own_drewN hown _).alloc _) _ _ 1 1 [.int .i64 (k : Int)] rfl rfl (rd_new _ _ _ _ (by simp)) (int_one _) (by omega) (by decide) (by simp <;> omega) ?_); intro v' w2 hown' hgrow hat)
          have hb3 := app_below ((bdn hb _).alloc hb.size _) ((own_drewN hown _).alloc _) hgrow (Nat.le_refl _) (by simp <;> omega)
          go_roundg (x.length - (k + 1))
          case measure => have := hg.out; omega
          case rel => exact ⟨k + 1, acc ++ [(k : Int)], by omega, rfl, by go_num, by simp; omega, by simpa using hown', HS', hb3⟩
        · have hE : (z1.a == z1.b) = false := by simp [he]
          have HS' : Hid (idxFrom (fun z : T2 => z.a == z.b) x 0 = acc ++ idxFrom (fun z : T2 => z.a == z.b) (x.drop (k + 1)) (k + 1)) := by
            have := HS.out; rw [drop_cons hz1] at this; simp only [idxFrom, hE] at this; unfold Hid; rw [this]; simp
          have he' := hide he
          clear hz1 he
          go_wp2_with fail
          go_quiet (fail)
          go_wp2_with fail
          go_roundg (x.length - (k + 1))
          case measure => have := hg.out; omega
          case rel => exact ⟨k + 1, acc, by omega, rfl, by go_num, by omega, (own_drewN hown _), HS', bdn hb _⟩
      · go_wp2_with fail
        go_ret2
        have := HS.out
        rw [List.drop_eq_nil_of_le (by omega)] at this
        simp only [idxFrom, List.append_nil] at this
        refine ⟨_, by rw [HR.out]; rfl, ?_, hb⟩
        rw [HR.out, this]
        exact OwnV.of_row hown (by dsimp only; omega)
set_option maxRecDepth 100000 in
set_option maxHeartbeats 1000000 in
theorem P_WornSeals (x : List T2) (v : Value) (w : World) (hs : x.length ≤ 1048576) (_ : ∀ z ∈ x, z.Fits) (h : R_SealS w w.heap.size v x) :
    Calls Try.prog 16 #[v] w fun e w' => ∃ r, e = .returned (.tuple #[r, .int .i64 (wornSeals x).2]) ∧ O_Int64S w' w.heap.size w'.heap.size r (wornSeals x).1 ∧ Below w.heap.size w w' := by
  obtain ⟨A, c, rfl, h1⟩ := h
  obtain ⟨i0, hi0, hz0, hs0, hb0⟩ := info_parts int64_info
  have HV := hide (implValidSeals_any x A c w hs h1)
  have HX := hide h1; clear h1
  cases hv : vSeals x
  · rw [hv] at HV
    have HR := hide (show wornSeals x = ([], 1) by simp [wornSeals, hv])
    clear hv
    go_enter Try.func16, Try.ntmps16
    go_wp2_with (go_at_call 27; refine (HV.out).mono ?_; rintro e w1 ⟨rfl, hb1⟩)
    go_ret2
    exact ⟨_, by rw [HR.out]; rfl, by rw [HR.out]; exact O_Int64S.nil _ _ _ _ _, hb1⟩
  · rw [hv] at HV
    have HR := hide (show wornSeals x = (idxFrom (fun z : T2 => z.a == z.b) x 0, 0) by simp [wornSeals, hv])
    clear hv
    go_enter Try.func16, Try.ntmps16
    go_wp2_with (go_at_call 27; refine (HV.out).mono ?_; rintro e w1 ⟨rfl, hb1⟩)
    have ho1 := own_new0 w1 w.heap.size 2 1 hb1.size
    have hb2 : Below w.heap.size w (w1.alloc (.cells #[] 2)) := hb1.alloc hb1.size _
    go_loopg [4, 13] x.length (fun g s i wr => ∃ (k : Nat) (acc : List Int), k ≤ x.length ∧ Hid (g = x.length - k) ∧ i = .int .i64 k ∧ acc.length ≤ k ∧ wr.ownsRow w.heap.size 2 1 s acc.length (acc.map (Value.int .i64)) ∧
      Hid (idxFrom (fun z : T2 => z.a == z.b) x 0 = acc ++ idxFrom (fun z : T2 => z.a == z.b) (x.drop k) k) ∧ Below w.heap.size w wr)
    case atStart => exact ⟨0, [], by omega, by simp [Hid], rfl, by simp, ho1, by simp [Hid], hb2⟩
    case round =>
      obtain ⟨k, acc, hk, hg, rfl, hal, hown, HS, hb⟩ := hrel
      clear ho1 hb2
      by_cases hlt : k < x.length
      · obtain ⟨b1, o1, z1, rfl, _, hz1, hca, hcb⟩ := (HX.out.below hb).at_ hlt
        have hsz := hb.size
        by_cases he : z1.a = z1.b
        · have hE : (z1.a == z1.b) = true := by simp [he]
          have HS' : Hid (idxFrom (fun z : T2 => z.a == z.b) x 0 = (acc ++ [(k : Int)]) ++ idxFrom (fun z : T2 => z.a == z.b) (x.drop (k + 1)) (k + 1)) := by
            have := HS.out; rw [drop_cons hz1] at this; simp only [idxFrom, hE, if_true] at this; unfold Hid; rw [this]; simp
          have he' := hide he
          clear hz1 he
          go_wp2_with (at_builtin; go_must (refine wp_app _ rfl _ _ 30 rfl (w.heap.size) 2 i0 (.int .i64 0) 1 8 Try.underlying30 hi0 hz0 hs0 hb0 rfl (by decide) _ _ _ rfl ((hown.alloc _).alloc _) _ _ 1 1 [.int .i64 (k : Int)] rfl rfl (rd_new _ _ _ _ (by simp)) (int_one _) (by omega) (by decide) (by simp <;> omega) ?_); intro v' w2 hown' hgrow hat)
          have hb3 := app_below ((hb.alloc hb.size _).alloc (by simp; omega) _) ((hown.alloc _).alloc _) hgrow (Nat.le_refl _) (by simp <;> omega)
          go_roundg (x.length - (k + 1))
          case measure => have := hg.out; omega
          case rel => exact ⟨k + 1, acc ++ [(k : Int)], by omega, rfl, by go_num, by simp; omega, by simpa using hown', HS', hb3⟩
        · have hE : (z1.a == z1.b) = false := by simp [he]
          have HS' : Hid (idxFrom (fun z : T2 => z.a == z.b) x 0 = acc ++ idxFrom (fun z : T2 => z.a == z.b) (x.drop (k + 1)) (k + 1)) := by
            have := HS.out; rw [drop_cons hz1] at this; simp only [idxFrom, hE] at this; unfold Hid; rw [this]; simp
          have he' := hide he
          clear hz1 he
          go_wp2_with fail
          skip
          go_roundg (x.length - (k + 1))
          case measure => have := hg.out; omega
          case rel => exact ⟨k + 1, acc, by omega, rfl, by go_num, by omega, (hown.alloc _), HS', hb.alloc hb.size _⟩
      · go_wp2_with fail
        go_ret2
        have := HS.out
        rw [List.drop_eq_nil_of_le (by omega)] at this
        simp only [idxFrom, List.append_nil] at this
        refine ⟨_, by rw [HR.out]; rfl, ?_, hb⟩
        rw [HR.out, this]
        exact OwnV.of_row hown (by dsimp only; omega)
end Go.Proofs.Ytflbddfmhjlknaa
