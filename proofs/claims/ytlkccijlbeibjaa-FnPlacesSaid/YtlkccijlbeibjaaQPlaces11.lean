/-
  Rides in the reference: the best pressures.
  Drawing: one of some numbers, and yes once in so many times.
  Drawn seals.
  Draws of carriers: a fleet and which of them runs; lists of numbers compared.
  A drawn move.
-/
import Derived.Test.YtlkccijlbeibjaaQPlaces10
import Derived.Test.YtlkccijlbeibjaaQPlaces7
import Derived.Test.YtlkccijlbeibjaaQPlaces2
import Derived.Test.YtlkccijlbeibjaaQPlaces3
import Derived.Deep.DeepCutAuto
namespace Go.Proofs.Ytlkccijlbeibjaa
open Go.RowKit
theorem pickGo_law2 {xs : List T4} : ∀ (i : Nat) (k m : Int), ((pickGo xs i k m).1 = k ∧ (pickGo xs i k m).2 = m) ∨ ∃ (j : Nat) (x : T4), (pickGo xs i k m).1 = ((i + j : Nat) : Int) ∧ xs[j]? = some x ∧ x.c ≠ 100 ∧ (pickGo xs i k m).2 = ticksR x - ticksR (upR x) := by
  induction xs with
  | nil => intro i k m; exact .inl ⟨rfl, rfl⟩
  | cons x xs ih =>
    intro i k m
    unfold pickGo
    have hsh : ∀ {r : Int × Int}, (∃ (j : Nat) (x : T4), r.1 = ((i + 1 + j : Nat) : Int) ∧ xs[j]? = some x ∧ x.c ≠ 100 ∧ r.2 = ticksR x - ticksR (upR x)) → ∃ (j : Nat) (y : T4), r.1 = ((i + j : Nat) : Int) ∧ (x :: xs)[j]? = some y ∧ y.c ≠ 100 ∧ r.2 = ticksR y - ticksR (upR y) := by
      rintro r ⟨j, y, h1, h2, h3, h4⟩
      exact ⟨j + 1, y, by rw [h1]; congr 1; omega, by simpa using h2, h3, h4⟩
    split
    · rcases ih (i + 1) k m with h | h
      · exact .inl h
      · exact .inr (hsh h)
    · rename_i hc
      split
      · rcases ih (i + 1) i (ticksR x - ticksR (upR x)) with h | h
        · exact .inr ⟨0, x, h.1, rfl, hc, h.2⟩
        · exact .inr (hsh h)
      · rcases ih (i + 1) k m with h | h
        · exact .inl h
        · exact .inr (hsh h)
theorem sumR_set {ys : List T4} : ∀ {k : Nat} {x y : T4}, ys[k]? = some x → sumR (ys.set k y) = sumR ys - ticksR x + ticksR y := by
  induction ys with
  | nil => intro k x y h; cases h
  | cons z ys ih =>
    intro k x y h
    cases k with
    | zero => simp at h; subst h; rw [List.set_cons_zero, sumR_cons, sumR_cons]; omega
    | succ k => have := ih (k := k) (x := x) (y := y) (by simpa using h); rw [List.set_cons_succ, sumR_cons, sumR_cons, this]; omega
theorem ride_rat {w : World} {base : Nat} {e : TypeId} {n c g : Nat} {ys : List T4} (h : w.ownsRow base e 4 (.slice (some ⟨g, 0, none⟩) n c) n (ys.flatMap T4.cells)) {k : Nat} {x : T4} (hx : ys[k]? = some x) : RAt w g (k * 4) x := by
  obtain ⟨h0, h1, h2, h3⟩ := ride_at h hx; exact ⟨h0, h1, h2, h3⟩
theorem ones_at {α : Type} {f : α → α} {xs : List α} {k : Nat} {x : α} (h : xs[k]? = some x) : ((xs.take (k + 1)).map f ++ xs.drop (k + 1))[k]? = some (f x) := by
  rw [← ones_step h, List.getElem?_set_self]
  exact lt_of_get (ones_get (f := f) h)
set_option maxRecDepth 100000 in
set_option maxHeartbeats 8000000 in
theorem specBestPressures_any (xs : List T4) (t0 : Int) (A : Option Addr) (c : Nat) (w : World) (hl : xs.length ≤ 1048576) (h : Rd4 w w.heap.size A xs) :
    Calls Try.prog 52 #[.slice A xs.length c, .int .i64 t0] w fun e w' => ∃ r, e = .returned (.tuple #[r, .int .i64 (bestPress xs t0).2]) ∧ O_Int64S w' w.heap.size w'.heap.size r (bestPress xs t0).1 ∧ Below w.heap.size w w' := by
  obtain ⟨i0, hi0, hz0, hs0, hb0⟩ := info_parts int64_info
  have hinfo : (Try.prog.info? 83).map (fun i => (i.zero, i.size, i.bytes)) = some (some (.agg #[.int .i64 0, .int .i64 0, .int .i64 0, .int .i64 0]), 4, 32) := by kernel_rfl
  obtain ⟨r0, hr0, hq0, hp0, hy0⟩ := info_parts hinfo
  have HV := hide (specList_any xs A c w hl h)
  clear hinfo
  cases hok : okRs xs
  · have HK := hide (show bestPress xs t0 = ([], 1) by unfold bestPress tickCode; rw [hok]; rfl)
    rw [hok] at HV
    clear h hok
    go_enter Try.func52, Try.ntmps52
    go_wp2_with (go_at_call 126; refine (HV.out).mono ?_; rintro e w2 ⟨rfl, rfl⟩)
    go_ret2
    exact ⟨_, by rw [HK.out]; rfl, by rw [HK.out]; exact O_Int64S.nil _ _ _ _ _, Below.refl _ _⟩
  rw [hok] at HV
  by_cases hin : 0 ≤ t0 ∧ t0 ≤ 1000000
  case neg =>
    have hin' : t0 < 0 ∨ 1000000 < t0 := by omega
    have HK := hide (show bestPress xs t0 = ([], 2) by unfold bestPress tickCode; rw [hok, inB_f hin']; rfl)
    clear h hok hin
    go_enter Try.func52, Try.ntmps52
    go_wp2_with (first | (go_at_call 116; first | (refine (l00In_t _ _ _ _ (by omega)).mono ?_; rintro e w' ⟨rfl, rfl⟩) | (refine (l00In_f _ _ _ _ (by omega)).mono ?_; rintro e w' ⟨rfl, rfl⟩)) | (go_at_call 126; refine (HV.out).mono ?_; rintro e w2 ⟨rfl, rfl⟩))
    go_ret2
    exact ⟨_, by rw [HK.out]; rfl, by rw [HK.out]; exact O_Int64S.nil _ _ _ _ _, Below.refl _ _⟩
  obtain ⟨ht1, ht2⟩ := hin
  obtain ⟨h8, hx⟩ := okRs_iff.1 hok
  have HK := hide (show bestPress xs t0 = pressGo t0 801 (xs.map fun x => setC x 1) by unfold bestPress tickCode; rw [hok, inB_t ⟨ht1, ht2⟩]; rfl)
  have hx1 : ∀ x ∈ xs.map (fun x => setC x 1), okR x = true := fun z hz => by
    obtain ⟨x, hm, rfl⟩ := List.mem_map.1 hz
    have := okR_iff.1 (hx x hm)
    rw [okR_iff]; unfold setC; dsimp only; omega
  have HO1 := hide hx1
  have ho0 := own_new0 w w.heap.size 83 4 (Nat.le_refl _)
  have hb1 : Below w.heap.size w (w.alloc (.cells #[] 83)) := (Below.refl _ _).alloc (Nat.le_refl _) _
  have HR := hide (Rd.below h hb1)
  have hlen4 : (xs.flatMap T4.cells).length = xs.length * 4 := flatMap_len T4.cells 4 (fun _ => rfl) xs
  clear h hok hx hx1
  go_enter Try.func52, Try.ntmps52
  go_upto_region 6 with (first | (go_at_call 116; first | (refine (l00In_t _ _ _ _ (by omega)).mono ?_; rintro e w' ⟨rfl, rfl⟩) | (refine (l00In_f _ _ _ _ (by omega)).mono ?_; rintro e w' ⟨rfl, rfl⟩)) | (go_at_call 126; refine (HV.out).mono ?_; rintro e w2 ⟨rfl, rfl⟩) | (at_builtin; go_must (refine wp_app _ rfl _ _ 73 rfl w.heap.size 83 r0 (.agg #[.int .i64 0, .int .i64 0, .int .i64 0, .int .i64 0]) 4 32 Try.underlying73 hr0 hq0 hp0 hy0 rfl (by decide) _ _ _ rfl ho0 _ _ xs.length c _ rfl hlen4 HR.out (T4.ones _) (by omega) (by decide) (by simp) ?_); intro v' w4 hown' hgrow hat))
  have b4 := app_below hb1 ho0 hgrow (Nat.le_refl _) (by simp)
  have B4 := hide b4
  simp only [Nat.zero_add, List.nil_append] at hown'
  obtain ⟨A4, c4, rfl, _⟩ := own_shape hown'
  have HOW := hide hown'
  clear hown' hgrow hat hb1 ho0 HR b4 HV hlen4
  go_wp2_with fail
  go_loopg [7, 8] xs.length (fun g s i wr => ∃ k : Nat, k ≤ xs.length ∧ Hid (g = xs.length - k) ∧ s = .int .i64 (sumR ((xs.map fun x => setC x 1).take k)) ∧ i = .int .i64 k ∧ Hid (wr.ownsRow w.heap.size 83 4 (.slice A4 xs.length c4) xs.length (((xs.take k).map (fun x => setC x 1) ++ xs.drop k).flatMap T4.cells)) ∧ Hid (Below w.heap.size w wr))
  case atStart => exact ⟨0, Nat.zero_le _, by simp [Hid], by simp [sumR], rfl, by simpa using HOW, B4⟩
  case round =>
    obtain ⟨k, hk, hg, rfl, rfl, HW, HB⟩ := hrel
    clear HOW B4
    by_cases hlt : k < xs.length
    · obtain ⟨z1, hz1⟩ : ∃ z1, xs[k]? = some z1 := ⟨_, List.getElem?_eq_getElem hlt⟩
      rcases own_block HW.out with ⟨_, h0, _⟩ | ⟨gr, rfl, hg1, hg2⟩
      · omega
      have hlt' : (k : Int) < (xs.length : Int) := by omega
      obtain ⟨_, _, hcc, _⟩ := ride_at HW.out (ones_get (f := fun x => setC x 1) hz1)
      have hst := ride_set HW.out (ones_get (f := fun x => setC x 1) hz1) 1
      rw [ones_step (f := fun x => setC x 1) hz1] at hst
      have HST := hide hst.1
      have hfr := HW.out.frozenAt (k * 4 + 2)
      have HB2 := hide (HB.out.setCell (p := ⟨gr, k * 4 + 2, none⟩) hg1 (.int .i64 1))
      have hm1 : (xs.map fun x => setC x 1)[k]? = some (setC z1 1) := by rw [List.getElem?_map, hz1]; rfl
      have hy1 := HO1.out _ (List.mem_of_getElem? hm1)
      have HT := hide (specTicks_b (setC z1 1) gr (k * 4) _ hy1 (ride_rat HST.out (ones_at (f := fun x => setC x 1) hz1)))
      have ht := sumR_take hm1
      have h1 := sumR_bd (xs := (xs.map fun x => setC x 1).take (k + 1)) (fun y hy => HO1.out y (List.mem_of_mem_take hy))
      have hlk : ((xs.map fun x => setC x 1).take (k + 1)).length ≤ 8 := by rw [List.length_take, List.length_map]; omega
      have e1 : IntKind.i64.wrap (sumR ((xs.map fun x => setC x 1).take k) + ticksR (setC z1 1)) = sumR ((xs.map fun x => setC x 1).take (k + 1)) := by rw [← ht]; exact wrap_in (by omega) (by omega)
      obtain ⟨s1, hs1⟩ : ∃ s1, s1 = sumR ((xs.map fun x => setC x 1).take (k + 1)) := ⟨_, rfl⟩
      rw [← hs1] at e1
      have HS1 := hide hs1
      generalize sumR ((xs.map fun x => setC x 1).take k) = q0 at *
      clear hst hz1 ht h1 hlk hs1 hm1
      go_upto_region 11 with fail
      generalize wr.setCell ⟨gr, k * 4 + 2, none⟩ (.int .i64 1) = w5 at *
      clear hcc hfr hy1
      go_wp2_with (go_at_call 127; refine (HT.out).mono ?_; rintro e w6 ⟨rfl, s6⟩)
      go_roundg (xs.length - (k + 1))
      case measure => have := hg.out; omega
      case rel => exact ⟨k + 1, by omega, rfl, by rw [HS1.out], by go_num, hide (own_below HST.out s6 (Nat.le_refl _)), hide (HB2.out.trans (s6.mono HB2.out.size))⟩
    · obtain rfl : k = xs.length := by omega
      have HW2 : Hid (wr.ownsRow w.heap.size 83 4 (.slice A4 xs.length c4) xs.length ((xs.map fun x => setC x 1).flatMap T4.cells)) := by
        have h := HW.out
        rw [List.take_length, List.drop_length, List.append_nil] at h; exact h
      clear HW
      obtain ⟨wA, hwA⟩ : ∃ q, q = wr := ⟨wr, rfl⟩
      subst hwA
      have htk : (xs.map fun x => setC x 1).take xs.length = xs.map fun x => setC x 1 := List.take_of_length_le (by simp)
      rw [htk]
      clear htk
      obtain ⟨ys0, hys0⟩ : ∃ ys0, ys0 = xs.map (fun x => setC x 1) := ⟨_, rfl⟩
      have hyl : ys0.length = xs.length := by rw [hys0, List.length_map]
      have hyc : sumC ys0 = xs.length := by rw [hys0]; exact sumC_ones xs
      rw [← hys0] at HW2 HO1 HK ⊢
      clear hys0
      go_wp2_with fail
      go_loopg [7] 801 (fun g sv wr => ∃ (fu : Nat) (ys : List T4), sv = .int .i64 (sumR ys) ∧ Hid (g = fu) ∧ ys.length = xs.length ∧ Hid ((fu : Int) + sumC ys = 801 + xs.length) ∧ Hid (∀ x ∈ ys, okR x = true) ∧ Hid (pressGo t0 801 ys0 = pressGo t0 fu ys) ∧ Hid (wr.ownsRow w.heap.size 83 4 (.slice A4 xs.length c4) xs.length (ys.flatMap T4.cells)) ∧ Hid (Below w.heap.size w wr))
      case atStart => exact ⟨801, ys0, rfl, rfl, hyl, hide (by rw [hyc]; rfl), HO1, rfl, HW2, HB⟩
      case round =>
        obtain ⟨fu, ys, rfl, hg, hyl2, HFU, HOK, HS, HW, HB⟩ := hrel
        clear HW2
        obtain ⟨w5, hw5⟩ : ∃ q, q = wr := ⟨wr, rfl⟩
        subst hw5
        have hlb := sumC_le HOK.out
        rw [hyl2] at hlb
        obtain ⟨fu, rfl⟩ : ∃ f, fu = f + 1 := ⟨fu - 1, by have := HFU.out; omega⟩
        have HST := hide (HS.out.trans (pressGo_step t0 fu ys))
        obtain ⟨hsa, hsb⟩ := sumR_bd HOK.out
        rw [hyl2] at hsb
        clear hlb HS
        by_cases hgo : sumR ys ≤ t0
        · have HE := hide (show pressGo t0 801 ys0 = (ys.map T4.c, 0) by rw [HST.out, if_pos hgo])
          clear HST
          have ho1 := own_new0 w5 w5.heap.size 2 1 (Nat.le_refl _)
          have B6 : Below w5.heap.size w5 (w5.alloc (.cells #[] 2)) := (Below.refl _ _).alloc (Nat.le_refl _) _
          have hgo' : ¬ (t0 < sumR ys) := by omega
          generalize sumR ys = sy at *
          clear hgo
          go_wp2_with fail
          go_loopg [14, 15] xs.length (fun g s i wr => ∃ k : Nat, k ≤ xs.length ∧ Hid (g = xs.length - k) ∧ i = .int .i64 k ∧ wr.ownsRow w5.heap.size 2 1 s k (((ys.take k).map T4.c).map (Value.int .i64)) ∧ Hid (Below w5.heap.size w5 wr))
          case atStart => exact ⟨0, Nat.zero_le _, by simp [Hid], rfl, by simpa using ho1, B6⟩
          case round =>
            obtain ⟨k, hk, hg3, rfl, hown, HB3⟩ := hrel
            clear ho1 B6
            by_cases hlt : k < xs.length
            · obtain ⟨z1, hz1⟩ : ∃ z1, ys[k]? = some z1 := ⟨_, List.getElem?_eq_getElem (by omega)⟩
              have HWr := hide (own_below HW.out HB3.out (Nat.le_refl _))
              rcases own_block HWr.out with ⟨_, h0, _⟩ | ⟨gr, rfl, hg1, hg2⟩
              · omega
              have hlt' : (k : Int) < (xs.length : Int) := by omega
              have hk0 : (0 : Int) ≤ (k : Int) := by omega
              obtain ⟨_, _, hcc, _⟩ := ride_at HWr.out hz1
              have hkl : k + 1 ≤ 8 := by omega
              have hnx : ((ys.take (k + 1)).map T4.c).map (Value.int .i64) = ((ys.take k).map T4.c).map (Value.int .i64) ++ [.int .i64 z1.c] := by
                obtain ⟨hkl, rfl⟩ := List.getElem?_eq_some_iff.1 hz1
                rw [List.take_succ_eq_append_getElem hkl, List.map_append, List.map_append]; rfl
              have HNX := hide hnx
              have hza := HB3.out.size
              clear hz1 hnx
              go_wp2_with (at_builtin; go_must (refine wp_app _ rfl _ _ 22 rfl (w5.heap.size) 2 i0 (.int .i64 0) 1 8 Try.underlying22 hi0 hz0 hs0 hb0 rfl (by decide) _ _ _ rfl (hown.alloc _) _ _ 1 1 [.int .i64 z1.c] rfl rfl (rd_new _ _ _ _ (by simp)) (int_one _) (by omega) (by decide) (by simp <;> omega) ?_); intro v' w6 hown' hgrow hat)
              have hb4 := app_below (HB3.out.alloc hza _) (hown.alloc _) hgrow (Nat.le_refl _) (by simp <;> omega)
              go_roundg (xs.length - (k + 1))
              case measure => have := hg3.out; omega
              case rel => exact ⟨k + 1, by omega, rfl, by go_num, by rw [HNX.out]; exact hown', hb4⟩
            · obtain rfl : k = xs.length := by omega
              go_wp2_with fail
              go_ret2
              have e : ys.take xs.length = ys := by rw [← hyl2, List.take_length]
              rw [e] at hown
              refine ⟨_, by rw [HK.out, HE.out]; rfl, ?_, HB.out.trans (HB3.out.mono HB.out.size)⟩
              rw [HK.out, HE.out]
              have hlen : (ys.map T4.c).length = xs.length := by rw [List.length_map]; exact hyl2
              refine O_Int64S.widen (lo := w5.heap.size) (hi := wr.heap.size) ?_ HB.out.size (Nat.le_refl _)
              show OwnV _ _ _ _ _ _ (ys.map T4.c).length _
              rw [hlen]
              exact OwnV.of_row hown (by omega)
        · have hst2 := HST.out
          rw [if_neg hgo] at hst2
          have HST2 := hide hst2
          have hgo' : t0 < sumR ys := by omega
          have HSS := hide (show ∀ j x, ys[j]? = some x → sumR (ys.set j (upR x)) = sumR ys - (ticksR x - ticksR (upR x)) from fun j x hj => by rw [sumR_set hj]; omega)
          obtain ⟨sy, hsy⟩ : ∃ sy, sy = sumR ys := ⟨_, rfl⟩
          rw [← hsy] at HSS hsa hsb hgo' ⊢
          clear HST hst2 hgo hsy
          go_wp2_with fail
          go_loopg [9, 10, 11] xs.length (fun g bv mv i wr => ∃ (k : Nat) (kb m : Int), k ≤ xs.length ∧ Hid (g = xs.length - k) ∧ bv = .int .i64 kb ∧ mv = .int .i64 m ∧ i = .int .i64 k ∧ Hid (pickGo ys 0 (-1) (-1) = pickGo (ys.drop k) k kb m) ∧ Hid (Below w5.heap.size w5 wr))
          case atStart => exact ⟨0, -1, -1, Nat.zero_le _, by simp [Hid], rfl, rfl, rfl, by simp [Hid], hide (Below.refl _ _)⟩
          case round =>
            obtain ⟨k, kb, m, hk, hg3, rfl, rfl, rfl, HP, HB3⟩ := hrel
            by_cases hlt : k < xs.length
            · obtain ⟨z1, hz1⟩ : ∃ z1, ys[k]? = some z1 := ⟨_, List.getElem?_eq_getElem (by omega)⟩
              have HWr := hide (own_below HW.out HB3.out (Nat.le_refl _))
              rcases own_block HWr.out with ⟨_, h0, _⟩ | ⟨gr, rfl, hg1, hg2⟩
              · omega
              have hlt' : (k : Int) < (xs.length : Int) := by omega
              have hk0 : (0 : Int) ≤ (k : Int) := by omega
              obtain ⟨hca, hcb, hcc, hcd⟩ := ride_at HWr.out hz1
              have hzo := HOK.out z1 (List.mem_of_getElem? hz1)
              have HPST := hide (HP.out.trans (pickGo_step hz1))
              by_cases hc100 : z1.c = 100
              · have HP2 := hide (show pickGo ys 0 (-1) (-1) = pickGo (ys.drop (k + 1)) (k + 1) kb m by rw [HPST.out, if_pos hc100])
                have hcb2 : (z1.c == 100) = true := by simpa using hc100
                have HC100 := hide hc100
                clear hc100
                go_wp2_with fail
                go_roundg (xs.length - (k + 1))
                case measure => have := hg3.out; omega
                case rel => exact ⟨k + 1, kb, m, by omega, rfl, rfl, rfl, by go_num, HP2, HB3⟩
              · have hcb2 : (z1.c == 100) = false := by simpa using hc100
                have hup := upR_ok hzo hc100
                have HBA := hide (HB3.out.alloc HB3.out.size (.cells #[.int .i64 z1.a, .int .i64 z1.b, .int .i64 z1.c, .int .i64 z1.d] 83))
                have X1 := hide (BoxN.new wr #[.int .i64 z1.a, .int .i64 z1.b, .int .i64 z1.c, .int .i64 z1.d] 83)
                have zx := X1.out.lt
                have hwr := HB3.out.size
                have HRI := hide fun W (hW : Below wr.heap.size wr W) => specTicks_b z1 gr (k * 4) W hzo ((ride_rat HWr.out hz1).below hW hg2)
                have HRU := hide fun W (hX : BoxN W wr.heap.size #[.int .i64 z1.a, .int .i64 z1.b, .int .i64 (z1.c + 1), .int .i64 z1.d] 83) => specTicks_b (upR z1) wr.heap.size 0 W hup ⟨hX.cell 0, by rw [Nat.zero_add]; exact hX.cell 1, by rw [Nat.zero_add]; exact hX.cell 2, by rw [Nat.zero_add]; exact hX.cell 3⟩
                have l1 := ticksR_pos hzo
                have l2 := ticksR_le hzo
                have l3 := ticksR_pos hup
                have l4 := ticksR_le hup
                obtain ⟨⟨_, _⟩, ⟨_, _⟩, ⟨c1, c2⟩, _, _⟩ := okR_bd hzo
                have HC100 := hide hc100
                obtain ⟨ta, hta⟩ : ∃ ta, ta = ticksR z1 := ⟨_, rfl⟩
                obtain ⟨tb, htb⟩ : ∃ tb, tb = ticksR (upR z1) := ⟨_, rfl⟩
                rw [← hta] at HRI HPST l1 l2
                rw [← htb] at HRU HPST l3 l4
                clear hc100 hup hzo hta htb hz1
                have e1 : IntKind.i64.wrap (z1.c + 1) = z1.c + 1 := wrap_in (by omega) (by omega)
                have e2 : IntKind.i64.wrap (ta - tb) = ta - tb := wrap_in (by omega) (by omega)
                go_upto_region 20 with fail
                have hwa : wr.heap.size + 1 = (wr.alloc (.cells #[.int .i64 z1.a, .int .i64 z1.b, .int .i64 z1.c, .int .i64 z1.d] 83)).heap.size := by simp
                have HCA := hide (show Below wr.heap.size wr (wr.alloc (.cells #[.int .i64 z1.a, .int .i64 z1.b, .int .i64 z1.c, .int .i64 z1.d] 83)) from (Below.refl _ _).alloc (Nat.le_refl _) _)
                generalize wr.alloc (.cells #[.int .i64 z1.a, .int .i64 z1.b, .int .i64 z1.c, .int .i64 z1.d] 83) = wa at *
                have k2 := X1.out.cell 2
                have n2 := X1.out.fro 2
                have X7 : Hid (BoxN (wa.setCell ⟨wr.heap.size, 2, none⟩ (.int .i64 (z1.c + 1))) wr.heap.size #[.int .i64 z1.a, .int .i64 z1.b, .int .i64 (z1.c + 1), .int .i64 z1.d] 83) := hide (X1.out.set 2 (.int .i64 (z1.c + 1)))
                have B7 := hide (HBA.out.setCell (p := ⟨wr.heap.size, 2, none⟩) hwr (.int .i64 (z1.c + 1)))
                have C7 := hide (HCA.out.setCell (p := ⟨wr.heap.size, 2, none⟩) (Nat.le_refl _) (.int .i64 (z1.c + 1)))
                clear hca hcb hcc hcd
                go_upto_region 21 with fail
                generalize wa.setCell ⟨wr.heap.size, 2, none⟩ (.int .i64 (z1.c + 1)) = w7 at *
                have z7 := X7.out.lt
                clear k2 n2 zx
                by_cases hown : m < ta - tb
                · have HP2 := hide (show pickGo ys 0 (-1) (-1) = pickGo (ys.drop (k + 1)) (k + 1) k (ta - tb) by rw [HPST.out, if_neg HC100.out, if_pos hown])
                  go_wp2_with (first | (go_at_call 127; with_reducible refine (HRI.out _ C7.out).mono ?_; rintro e w8 ⟨rfl, s8⟩; have X8 := hide (X7.out.below s8 z7); have B8 := hide (B7.out.trans (s8.mono B7.out.size)); clear s8) | (go_at_call 127; with_reducible refine (HRU.out _ X8.out).mono ?_; rintro e w9 ⟨rfl, s9⟩))
                  go_roundg (xs.length - (k + 1))
                  case measure => have := hg3.out; omega
                  case rel => exact ⟨k + 1, k, ta - tb, by omega, rfl, rfl, rfl, by go_num, HP2, hide (B8.out.trans (s9.mono B8.out.size))⟩
                · have HP2 := hide (show pickGo ys 0 (-1) (-1) = pickGo (ys.drop (k + 1)) (k + 1) kb m by rw [HPST.out, if_neg HC100.out, if_neg hown])
                  go_wp2_with (first | (go_at_call 127; with_reducible refine (HRI.out _ C7.out).mono ?_; rintro e w8 ⟨rfl, s8⟩; have X8 := hide (X7.out.below s8 z7); have B8 := hide (B7.out.trans (s8.mono B7.out.size)); clear s8) | (go_at_call 127; with_reducible refine (HRU.out _ X8.out).mono ?_; rintro e w9 ⟨rfl, s9⟩))
                  go_roundg (xs.length - (k + 1))
                  case measure => have := hg3.out; omega
                  case rel => exact ⟨k + 1, kb, m, by omega, rfl, rfl, rfl, by go_num, HP2, hide (B8.out.trans (s9.mono B8.out.size))⟩
            · obtain rfl : k = xs.length := by omega
              have hpe := HP.out.trans (by rw [List.drop_eq_nil_of_le (by omega), pickGo])
              have hlaw := pickGo_law2 (xs := ys) 0 (-1) (-1)
              have hst := HST2.out
              rw [hpe] at hlaw hst
              dsimp only at hlaw hst
              have HWr := hide (own_below HW.out HB3.out (Nat.le_refl _))
              rcases hlaw with ⟨hkb, _⟩ | ⟨j, z1, hkb, hz1, hc100, hm⟩
              · have HE := hide (show pressGo t0 801 ys0 = ([], 3) by rw [hst, if_pos (by omega)])
                have hneg : kb < 0 := by omega
                clear hst hpe hkb
                go_wp2_with fail
                go_ret2
                exact ⟨_, by rw [HK.out, HE.out]; rfl, by rw [HK.out, HE.out]; exact O_Int64S.nil _ _ _ _ _, HB.out.trans (HB3.out.mono HB.out.size)⟩
              · rw [Nat.zero_add] at hkb
                subst hkb
                have hjl := lt_of_get hz1
                rcases own_block HWr.out with ⟨_, h0, _⟩ | ⟨gr, rfl, hg1, hg2⟩
                · omega
                rw [if_neg (by omega), Int.toNat_natCast, hz1] at hst
                dsimp only at hst
                have HS2 := hide hst
                have hzo := HOK.out z1 (List.mem_of_getElem? hz1)
                obtain ⟨⟨_, _⟩, ⟨_, _⟩, ⟨c1, c2⟩, _, _⟩ := okR_bd hzo
                have hup := upR_ok hzo hc100
                have l1 := ticksR_pos hzo
                have l2 := ticksR_le hzo
                have l3 := ticksR_pos hup
                have l4 := ticksR_le hup
                have e1 : IntKind.i64.wrap (z1.c + 1) = z1.c + 1 := wrap_in (by omega) (by omega)
                have e2 : IntKind.i64.wrap (sy - m) = sy - m := wrap_in (by omega) (by omega)
                have HSM := hide (show sumR (ys.set j (upR z1)) = sy - m by rw [HSS.out j z1 hz1, hm])
                have hj0 : (0 : Int) ≤ (j : Int) := by omega
                have hj1 : (j : Int) < (xs.length : Int) := by omega
                obtain ⟨_, _, hcc, _⟩ := ride_at HWr.out hz1
                have hset := ride_set HWr.out hz1 (z1.c + 1)
                have HSET := hide hset.1
                have hfr := HWr.out.frozenAt (j * 4 + 2)
                have HB6 := hide ((HB.out.trans (HB3.out.mono HB.out.size)).setCell (p := ⟨gr, j * 4 + 2, none⟩) hg1 (.int .i64 (z1.c + 1)))
                have HFU2 := hide (show (fu : Int) + sumC (ys.set j (upR z1)) = 801 + xs.length by have := HFU.out; rw [sumC_set hz1]; omega)
                have HOK2 := hide (show ∀ x ∈ ys.set j (upR z1), okR x = true from fun q hq => by
                  rcases mem_set_or hq with rfl | hq
                  · exact hup
                  · exact HOK.out q hq)
                clear hst hset hz1 hzo hup hc100 hpe HST2 HP hm HSS l1 l2 l3 l4
                go_wp2_with fail
                go_roundg fu
                case measure => have := hg.out; omega
                case rel => exact ⟨fu, ys.set j (upR z1), by rw [HSM.out], rfl, by rw [List.length_set]; exact hyl2, HFU2, HOK2, HS2, HSET, HB6⟩
end Go.Proofs.Ytlkccijlbeibjaa
namespace Go.Proofs.Ytlkccijlbeibjaa
open Go.RowKit

theorem Only.cell' {lo hi : Nat} {w w' : World} (h : Only lo hi w w') {p : Addr} (h1 : p.block < w.heap.size) (h2 : p.block < lo ∨ hi ≤ p.block) : w'.cell? p = w.cell? p :=
  World.cell?_of_block (h.2.2.2.2 p.block h1 h2)
set_option maxRecDepth 100000 in
set_option maxHeartbeats 1000000 in
theorem one_any (b : Nat) (bs : List Int) (N n : Int) (w : World) (hbs : BsOk bs) (hN : N ≤ 1099511000000) (h : SrcAt b bs N w) :
    Calls Try.prog 102 #[.pointer (some ⟨b, 0, none⟩), .int .i64 n] w fun e w' => ∃ v, e = .returned (.bool v) ∧ SrcAt b bs (N + 2) w' ∧ Only b (b + 1) w w' := by
  have HC := hide (pick_any b bs N n w hbs hN h)
  clear h
  go_enter Try.func102, Try.ntmps102
  go_wp2_with (go_at_call 94; refine (HC.out).mono ?_; rintro e w1 ⟨z, rfl, _, hs1, ho1⟩)
  go_ret
  exact ⟨_, rfl, hs1, ho1⟩
set_option maxRecDepth 100000 in
set_option maxHeartbeats 1000000 in
theorem among_any (b : Nat) (bs : List Int) (N : Int) (g o c : Nat) (xs : List Int) (w : World) (hbs : BsOk bs) (hN : N ≤ 1099511000000) (h : SrcAt b bs N w) (hg : g ≠ b) (hgl : g < w.heap.size) (hx0 : 1 ≤ xs.length) (hx1 : xs.length ≤ 1000) (hr : ∀ j z, xs[j]? = some z → w.cell? ⟨g, o + j, none⟩ = some (.int .i64 z)) :
    Calls Try.prog 82 #[.pointer (some ⟨b, 0, none⟩), .slice (some ⟨g, o, none⟩) xs.length c] w fun e w' => ∃ z, e = .returned (.int .i64 z) ∧ z ∈ xs ∧ SrcAt b bs (N + 2) w' ∧ Only b (b + 1) w w' := by
  have HC := hide (pick_any b bs N (xs.length : Int) w hbs hN h)
  have HR := hide hr
  clear h hr
  go_enter Try.func82, Try.ntmps82
  go_wp2_with (go_at_call 94; refine (HC.out).mono ?_; rintro e w1 ⟨z, rfl, ⟨hz0, hz1, _⟩, hs1, ho1⟩; have hz9 := hz1 (by omega); obtain ⟨j, rfl⟩ := Int.eq_ofNat_of_zero_le hz0; have hj : j < xs.length := (by omega); have hej := List.getElem?_eq_getElem hj; have hcj := (ho1.cell' (p := ⟨g, o + j, none⟩) hgl (by dsimp only; omega)).trans (HR.out j _ hej); have HEJ := hide hej; clear hej)
  go_ret
  exact ⟨_, rfl, List.mem_of_getElem? HEJ.out, hs1, ho1⟩
end Go.Proofs.Ytlkccijlbeibjaa
namespace Go.Proofs.Ytlkccijlbeibjaa
open Go.RowKit

theorem grown_setC (w : World) (b j : Nat) (v : Value) : w.grownBy (w.setCell ⟨b, j, none⟩ v) (some b) :=
  ⟨rfl, rfl, rfl, by simp, fun k _ ho => heap_setCell_other w ⟨b, j, none⟩ _ v (fun e => ho (by rw [e]))⟩
theorem only_grown {lo hi : Nat} {w0 w w' : World} {row : Option Nat} (h : Only lo hi w0 w) (hg : w.grownBy w' row) (hr : ∀ g, row = some g → w0.heap.size ≤ g) : Only lo hi w0 w' :=
  ⟨hg.os.trans h.1, hg.tape.trans h.2.1, hg.output.trans h.2.2.1, Nat.le_trans h.size hg.size, fun i hi' ho' => (hg.block i (Nat.lt_of_lt_of_le hi' h.size) (fun e => by have := hr i e.symm; omega)).trans (h.2.2.2.2 i hi' ho')⟩
end Go.Proofs.Ytlkccijlbeibjaa
namespace Go.Proofs.Ytlkccijlbeibjaa
open Go.RowKit

set_option maxRecDepth 100000 in
set_option maxHeartbeats 1000000 in
theorem f6ints_any (xs ys : List Int) (A1 A2 : Option Addr) (c1 c2 : Nat) (w : World) (hx : xs.length ≤ 9223372036854775807) (hy : ys.length ≤ 9223372036854775807)
    (h1 : RdI w w.heap.size A1 xs) (h2 : RdI w w.heap.size A2 ys) :
    Calls Try.prog 42 #[.slice A1 xs.length c1, .slice A2 ys.length c2] w fun e w' => e = .returned (.bool (decide (xs = ys))) ∧ Below w.heap.size w w' := by
  by_cases hl : xs.length = ys.length
  · have hB : ((xs.length : Int) != ys.length) = false := by simp [hl]
    have HL := hide hl; clear hl
    go_enter Try.func42, Try.ntmps42
    go_wp2_with fail
    go_loopg [5] xs.length (fun g i wr => ∃ k : Nat, k ≤ xs.length ∧ g = xs.length - k ∧ i = .int .i64 k ∧ Below w.heap.size w wr ∧ Hid (xs = ys ↔ xs.drop k = ys.drop k))
    case atStart => exact ⟨0, by omega, by omega, rfl, Below.refl _ _, by simp [Hid]⟩
    case round =>
      obtain ⟨k, hk, hg, rfl, hb, HE⟩ := hrel
      by_cases hlt : k < xs.length
      · have hlt2 : k < ys.length := by have := HL.out; omega
        obtain ⟨b1, o1, z1, rfl, _, hz1, hc1⟩ := (h1.below hb).at_ hlt
        obtain ⟨b2, o2, z2, rfl, _, hz2, hc2⟩ := (h2.below hb).at_ hlt2
        have Z1 := hide hz1; have Z2 := hide hz2; clear hz1 hz2 h1 h2
        have HG := hide hg; clear hg
        by_cases he : z1 = z2
        · subst he
          go_wp2_with fail
          go_quiet (fail)
          go_wp2_with fail
          go_roundg (xs.length - (k + 1))
          case measure => have := HG.out; omega
          case rel =>
            refine ⟨k + 1, by omega, rfl, by go_num, bdn hb _, ?_⟩
            have h := HE.out
            rw [drop_cons Z1.out, drop_cons Z2.out] at h
            exact hide (by simpa using h)
        · have hd : (z1 != z2) = true := by simp [he]
          go_wp2_with fail
          go_quiet (fail)
          go_wp2_with fail
          go_ret
          refine ⟨ret_b ?_, bdn hb _⟩
          have h := HE.out
          rw [drop_cons Z1.out, drop_cons Z2.out] at h
          simp [he] at h
          simp [h]
      · go_wp2_with fail
        go_ret
        refine ⟨ret_b ?_, hb⟩
        have h := HE.out
        rw [List.drop_eq_nil_of_le (by omega), List.drop_eq_nil_of_le (by have := HL.out; omega)] at h
        simpa using h
  · have hB : ((xs.length : Int) != ys.length) = true := by simp; omega
    have HL := hide hl; clear hl
    go_enter Try.func42, Try.ntmps42
    go_wp2_with fail
    go_ret
    exact ⟨ret_b (by simp; intro e; exact HL.out (by rw [e])), Below.refl _ _⟩
theorem f6big_any (A : Option Addr) (n c : Nat) (w : World) (hn : n ≤ 4096) :
    Calls Try.prog 26 #[.slice A n c] w fun e w' => e = .returned (.bool false) ∧ w = w' := by
  have hD : decide ((4096 : Int) < (n : Int)) = false := decide_eq_false (by omega)
  go_enter Try.func26, Try.ntmps26
  go_wp2_with fail
  go_ret
  exact ⟨rfl, rfl⟩
theorem below_src' {w w1 w2 : World} (h : Below w.heap.size w w1) (k : Only w.heap.size (w.heap.size + 1) w1 w2) : Below w.heap.size w w2 := h.trans (k.below (Nat.le_refl _) h.size)
end Go.Proofs.Ytlkccijlbeibjaa
namespace Go.Proofs.Ytlkccijlbeibjaa
open Go.RowKit
end Go.Proofs.Ytlkccijlbeibjaa
