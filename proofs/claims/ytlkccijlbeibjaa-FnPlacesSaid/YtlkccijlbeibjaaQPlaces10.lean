/-
  Drawn times and ways.
  Drawn wishes.
  Rides in the program: the best pressures.
-/
import Derived.Test.YtlkccijlbeibjaaQPlaces9
import Derived.Test.YtlkccijlbeibjaaQPlaces4
namespace Go.Proofs.Ytlkccijlbeibjaa
open Go.RowKit

theorem row_only {w w' : World} {lo hi base : Nat} {e : TypeId} {s n : Nat} {v : Value} {xs : List Value} (h : w.ownsRow base e s v n xs) (k : Only lo hi w w') (hd : hi ≤ base) : w'.ownsRow base e s v n xs := by
  refine ⟨h.1, ?_⟩
  rcases h.2 with h0 | ⟨g, cap, cur, he, hb, hg, rest⟩
  · exact .inl h0
  · exact .inr ⟨g, cap, cur, he, hb, (k.2.2.2.2 g (lt_of_block hg) (by omega)).trans hg, rest⟩
theorem only_app {lo hi base : Nat} {w0 w w' : World} {e : TypeId} {s n : Nat} {v : Value} {xs : List Value} (h : Only lo hi w0 w) (ho : w.ownsRow base e s v n xs) (hg : w.grownBy w' v.ownBlock) (hB : w0.heap.size ≤ base) : Only lo hi w0 w' :=
  ⟨hg.os.trans h.1, hg.tape.trans h.2.1, hg.output.trans h.2.2.1, Nat.le_trans h.size hg.size, fun i hi' ho' => (hg.block i (Nat.lt_of_lt_of_le hi' h.size) (fun e => by have := (ho.lt i e.symm).1; omega)).trans (h.2.2.2.2 i hi' ho')⟩
theorem only_alloc {lo hi : Nat} {w0 w : World} (h : Only lo hi w0 w) (o : Obj) : Only lo hi w0 (w.alloc o) := only_trans h (only_of_below ((Below.refl _ _).alloc (Nat.le_refl _) o))
theorem SrcAt.grown {b : Nat} {bs : List Int} {N : Int} {W W' : World} {row : Option Nat} (h : SrcAt b bs N W) (hg : W.grownBy W' row) (hr : ∀ g, row = some g → b < g) : SrcAt b bs N W' :=
  h.below (B := b + 1) ⟨hg.os, hg.tape, hg.output, hg.size, fun k hk => hg.block k (by have := h.lt; omega) (fun e => by have := hr k e.symm; omega)⟩ (Nat.lt_succ_self b)
theorem SrcAt.alloc {b : Nat} {bs : List Int} {N : Int} {W : World} (h : SrcAt b bs N W) (o : Obj) : SrcAt b bs N (W.alloc o) := h.below ((Below.refl _ _).alloc (Nat.le_refl _) o) h.lt
end Go.Proofs.Ytlkccijlbeibjaa
namespace Go.Proofs.Ytlkccijlbeibjaa
open Go.RowKit

theorem BoxN.only {w w' : World} {b lo hi : Nat} {cs : Array Value} {e : TypeId} (h : BoxN w b cs e) (k : Only lo hi w w') (hd : b < lo ∨ hi ≤ b) : BoxN w' b cs e := (k.2.2.2.2 b h.lt hd).trans h
theorem only_setNew {lo hi : Nat} {w0 w : World} (h : Only lo hi w0 w) (a : Addr) (v : Value) (hB : w0.heap.size ≤ a.block) : Only lo hi w0 (w.setCell a v) :=
  ⟨h.1, h.2.1, h.2.2.1, by have := h.size; simpa [World.setCell] using this, fun k hk ho => (Below.heap_setCell _ _ _ _ (by omega)).trans (h.2.2.2.2 k hk ho)⟩
theorem grown_setCell (w : World) (a : Addr) (v : Value) : w.grownBy (w.setCell a v) (some a.block) :=
  ⟨rfl, rfl, rfl, by simp [World.setCell], fun k _ hn => Below.heap_setCell _ _ _ _ (fun e => hn (by rw [e]))⟩
theorem SrcAt.set {b : Nat} {bs : List Int} {N : Int} {W : World} (h : SrcAt b bs N W) (a : Addr) (v : Value) (hb : b < a.block) : SrcAt b bs N (W.setCell a v) :=
  h.below (B := b + 1) ⟨rfl, rfl, rfl, by simp [World.setCell], fun k hk => Below.heap_setCell _ _ _ _ (by omega)⟩ (Nat.lt_succ_self b)
/-- A drawn wish, for n tubes. -/
def WDrawn (n : Nat) (e : TN) : Prop := ((1 ≤ e.way.length ∧ e.way.length ≤ 4) ∧ ∀ z ∈ e.way, 0 ≤ z ∧ z ≤ (n : Int) - 1) ∧ (0 ≤ e.p ∧ e.p ≤ 19) ∧ (0 ≤ e.q ∧ e.q ≤ 78)
end Go.Proofs.Ytlkccijlbeibjaa
namespace Go.Proofs.Ytlkccijlbeibjaa
open Go.RowKit
theorem pickGo_step {ys : List T4} {k : Nat} {z : T4} {b m : Int} (h : ys[k]? = some z) : pickGo (ys.drop k) k b m = if z.c = 100 then pickGo (ys.drop (k + 1)) (k + 1) b m else if m < ticksR z - ticksR (upR z) then pickGo (ys.drop (k + 1)) (k + 1) k (ticksR z - ticksR (upR z)) else pickGo (ys.drop (k + 1)) (k + 1) b m := by
  rw [drop_cons h, pickGo]
theorem ones_get {α : Type} {f : α → α} {xs : List α} {k : Nat} {x : α} (h : xs[k]? = some x) : ((xs.take k).map f ++ xs.drop k)[k]? = some x := by
  have hk := lt_of_get h
  rw [List.getElem?_append_right (by simp; omega), List.length_map, List.length_take, Nat.min_eq_left (by omega), Nat.sub_self, List.getElem?_drop, Nat.add_zero]; exact h
theorem ones_step {α : Type} {f : α → α} {xs : List α} {k : Nat} {x : α} (h : xs[k]? = some x) : ((xs.take k).map f ++ xs.drop k).set k (f x) = (xs.take (k + 1)).map f ++ xs.drop (k + 1) := by
  obtain ⟨hk, hx⟩ := List.getElem?_eq_some_iff.1 h
  rw [List.set_append_right _ _ (by simp; omega), List.length_map, List.length_take, Nat.min_eq_left (by omega), Nat.sub_self, drop_cons h, List.set_cons_zero, List.take_succ_eq_append_getElem hk, hx, List.map_append]
  simp
theorem pressGo_step (goal : Int) (n : Nat) (xs : List T4) : pressGo goal (n + 1) xs = if sumR xs ≤ goal then (xs.map T4.c, 0) else if (pickGo xs 0 (-1) (-1)).1 < 0 then ([], 3) else
    pressGo goal n (match xs[(pickGo xs 0 (-1) (-1)).1.toNat]? with | some x => xs.set (pickGo xs 0 (-1) (-1)).1.toNat (upR x) | none => xs) := by
  rw [pressGo]
  rfl
def sumC (ys : List T4) : Int := (ys.map T4.c).sum
theorem sumC_le {ys : List T4} (h : ∀ x ∈ ys, okR x = true) : sumC ys ≤ ys.length * 100 := by
  induction ys with
  | nil => simp [sumC]
  | cons x xs ih =>
    have h1 := ih fun y hy => h y (List.mem_cons_of_mem _ hy)
    have h2 := okR_bd (h x (List.mem_cons_self ..))
    unfold sumC at *; rw [List.map_cons, List.sum_cons, List.length_cons]; omega
theorem sumC_set {ys : List T4} : ∀ {k : Nat} {x : T4}, ys[k]? = some x → sumC (ys.set k (upR x)) = sumC ys + 1 := by
  induction ys with
  | nil => intro k x h; cases h
  | cons y ys ih =>
    intro k x h
    cases k with
    | zero => simp at h; subst h; simp [sumC, upR]; omega
    | succ k => have := ih (k := k) (x := x) (by simpa using h); unfold sumC at *; simp only [List.set_cons_succ, List.map_cons, List.sum_cons]; omega
theorem sumC_ones (xs : List T4) : sumC (xs.map fun x => setC x 1) = xs.length := by
  induction xs with
  | nil => rfl
  | cons x xs ih => unfold sumC at *; simp only [List.map_cons, List.sum_cons, List.length_cons, ih]; unfold setC; dsimp only; omega
theorem ride_set {w : World} {base : Nat} {e : TypeId} {n c g : Nat} {ys : List T4} (h : w.ownsRow base e 4 (.slice (some ⟨g, 0, none⟩) n c) n (ys.flatMap T4.cells)) {k : Nat} {x : T4} (hx : ys[k]? = some x) (z : Int) :
    (w.setCell ⟨g, k * 4 + 2, none⟩ (.int .i64 z)).ownsRow base e 4 (.slice (some ⟨g, 0, none⟩) n c) n ((ys.set k (setC x z)).flatMap T4.cells) ∧ w.grownBy (w.setCell ⟨g, k * 4 + 2, none⟩ (.int .i64 z)) (some g) := by
  have := h.stored (k * 4 + 2) (.int .i64 z)
  rw [flatMap_set T4.cells 4 (fun _ => rfl) ys k 2 x (setC x z) (.int .i64 z) hx (by omega) rfl] at this
  exact this
theorem ride_at {w : World} {base : Nat} {e : TypeId} {n c g : Nat} {ys : List T4} (h : w.ownsRow base e 4 (.slice (some ⟨g, 0, none⟩) n c) n (ys.flatMap T4.cells)) {k : Nat} {x : T4} (hx : ys[k]? = some x) :
    w.cell? ⟨g, k * 4, none⟩ = some (.int .i64 x.a) ∧ w.cell? ⟨g, k * 4 + 1, none⟩ = some (.int .i64 x.b) ∧ w.cell? ⟨g, k * 4 + 2, none⟩ = some (.int .i64 x.c) ∧ w.cell? ⟨g, k * 4 + 3, none⟩ = some (.int .i64 x.d) := by
  have hl := h.1
  rw [flatMap_len T4.cells 4 (fun _ => rfl)] at hl
  have hk := lt_of_get hx
  have G := fun j hj => flatMap_get T4.cells 4 (fun _ => rfl) ys k j x hx hj
  refine ⟨?_, ?_, ?_, ?_⟩
  · have := h.cellAt (k * 4) (by omega); rw [this]; exact G 0 (by omega)
  · rw [h.cellAt (k * 4 + 1) (by omega)]; exact G 1 (by omega)
  · rw [h.cellAt (k * 4 + 2) (by omega)]; exact G 2 (by omega)
  · rw [h.cellAt (k * 4 + 3) (by omega)]; exact G 3 (by omega)
set_option maxRecDepth 100000 in
set_option maxHeartbeats 8000000 in
theorem implBestPressures_any (xs : List T4) (t0 : Int) (A : Option Addr) (c : Nat) (w : World) (hl : xs.length ≤ 1048576) (h : Rd4 w w.heap.size A xs) :
    Calls Try.prog 51 #[.slice A xs.length c, .int .i64 t0] w fun e w' => ∃ r, e = .returned (.tuple #[r, .int .i64 (bestPress xs t0).2]) ∧ O_Int64S w' w.heap.size w'.heap.size r (bestPress xs t0).1 ∧ Below w.heap.size w w' := by
  obtain ⟨i0, hi0, hz0, hs0, hb0⟩ := info_parts int64_info
  have HV := hide (implValidRides_any xs A c w hl h)
  obtain ⟨ok, hok⟩ : ∃ ok, ok = okRs xs := ⟨_, rfl⟩
  rw [← hok] at HV
  by_cases hc : tickCode ok t0 = 0
  case neg =>
    have HK := hide (show bestPress xs t0 = ([], tickCode ok t0) by unfold bestPress; rw [← hok, if_neg hc])
    have HT := hide fun W => implTicksCode_any ok t0 W
    generalize tickCode ok t0 = cd at *
    have hcb : (cd != 0) = true := by simpa using hc
    clear h hok
    go_enter Try.func51, Try.ntmps51
    go_wp2_with (first | (go_at_call 122; refine (HV.out).mono ?_; rintro e w2 ⟨rfl, s2⟩) | (go_at_call 121; refine (HT.out _).mono ?_; rintro e w3 ⟨rfl, rfl⟩))
    go_ret2
    exact ⟨_, by rw [HK.out]; rfl, by rw [HK.out]; exact O_Int64S.nil _ _ _ _ _, s2⟩
  have hokt : ok = true := by
    cases ok
    · unfold tickCode at hc; rw [if_pos rfl] at hc; cases hc
    · rfl
  have hin : 0 ≤ t0 ∧ t0 ≤ 1000000 := by
    rw [hokt] at hc; unfold tickCode at hc; rw [if_neg (by simp)] at hc
    split at hc
    · cases hc
    · rename_i h1; exact inB_iff.1 (by simpa using h1)
  obtain ⟨h8, hx⟩ := okRs_iff.1 (hok.symm.trans hokt)
  have HK := hide (show bestPress xs t0 = pressGo t0 801 (xs.map fun x => setC x 1) by unfold bestPress; rw [← hok, if_pos hc])
  have HT := hide fun W => implTicksCode_any ok t0 W
  rw [hc] at HT
  have HC := hide fun W (hW : Below w.heap.size w W) => cloneRide_any xs A c W hl ((h.below hW).more hW.size)
  have hx1 : ∀ x ∈ xs.map (fun x => setC x 1), okR x = true := fun z hz => by
    obtain ⟨x, hm, rfl⟩ := List.mem_map.1 hz
    have := okR_iff.1 (hx x hm)
    rw [okR_iff]; unfold setC; dsimp only; omega
  have HO1 := hide hx1
  obtain ⟨ht1, ht2⟩ := hin
  clear h hok hx hc hokt hx1
  go_enter Try.func51, Try.ntmps51
  go_upto_region 5 with (first | (go_at_call 122; refine (HV.out).mono ?_; rintro e w2 ⟨rfl, s2⟩) | (go_at_call 121; refine (HT.out _).mono ?_; rintro e w3 ⟨rfl, rfl⟩) | (go_at_call 132; refine (HC.out _ s2).mono ?_; rintro e w4 ⟨A4, c4, rfl, hown4, s4⟩))
  have B4 := hide (s2.trans (s4.mono s2.size))
  have HOW := hide (own_base hown4 s2.size)
  clear s2 s4 hown4 HV HT HC
  go_wp2_with fail
  go_loopg [29] xs.length (fun g i wr => ∃ k : Nat, k ≤ xs.length ∧ Hid (g = xs.length - k) ∧ i = .int .i64 k ∧ Hid (wr.ownsRow w.heap.size 83 4 (.slice A4 xs.length c4) xs.length (((xs.take k).map (fun x => setC x 1) ++ xs.drop k).flatMap T4.cells)) ∧ Hid (Below w.heap.size w wr))
  case atStart => exact ⟨0, Nat.zero_le _, by simp [Hid], rfl, by simpa using HOW, B4⟩
  case round =>
    obtain ⟨k, hk, hg, rfl, HW, HB⟩ := hrel
    clear HOW B4
    by_cases hlt : k < xs.length
    · obtain ⟨z1, hz1⟩ : ∃ z1, xs[k]? = some z1 := ⟨_, List.getElem?_eq_getElem hlt⟩
      rcases own_block HW.out with ⟨_, h0, _⟩ | ⟨gr, rfl, hg1, hg2⟩
      · omega
      have hlt' : (k : Int) < (xs.length : Int) := by omega
      obtain ⟨_, _, hcc, _⟩ := ride_at HW.out (ones_get (f := fun x => setC x 1) hz1)
      have hst := ride_set HW.out (ones_get (f := fun x => setC x 1) hz1) 1
      rw [ones_step (f := fun x => setC x 1) hz1] at hst
      have HST := hide hst.1
      have hfr := HW.out.frozenAt (k * 4 + 2)
      have HB2 := hide (HB.out.setCell (p := ⟨gr, k * 4 + 2, none⟩) hg1 (.int .i64 1))
      clear hst hz1
      go_wp2_with fail
      go_roundg (xs.length - (k + 1))
      case measure => have := hg.out; omega
      case rel => exact ⟨k + 1, by omega, rfl, by go_num, HST, HB2⟩
    · obtain rfl : k = xs.length := by omega
      have HW2 : Hid (wr.ownsRow w.heap.size 83 4 (.slice A4 xs.length c4) xs.length ((xs.map fun x => setC x 1).flatMap T4.cells)) := by
        have h := HW.out
        rw [List.take_length, List.drop_length, List.append_nil] at h; exact h
      clear HW
      obtain ⟨wA, hwA⟩ : ∃ q, q = wr := ⟨wr, rfl⟩
      subst hwA
      go_wp2_with fail
      obtain ⟨ys0, hys0⟩ : ∃ ys0, ys0 = xs.map (fun x => setC x 1) := ⟨_, rfl⟩
      have hyl : ys0.length = xs.length := by rw [hys0, List.length_map]
      have hyc : sumC ys0 = xs.length := by rw [hys0]; exact sumC_ones xs
      rw [← hys0] at HW2 HO1 HK
      clear hys0
      go_loopg [] 801 (fun g wr => ∃ (fu : Nat) (ys : List T4), Hid (g = fu) ∧ ys.length = xs.length ∧ Hid ((fu : Int) + sumC ys = 801 + xs.length) ∧ Hid (∀ x ∈ ys, okR x = true) ∧ Hid (pressGo t0 801 ys0 = pressGo t0 fu ys) ∧ Hid (wr.ownsRow w.heap.size 83 4 (.slice A4 xs.length c4) xs.length (ys.flatMap T4.cells)) ∧ Hid (Below w.heap.size w wr))
      case atStart => exact ⟨801, ys0, rfl, hyl, hide (by rw [hyc]; rfl), HO1, rfl, HW2, HB⟩
      case round =>
        obtain ⟨fu, ys, hg, hyl2, HFU, HOK, HS, HW, HB⟩ := hrel
        clear HW2
        obtain ⟨wU, hwU⟩ : ∃ q, q = wr := ⟨wr, rfl⟩
        subst hwU
        have HTS : Hid (Calls Try.prog 131 #[.slice A4 xs.length c4] wU fun e w' => e = .returned (.int .i64 (sumR ys)) ∧ Below wU.heap.size wU w') := by
          have h := implTicksOf_any ys A4 c4 wU (by omega) HOK.out (Rd4.of_own HW.out)
          rw [hyl2] at h; exact h
        have hlb := sumC_le HOK.out
        rw [hyl2] at hlb
        obtain ⟨fu, rfl⟩ : ∃ f, fu = f + 1 := ⟨fu - 1, by have := HFU.out; omega⟩
        have HST := hide (HS.out.trans (pressGo_step t0 fu ys))
        clear hlb HS
        by_cases hgo : sumR ys ≤ t0
        · have HE := hide (show pressGo t0 801 ys0 = (ys.map T4.c, 0) by rw [HST.out, if_pos hgo])
          clear HST
          go_upto_region 25 with (go_at_call 131; refine (HTS.out).mono ?_; rintro e w5 ⟨rfl, s5⟩)
          have HW5 := hide (own_below HW.out s5 (Nat.le_refl _))
          have B5 := hide (HB.out.trans (s5.mono HB.out.size))
          have ho1 := own_new0 w5 w5.heap.size 2 1 (Nat.le_refl _)
          have B6 : Below w5.heap.size w5 (w5.alloc (.cells #[] 2)) := (Below.refl _ _).alloc (Nat.le_refl _) _
          clear hgo HTS s5 HW HB
          go_wp2_with fail
          go_loopg [15, 80] xs.length (fun g s i wr => ∃ k : Nat, k ≤ xs.length ∧ Hid (g = xs.length - k) ∧ i = .int .i64 k ∧ wr.ownsRow w5.heap.size 2 1 s k (((ys.take k).map T4.c).map (Value.int .i64)) ∧ Hid (Below w5.heap.size w5 wr))
          case atStart => exact ⟨0, Nat.zero_le _, by simp [Hid], rfl, by simpa using ho1, B6⟩
          case round =>
            obtain ⟨k, hk, hg3, rfl, hown, HB3⟩ := hrel
            clear ho1 B6
            by_cases hlt : k < xs.length
            · obtain ⟨z1, hz1⟩ : ∃ z1, ys[k]? = some z1 := ⟨_, List.getElem?_eq_getElem (by omega)⟩
              have HWr := hide (own_below HW5.out HB3.out (Nat.le_refl _))
              rcases own_block HWr.out with ⟨_, h0, _⟩ | ⟨gr, rfl, hg1, hg2⟩
              · omega
              have hlt' : (k : Int) < (xs.length : Int) := by omega
              obtain ⟨hca, hcb, hcc, hcd⟩ := ride_at HWr.out hz1
              have hkl : k + 1 ≤ 8 := by omega
              have hnx : ((ys.take (k + 1)).map T4.c).map (Value.int .i64) = ((ys.take k).map T4.c).map (Value.int .i64) ++ [.int .i64 z1.c] := by
                obtain ⟨hkl, rfl⟩ := List.getElem?_eq_some_iff.1 hz1
                rw [List.take_succ_eq_append_getElem hkl, List.map_append, List.map_append]; rfl
              have HNX := hide hnx
              have HOA := hown.alloc (.cells #[.int .i64 z1.a, .int .i64 z1.b, .int .i64 z1.c, .int .i64 z1.d] 83)
              have HBA := hide (HB3.out.alloc HB3.out.size (.cells #[.int .i64 z1.a, .int .i64 z1.b, .int .i64 z1.c, .int .i64 z1.d] 83))
              have X1 := hide (BoxN.new wr #[.int .i64 z1.a, .int .i64 z1.b, .int .i64 z1.c, .int .i64 z1.d] 83)
              clear hz1 hnx hown
              go_upto_region 29 with fail
              generalize wr.alloc (.cells #[.int .i64 z1.a, .int .i64 z1.b, .int .i64 z1.c, .int .i64 z1.d] 83) = wa at *
              have k2 := X1.out.cell 2
              have hza := HBA.out.size
              clear hca hcb hcc hcd
              go_wp2_with (at_builtin; go_must (refine wp_app _ rfl _ _ 22 rfl (w5.heap.size) 2 i0 (.int .i64 0) 1 8 Try.underlying22 hi0 hz0 hs0 hb0 rfl (by decide) _ _ _ rfl (HOA.alloc _) _ _ 1 1 [.int .i64 z1.c] rfl rfl (rd_new _ _ _ _ (by simp)) (int_one _) (by omega) (by decide) (by simp <;> omega) ?_); intro v' w6 hown' hgrow hat)
              have hb4 := app_below (HBA.out.alloc hza _) (HOA.alloc _) hgrow (Nat.le_refl _) (by simp <;> omega)
              go_roundg (xs.length - (k + 1))
              case measure => have := hg3.out; omega
              case rel => exact ⟨k + 1, by omega, rfl, by go_num, by rw [HNX.out]; exact hown', hb4⟩
            · obtain rfl : k = xs.length := by omega
              go_wp2_with fail
              go_ret2
              have e : ys.take xs.length = ys := by rw [← hyl2, List.take_length]
              rw [e] at hown
              refine ⟨_, by rw [HK.out, HE.out]; rfl, ?_, B5.out.trans (HB3.out.mono B5.out.size)⟩
              rw [HK.out, HE.out]
              have hlen : (ys.map T4.c).length = xs.length := by rw [List.length_map]; exact hyl2
              refine O_Int64S.widen (lo := w5.heap.size) (hi := wr.heap.size) ?_ B5.out.size (Nat.le_refl _)
              show OwnV _ _ _ _ _ _ (ys.map T4.c).length _
              rw [hlen]
              exact OwnV.of_row hown (by omega)
        · have HST2 := hide (show pressGo t0 801 ys0 = _ by rw [HST.out, if_neg hgo])
          clear HST
          have hgo' : t0 < sumR ys := by omega
          go_upto_region 12 with (go_at_call 131; refine (HTS.out).mono ?_; rintro e w5 ⟨rfl, s5⟩)
          have HW5 := hide (own_below HW.out s5 (Nat.le_refl _))
          have B5 := hide (HB.out.trans (s5.mono HB.out.size))
          clear hgo HTS s5 HW HB hgo'
          go_wp2_with fail
          go_loopg [9, 10, 43] xs.length (fun g bv mv i wr => ∃ (k : Nat) (kb m : Int), k ≤ xs.length ∧ Hid (g = xs.length - k) ∧ bv = .int .i64 kb ∧ mv = .int .i64 m ∧ i = .int .i64 k ∧ Hid (pickGo ys 0 (-1) (-1) = pickGo (ys.drop k) k kb m) ∧ Hid (Below w5.heap.size w5 wr))
          case atStart => exact ⟨0, -1, -1, Nat.zero_le _, by simp [Hid], rfl, rfl, rfl, by simp [Hid], hide (Below.refl _ _)⟩
          case round =>
            obtain ⟨k, kb, m, hk, hg3, rfl, rfl, rfl, HP, HB3⟩ := hrel
            by_cases hlt : k < xs.length
            · obtain ⟨z1, hz1⟩ : ∃ z1, ys[k]? = some z1 := ⟨_, List.getElem?_eq_getElem (by omega)⟩
              have HWr := hide (own_below HW5.out HB3.out (Nat.le_refl _))
              rcases own_block HWr.out with ⟨_, h0, _⟩ | ⟨gr, rfl, hg1, hg2⟩
              · omega
              have hlt' : (k : Int) < (xs.length : Int) := by omega
              obtain ⟨hca, hcb, hcc, hcd⟩ := ride_at HWr.out hz1
              have hzo := HOK.out z1 (List.mem_of_getElem? hz1)
              have hpst := HP.out.trans (pickGo_step hz1)
              have HPST := hide hpst
              have HBA := hide (HB3.out.alloc HB3.out.size (.cells #[.int .i64 z1.a, .int .i64 z1.b, .int .i64 z1.c, .int .i64 z1.d] 83))
              have X1 := hide (BoxN.new wr #[.int .i64 z1.a, .int .i64 z1.b, .int .i64 z1.c, .int .i64 z1.d] 83)
              have zx := X1.out.lt
              have hwq := HB3.out.size
              clear hz1 hpst
              go_upto_region 15 with fail
              generalize wr.alloc (.cells #[.int .i64 z1.a, .int .i64 z1.b, .int .i64 z1.c, .int .i64 z1.d] 83) = wa at *
              have k0 := X1.out.cell 0
              have k1 := X1.out.cell 1
              have k2 := X1.out.cell 2
              have k3 := X1.out.cell 3
              clear hca hcb hcc hcd
              by_cases hc100 : z1.c = 100
              · have HP2 := hide (show pickGo ys 0 (-1) (-1) = pickGo (ys.drop (k + 1)) (k + 1) kb m by rw [HPST.out, if_pos hc100])
                have hcb2 : (z1.c == 100) = true := by simpa using hc100
                have HC100 := hide hc100
                clear hc100
                go_wp2_with fail
                go_roundg (xs.length - (k + 1))
                case measure => have := hg3.out; omega
                case rel => exact ⟨k + 1, kb, m, by omega, rfl, rfl, rfl, by go_num, HP2, HBA⟩
              · have hcb2 : (z1.c == 100) = false := by simpa using hc100
                have hup := upR_ok hzo hc100
                have HT1 := hide fun W => ticks_any z1 W hzo
                have HT2 := hide (show ∀ W, Calls Try.prog 123 #[.agg #[.int .i64 z1.a, .int .i64 z1.b, .int .i64 (z1.c + 1), .int .i64 z1.d]] W fun e w' => e = .returned (.int .i64 (ticksR (upR z1))) ∧ Below W.heap.size W w' from fun W => ticks_any (upR z1) W hup)
                have l1 := ticksR_pos hzo
                have l2 := ticksR_le hzo
                have l3 := ticksR_pos hup
                have l4 := ticksR_le hup
                obtain ⟨⟨_, _⟩, ⟨_, _⟩, ⟨c1, c2⟩, _, _⟩ := okR_bd hzo
                have HC100 := hide hc100
                obtain ⟨ta, hta⟩ : ∃ ta, ta = ticksR z1 := ⟨_, rfl⟩
                obtain ⟨tb, htb⟩ : ∃ tb, tb = ticksR (upR z1) := ⟨_, rfl⟩
                rw [← hta] at HT1 HPST l1 l2
                rw [← htb] at HT2 HPST l3 l4
                clear hc100 hup hzo hta htb
                have e1 : IntKind.i64.wrap (z1.c + 1) = z1.c + 1 := wrap_in (by omega) (by omega)
                have e2 : IntKind.i64.wrap (ta - tb) = ta - tb := wrap_in (by omega) (by omega)
                go_upto_region 17 with (go_at_call 123; refine (HT1.out _).mono ?_; rintro e w6 ⟨rfl, s6⟩)
                have X6 := hide (X1.out.below s6 (by omega))
                have B6 := hide (HBA.out.trans (s6.mono HBA.out.size))
                have z6 := s6.size
                clear k0 k1 k2 k3 s6
                have k2 := X6.out.cell 2
                have n2 := X6.out.fro 2
                have X7 := hide (X6.out.set 2 (.int .i64 (z1.c + 1)))
                have B7 := hide (B6.out.setCell (p := ⟨wr.heap.size, 2, none⟩) hwq (.int .i64 (z1.c + 1)))
                go_upto_region 18 with fail
                generalize w6.setCell ⟨wr.heap.size, 2, none⟩ (.int .i64 (z1.c + 1)) = w7 at *
                have j0 : w7.cell? ⟨wr.heap.size, 0, none⟩ = some (.int .i64 z1.a) := X7.out.cell 0
                have j1 : w7.cell? ⟨wr.heap.size, 1, none⟩ = some (.int .i64 z1.b) := X7.out.cell 1
                have j2 : w7.cell? ⟨wr.heap.size, 2, none⟩ = some (.int .i64 (z1.c + 1)) := X7.out.cell 2
                have j3 : w7.cell? ⟨wr.heap.size, 3, none⟩ = some (.int .i64 z1.d) := X7.out.cell 3
                clear k2 n2
                by_cases hown : m < ta - tb
                · have HP2 := hide (show pickGo ys 0 (-1) (-1) = pickGo (ys.drop (k + 1)) (k + 1) k (ta - tb) by rw [HPST.out, if_neg HC100.out, if_pos hown])
                  go_wp2_with (go_at_call 123; refine (HT2.out _).mono ?_; rintro e w8 ⟨rfl, s8⟩)
                  go_roundg (xs.length - (k + 1))
                  case measure => have := hg3.out; omega
                  case rel => exact ⟨k + 1, k, ta - tb, by omega, rfl, rfl, rfl, by go_num, HP2, hide (B7.out.trans (s8.mono B7.out.size))⟩
                · have HP2 := hide (show pickGo ys 0 (-1) (-1) = pickGo (ys.drop (k + 1)) (k + 1) kb m by rw [HPST.out, if_neg HC100.out, if_neg hown])
                  go_wp2_with (go_at_call 123; refine (HT2.out _).mono ?_; rintro e w8 ⟨rfl, s8⟩)
                  go_roundg (xs.length - (k + 1))
                  case measure => have := hg3.out; omega
                  case rel => exact ⟨k + 1, kb, m, by omega, rfl, rfl, rfl, by go_num, HP2, hide (B7.out.trans (s8.mono B7.out.size))⟩
            · obtain rfl : k = xs.length := by omega
              have hpe := HP.out.trans (by rw [List.drop_eq_nil_of_le (by omega), pickGo])
              have hlaw := pickGo_law (xs := ys) 0 (-1) (-1) (.inl rfl)
              have hst := HST2.out
              rw [hpe] at hlaw hst
              dsimp only at hlaw hst
              have HWr := hide (own_below HW5.out HB3.out (Nat.le_refl _))
              rcases hlaw with hkb | ⟨j, z1, hkb, hz1, hc100⟩
              · have HE := hide (show pressGo t0 801 ys0 = ([], 3) by rw [hst, if_pos (by omega)])
                have hneg : kb < 0 := by omega
                clear hst hpe hkb
                go_wp2_with fail
                go_ret2
                exact ⟨_, by rw [HK.out, HE.out]; rfl, by rw [HK.out, HE.out]; exact O_Int64S.nil _ _ _ _ _, B5.out.trans (HB3.out.mono B5.out.size)⟩
              · rw [Nat.zero_add] at hkb
                subst hkb
                have hjl := lt_of_get hz1
                rcases own_block HWr.out with ⟨_, h0, _⟩ | ⟨gr, rfl, hg1, hg2⟩
                · omega
                rw [if_neg (by omega), Int.toNat_natCast, hz1] at hst
                dsimp only at hst
                have HS2 := hide hst
                have hzo := HOK.out z1 (List.mem_of_getElem? hz1)
                obtain ⟨⟨_, _⟩, ⟨_, _⟩, ⟨c1, c2⟩, _, _⟩ := okR_bd hzo
                have hup := upR_ok hzo hc100
                have e1 : IntKind.i64.wrap (z1.c + 1) = z1.c + 1 := wrap_in (by omega) (by omega)
                have hj0 : (0 : Int) ≤ (j : Int) := by omega
                have hj1 : (j : Int) < (xs.length : Int) := by omega
                obtain ⟨_, _, hcc, _⟩ := ride_at HWr.out hz1
                have hset := ride_set HWr.out hz1 (z1.c + 1)
                have HSET := hide hset.1
                have hfr := HWr.out.frozenAt (j * 4 + 2)
                have HB6 := hide ((B5.out.trans (HB3.out.mono B5.out.size)).setCell (p := ⟨gr, j * 4 + 2, none⟩) hg1 (.int .i64 (z1.c + 1)))
                have HFU2 := hide (show (fu : Int) + sumC (ys.set j (upR z1)) = 801 + xs.length by have := HFU.out; rw [sumC_set hz1]; omega)
                have HOK2 := hide (show ∀ x ∈ ys.set j (upR z1), okR x = true from fun q hq => by
                  rcases mem_set_or hq with rfl | hq
                  · exact hup
                  · exact HOK.out q hq)
                clear hst hset hz1 hzo hup hc100 hpe HST2 HP
                go_wp2_with fail
                go_roundg fu
                case measure => have := hg.out; omega
                case rel => exact ⟨fu, ys.set j (upR z1), rfl, by rw [List.length_set]; exact hyl2, HFU2, HOK2, HS2, HSET, HB6⟩
end Go.Proofs.Ytlkccijlbeibjaa
