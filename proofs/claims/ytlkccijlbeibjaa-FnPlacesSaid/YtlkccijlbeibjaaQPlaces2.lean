/-
  Contracts of the laws' own helpers over slices of records: copies, comparisons, sizes, marks. Printed by gen_rec.py.
  Contracts of slices.Equal and slices.Clone at the program's element types. Printed by gen_lib.py.
-/
import Derived.Test.YtlkccijlbeibjaaProg
import Derived.Test.YtlkccijlbeibjaaQPlaces0
import Derived.WalkKit
import Derived.BigQuiet
import Derived.Deep.QuietTactic
import Derived.Deep.LoopGhost
import Derived.StillTailTactics
import Derived.Test.YtlkccijlbeibjaaQPlaces1
import Derived.Lib.SliceRun
import Derived.Deep.DeepMust
namespace Go.Proofs.Ytlkccijlbeibjaa
open Go.RowKit



set_option maxRecDepth 100000 in
set_option maxHeartbeats 1000000 in
theorem indexFuncTube_any (p : T3 → Bool) (F : FuncId) (cap : Array Value) (xs : List T3) (A : Option Addr) (c : Nat) (w : World) (hx : xs.length ≤ 9223372036854775807)
    (hcf : ∀ args w, (callFunc F args).run Try.prog w = .ok (.enter F args) w) (h1 : Rd3 w w.heap.size A xs)
    (hp : ∀ z W, Below w.heap.size w W → Calls Try.prog F (#[.agg #[.int .i64 z.a, .int .i64 z.b, .int .i64 z.c]] ++ cap) W fun e w' => e = .returned (.bool (p z)) ∧ Below W.heap.size W w') :
    Calls Try.prog 170 #[.slice A xs.length c, .func (.func F) #[] cap] w fun e w' => e = .returned (.int .i64 (firstI p xs 0)) ∧ Below w.heap.size w w' := by
  have HP := hide hp; clear hp
  go_enter Try.func170, Try.ntmps170
  go_wp2_with fail
  go_loopg [8] xs.length (fun g i wr => ∃ k : Nat, k ≤ xs.length ∧ Hid (g = xs.length - k) ∧ i = .int .i64 k ∧ Below w.heap.size w wr ∧ Hid (firstI p xs 0 = firstI p (xs.drop k) k))
  case atStart => exact ⟨0, by omega, by simp [Hid], rfl, Below.refl _ _, hide (by simp)⟩
  case round =>
    obtain ⟨k, hk, HG, rfl, hb, HE⟩ := hrel
    by_cases hlt : k < xs.length
    · obtain ⟨b, o, z, rfl, _, hz, hca, hcb, hcc⟩ := (h1.below hb).at_ hlt
      have Z := hide hz; clear hz h1
      have HQ := HP.out z wr hb
      have h := HE.out
      rw [drop_cons Z.out] at h
      cases hpz : p z
      · rw [hpz] at HQ
        have h' := hide (show firstI p xs 0 = firstI p (xs.drop (k + 1)) (k + 1) by simpa [firstI, hpz] using h)
        have HQ' := hide HQ
        clear h HQ hpz HE
        go_wp2_with fail
        refine HQ'.out.mono ?_
        rintro e w1 ⟨rfl, hb1⟩
        go_wp2_with fail
        go_roundg (xs.length - (k + 1))
        case measure => have := HG.out; omega
        case rel => exact ⟨k + 1, by omega, rfl, by go_num, hb.trans (hb1.mono hb.size), h'⟩
      · rw [hpz] at HQ
        have h' := hide (show firstI p xs 0 = k by simpa [firstI, hpz] using h)
        have HQ' := hide HQ
        clear h HQ hpz HE
        go_wp2_with fail
        refine HQ'.out.mono ?_
        rintro e w1 ⟨rfl, hb1⟩
        go_wp2_with fail
        go_ret
        exact ⟨ret_i h'.out.symm, hb.trans (hb1.mono hb.size)⟩
    · go_wp2_with fail
      go_ret
      refine ⟨ret_i ?_, hb⟩
      have h := HE.out
      rw [List.drop_eq_nil_of_le (by omega)] at h
      rw [h]; rfl

set_option maxRecDepth 100000 in
set_option maxHeartbeats 1000000 in
theorem containsFuncTube_any (p : T3 → Bool) (F : FuncId) (cap : Array Value) (xs : List T3) (A : Option Addr) (c : Nat) (w : World) (hx : xs.length ≤ 9223372036854775807)
    (hcf : ∀ args w, (callFunc F args).run Try.prog w = .ok (.enter F args) w) (h1 : Rd3 w w.heap.size A xs)
    (hp : ∀ z W, Below w.heap.size w W → Calls Try.prog F (#[.agg #[.int .i64 z.a, .int .i64 z.b, .int .i64 z.c]] ++ cap) W fun e w' => e = .returned (.bool (p z)) ∧ Below W.heap.size W w') :
    Calls Try.prog 150 #[.slice A xs.length c, .func (.func F) #[] cap] w fun e w' => e = .returned (.bool (xs.any p)) ∧ Below w.heap.size w w' := by
  have HC := hide (indexFuncTube_any p F cap xs A c w hx hcf h1 hp)
  clear hp
  have HE := hide (firstI_ge p xs 0)
  go_enter Try.func150, Try.ntmps150
  go_wp2_with fail
  refine HC.out.mono ?_
  rintro e w1 ⟨rfl, hb⟩
  go_wp2_with fail
  go_ret
  exact ⟨ret_b HE.out, hb⟩


set_option maxRecDepth 100000 in
set_option maxHeartbeats 1000000 in
theorem eqChange_any (x y : T3) (w : World) :
    Calls Try.prog 142 #[.agg #[.int .i64 x.a, .int .i64 x.b, .int .i64 x.c], .agg #[.int .i64 y.a, .int .i64 y.b, .int .i64 y.c]] w fun e w' => e = .returned (.bool (decide (x = y))) ∧ Below w.heap.size w w' := by
  obtain ⟨x0, x1, x2⟩ := x
  obtain ⟨y0, y1, y2⟩ := y
  dsimp only
  have hbel : Below w.heap.size w ((w.alloc (.cells #[.int .i64 x0, .int .i64 x1, .int .i64 x2] 35)).alloc (.cells #[.int .i64 y0, .int .i64 y1, .int .i64 y2] 35)) :=
    ((Below.refl _ _).alloc (Nat.le_refl _) _).alloc (by simp) _
  by_cases h0 : x0 = y0
  case neg =>
    have hB0 : (x0 != y0) = true := by simp [h0]
    have H0 := hide h0; clear h0
    go_enter Try.func142, Try.ntmps142
    go_wp2_with fail
    go_ret
    exact ⟨ret_b (by simp [H0.out]), hbel⟩
  have hB0 : (x0 != y0) = false := by simp [h0]
  have H0 := hide h0; clear h0
  by_cases h1 : x1 = y1
  case neg =>
    have hB1 : (x1 != y1) = true := by simp [h1]
    have H1 := hide h1; clear h1
    go_enter Try.func142, Try.ntmps142
    go_wp2_with fail
    go_ret
    exact ⟨ret_b (by simp [H1.out]), hbel⟩
  have hB1 : (x1 != y1) = false := by simp [h1]
  have H1 := hide h1; clear h1
  by_cases h2 : x2 = y2
  case neg =>
    have hB2 : (x2 != y2) = true := by simp [h2]
    have H2 := hide h2; clear h2
    go_enter Try.func142, Try.ntmps142
    go_wp2_with fail
    go_ret
    exact ⟨ret_b (by simp [H2.out]), hbel⟩
  have hB2 : (x2 != y2) = false := by simp [h2]
  have H2 := hide h2; clear h2
  go_enter Try.func142, Try.ntmps142
  go_wp2_with fail
  go_ret
  exact ⟨ret_b (by simp [H0.out, H1.out, H2.out]), hbel⟩

set_option maxRecDepth 100000 in
set_option maxHeartbeats 1000000 in
theorem eqChangeS_any (xs ys : List T3) (A1 A2 : Option Addr) (c1 c2 : Nat) (w : World) (hx : xs.length ≤ 9223372036854775807) (hy : ys.length ≤ 9223372036854775807)
    (h1 : Rd3 w w.heap.size A1 xs) (h2 : Rd3 w w.heap.size A2 ys) :
    Calls Try.prog 75 #[.slice A1 xs.length c1, .slice A2 ys.length c2] w fun e w' => e = .returned (.bool (decide (xs = ys))) ∧ Below w.heap.size w w' := by
  by_cases hl : xs.length = ys.length
  · have hB : ((xs.length : Int) != ys.length) = false := by simp [hl]
    have HL := hide hl; clear hl
    go_enter Try.func75, Try.ntmps75
    go_wp2_with fail
    go_loopg [5] xs.length (fun g i wr => ∃ k : Nat, k ≤ xs.length ∧ g = xs.length - k ∧ i = .int .i64 k ∧ Below w.heap.size w wr ∧ Hid (xs = ys ↔ xs.drop k = ys.drop k))
    case atStart => exact ⟨0, by omega, by omega, rfl, Below.refl _ _, by simp [Hid]⟩
    case round =>
      obtain ⟨k, hk, hg0, rfl, hb, HE⟩ := hrel
      have hg := hide hg0; clear hg0
      by_cases hlt : k < xs.length
      · have hlt2 : k < ys.length := by have := HL.out; omega
        obtain ⟨b1, o1, z1, rfl, _, hz1, hc1a, hc1b, hc1c⟩ := (h1.below hb).at_ hlt
        obtain ⟨b2, o2, z2, rfl, _, hz2, hc2a, hc2b, hc2c⟩ := (h2.below hb).at_ hlt2
        have Z1 := hide hz1; have Z2 := hide hz2; clear hz1 hz2 h1 h2
        have hE : decide (xs = ys) = (decide (z1 = z2) && decide (xs.drop (k + 1) = ys.drop (k + 1))) := by
          have h := HE.out
          rw [drop_cons Z1.out, drop_cons Z2.out] at h
          rw [Bool.eq_iff_iff]; simpa using h
        have HE' := hide hE
        clear hE
        have HC := hide (eqChange_any z1 z2)
        by_cases he : z1 = z2
        · have hd : decide (z1 = z2) = true := by simpa using he
          rw [hd] at HE' HC
          have HD := hide he; clear he hd
          go_wp2_with fail
          go_still_tail 8, (by kernel_rfl)
          change wpList _ _ _ _ _ wr.drew
          have hb2 : Below w.heap.size w wr.drew := hb.drew
          generalize wr.drew = w2 at hb2 ⊢
          go_wp2_with (go_at_call 142; refine (HC.out _).mono ?_; rintro e w1 ⟨rfl, hb1⟩)
          go_roundg (xs.length - (k + 1))
          case measure => have := hg.out; omega
          case rel => exact ⟨k + 1, by omega, rfl, by go_num, hb2.trans (hb1.mono hb2.size), hide (by have := HE'.out; simpa using this)⟩
        · have hd : decide (z1 = z2) = false := by simpa using he
          rw [hd] at HE' HC
          clear he hd
          go_wp2_with fail
          go_still_tail 8, (by kernel_rfl)
          change wpList _ _ _ _ _ wr.drew
          have hb2 : Below w.heap.size w wr.drew := hb.drew
          generalize wr.drew = w2 at hb2 ⊢
          go_wp2_with (go_at_call 142; refine (HC.out _).mono ?_; rintro e w1 ⟨rfl, hb1⟩)
          go_ret
          exact ⟨ret_b (by have := HE'.out; simpa using this.symm), hb2.trans (hb1.mono hb2.size)⟩
      · go_wp2_with fail
        go_ret
        refine ⟨ret_b ?_, hb⟩
        have h := HE.out
        rw [List.drop_eq_nil_of_le (by omega), List.drop_eq_nil_of_le (by have := HL.out; omega)] at h
        simpa using h
  · have hB : ((xs.length : Int) != ys.length) = true := by simp; omega
    have HL := hide hl; clear hl
    go_enter Try.func75, Try.ntmps75
    go_wp2_with fail
    go_ret
    exact ⟨ret_b (by simp; intro e; exact HL.out (by rw [e])), Below.refl _ _⟩

set_option maxRecDepth 100000 in
set_option maxHeartbeats 1000000 in
theorem toChange_any (x : T3) (w : World) :
    Calls Try.prog 10 #[.agg #[.int .i64 x.a, .int .i64 x.b, .int .i64 x.c]] w fun e w' => e = .returned (.agg #[.int .i64 x.a, .int .i64 x.b, .int .i64 x.c]) ∧ Below w.heap.size w w' := by
  go_enter Try.func10, Try.ntmps10
  go_wp2_with fail
  refine bodyPost_ret (v := .agg #[.int .i64 x.a, .int .i64 x.b, .int .i64 x.c]) (by simp [results, Try.results10, go_sem]) rfl ⟨rfl, ?_⟩
  exact (((Below.refl _ _).alloc (Nat.le_refl _) _).alloc (by simp) _).alloc (by simp; omega) _

set_option maxRecDepth 100000 in
set_option maxHeartbeats 1000000 in
theorem szChangeS_any (A : Option Addr) (n c : Nat) (left : Int) (w : World) (hn : n ≤ 9223372036854775807) (hl : 0 ≤ left) (hl2 : left ≤ 1048576) :
    Calls Try.prog 61 #[.slice A n c, .int .i64 left] w fun e w' => e = .returned (.int .i64 (szF n left)) ∧ w = w' := by
  by_cases h : (n : Int) ≤ left
  · have H := hide (szF_yes h)
    go_enter Try.func61, Try.ntmps61
    go_wp2_with fail
    go_ret
    exact ⟨ret_i H.out.symm, rfl⟩
  · have H := hide (szF_no (n := n) (left := left) (by omega))
    go_enter Try.func61, Try.ntmps61
    go_wp2_with fail
    go_ret
    exact ⟨ret_i H.out.symm, rfl⟩

theorem Change_info : (Try.prog.info? 35).map (fun i => (i.zero, i.size, i.bytes)) = some (some (.agg #[.int .i64 0, .int .i64 0, .int .i64 0]), 3, 24) := by kernel_rfl
set_option maxRecDepth 100000 in
set_option maxHeartbeats 1000000 in
theorem toChangeS_any (xs : List T3) (A : Option Addr) (c : Nat) (w : World) (hx : xs.length ≤ 1048576) (h1 : Rd3 w w.heap.size A xs) :
    Calls Try.prog 66 #[.slice A xs.length c] w fun e w' => ∃ A' c', e = .returned (.slice A' xs.length c') ∧ w'.ownsRow w.heap.size 35 3 (.slice A' xs.length c') xs.length (xs.flatMap T3.cells) ∧ Below w.heap.size w w' := by
  obtain ⟨i0, hi0, hz0, hs0, hb0⟩ := info_parts Change_info
  have HX := hide h1; clear h1
  go_enter Try.func66, Try.ntmps66
  go_wp2_with (refine wpList_make_full _ rfl _ _ _ rfl w.heap.size 35 i0 _ 3 Try.underlying29 hi0 hz0 hs0 .i64 .i64 (xs.length : Int) (xs.length : Int) xs.length rfl rfl rfl rfl (by rw [hb0]; omega) (by unfold maxLen; omega) (Nat.le_refl _) ?_; intro w1 hown1 hgr1)
  have hown2 : w1.ownsRow w.heap.size 35 3 (.slice (some ⟨w.heap.size, 0, none⟩) xs.length xs.length) xs.length ((cp (⟨0, 0, 0⟩ : T3) xs 0).flatMap T3.cells) := by
    rw [cp_zero, ← made_flatMap T3.cells 3 (fun _ => rfl) _ (by omega)]; exact hown1
  have hbel1 : Below w.heap.size w w1 := (Below.refl _ _).grown hgr1 (Nat.le_refl _) (by intro k hk; cases hk)
  clear hown1 hgr1
  go_loopg [4] xs.length (fun g i wr => ∃ k : Nat, k ≤ xs.length ∧ Hid (g = xs.length - k) ∧ i = .int .i64 k ∧ Below w.heap.size w wr ∧
    wr.ownsRow w.heap.size 35 3 (.slice (some ⟨w.heap.size, 0, none⟩) xs.length xs.length) xs.length ((cp (⟨0, 0, 0⟩ : T3) xs k).flatMap T3.cells))
  case atStart => exact ⟨0, by omega, by simp [Hid], rfl, hbel1, hown2⟩
  case round =>
    obtain ⟨k, hk, hg, rfl, hb, hown⟩ := hrel
    clear hown2 hbel1
    by_cases hlt : k < xs.length
    · obtain ⟨b1, o1, z1, rfl, hb1, hz1, hc1a, hc1b, hc1c⟩ := (HX.out.below hb).at_ hlt
      have Z1 := hide hz1; clear hz1
      have hlen := hide (cp_len (⟨0, 0, 0⟩ : T3) xs k (by omega))
      have hgt := hide (cp_get (⟨0, 0, 0⟩ : T3) xs k hlt)
      go_wp2_with (go_at_call 10; refine (toChange_any z1 _).mono ?_; rintro e w2 ⟨rfl, hbw⟩
                   have hownw := own_below hown hbw (Nat.le_refl _)
                   have hq0 : w2.cell? ⟨w.heap.size, k * 3, none⟩ = some (.int .i64 0) := (hownw.cellAt (k * 3) (by omega)).trans (flatMap_get _ 3 (fun _ => rfl) _ k 0 _ hgt.out (by omega))
                   have hf0 := hownw.frozenAt (k * 3)
                   have hq1 : w2.cell? ⟨w.heap.size, k * 3 + 1, none⟩ = some (.int .i64 0) := (hownw.cellAt (k * 3 + 1) (by omega)).trans (flatMap_get _ 3 (fun _ => rfl) _ k 1 _ hgt.out (by omega))
                   have hf1 := hownw.frozenAt (k * 3 + 1)
                   have hq2 : w2.cell? ⟨w.heap.size, k * 3 + 2, none⟩ = some (.int .i64 0) := (hownw.cellAt (k * 3 + 2) (by omega)).trans (flatMap_get _ 3 (fun _ => rfl) _ k 2 _ hgt.out (by omega))
                   have hf2 := hownw.frozenAt (k * 3 + 2))
      have hs0 := hownw.stored (k * 3) (.int .i64 z1.a)
      have hs1 := hs0.1.stored (k * 3 + 1) (.int .i64 z1.b)
      have hs2 := hs1.1.stored (k * 3 + 2) (.int .i64 z1.c)

      have hfin := cp_set (⟨0, 0, 0⟩ : T3) xs k z1 Z1.out
      have hbb := hb.trans (hbw.mono hb.size)
      go_roundg (xs.length - (k + 1))
      case measure => have := hg.out; omega
      case rel =>
        refine ⟨k + 1, by omega, rfl, by go_num, ((hbb.setCell (by simp) _).setCell (by simp) _).setCell (by simp) _, ?_⟩
        rw [← hfin]
        rw [← T3.store _ k z1 (by rw [hlen.out]; exact hlt)]
        exact hs2.1
    · go_wp2_with fail
      go_ret
      obtain rfl : k = xs.length := by omega
      rw [cp_full] at hown
      exact ⟨_, _, rfl, hown, hb⟩

set_option maxRecDepth 100000 in
set_option maxHeartbeats 1000000 in
theorem markChangeS_any (base : Nat) (xs : List T3) (A : Option Addr) (c : Nat) (k0 : Int) (w : World) (hx : xs.length ≤ 1048576) (hk0 : 0 ≤ k0) (hk1 : k0 ≤ 1099511627776)
    (hown0 : w.ownsRow base 35 3 (.slice A xs.length c) xs.length (xs.flatMap T3.cells)) :
    Calls Try.prog 77 #[.slice A xs.length c, .int .i64 k0] w fun e w' => e = .returned (.int .i64 (k0 + 3 * xs.length)) ∧
      w'.ownsRow base 35 3 (.slice A xs.length c) xs.length ((marks (mk3 k0) xs.length).flatMap T3.cells) ∧ w.grownBy w' (Value.slice A xs.length c).ownBlock := by
  have hob := own_block hown0
  go_enter Try.func77, Try.ntmps77
  go_wp2_with fail
  go_loopg [1, 5] xs.length (fun g kk i wr => ∃ k : Nat, k ≤ xs.length ∧ Hid (g = xs.length - k) ∧ i = .int .i64 k ∧ kk = .int .i64 (k0 + 3 * k) ∧ w.grownBy wr (Value.slice A xs.length c).ownBlock ∧
    wr.ownsRow base 35 3 (.slice A xs.length c) xs.length ((mix (mk3 k0) xs k).flatMap T3.cells))
  case atStart => exact ⟨0, by omega, by simp [Hid], rfl, by simp, World.grownBy.refl _ _, by rw [mix_zero]; exact hown0⟩
  case round =>
    obtain ⟨k, hk, hg, rfl, rfl, hb, hown⟩ := hrel
    clear hown0
    by_cases hlt : k < xs.length
    · obtain ⟨g0, rfl, _, _⟩ : ∃ g, A = some ⟨g, 0, none⟩ ∧ base ≤ g ∧ g < w.heap.size := by
        rcases hob with ⟨_, h, _⟩ | h
        · omega
        · exact h
      clear hob
      have hlen := hide (mix_len (mk3 k0) xs k (by omega))
      have hgt := hide (mix_get (mk3 k0) xs k hlt)
      have hq0 : ∃ u, wr.cell? ⟨g0, k * 3, none⟩ = some (.int .i64 u) := ⟨_, (hown.cellAt (k * 3) (by omega)).trans (flatMap_get _ 3 (fun _ => rfl) _ k 0 _ hgt.out (by omega))⟩
      obtain ⟨u0, hq0⟩ := hq0
      have hf0 := hown.frozenAt (k * 3)
      have hq1 : ∃ u, wr.cell? ⟨g0, k * 3 + 1, none⟩ = some (.int .i64 u) := ⟨_, (hown.cellAt (k * 3 + 1) (by omega)).trans (flatMap_get _ 3 (fun _ => rfl) _ k 1 _ hgt.out (by omega))⟩
      obtain ⟨u1, hq1⟩ := hq1
      have hf1 := hown.frozenAt (k * 3 + 1)
      have hq2 : ∃ u, wr.cell? ⟨g0, k * 3 + 2, none⟩ = some (.int .i64 u) := ⟨_, (hown.cellAt (k * 3 + 2) (by omega)).trans (flatMap_get _ 3 (fun _ => rfl) _ k 2 _ hgt.out (by omega))⟩
      obtain ⟨u2, hq2⟩ := hq2
      have hf2 := hown.frozenAt (k * 3 + 2)
      have hs0 := hown.stored (k * 3) (.int .i64 (mk3 k0 k).a)
      have hs1 := hs0.1.stored (k * 3 + 1) (.int .i64 (mk3 k0 k).b)
      have hs2 := hs1.1.stored (k * 3 + 2) (.int .i64 (mk3 k0 k).c)
      have hfin := mix_set (mk3 k0) xs k hlt
      have hend : wr.grownBy (((wr.setCell ⟨g0, k * 3, none⟩ (.int .i64 (mk3 k0 k).a)).setCell ⟨g0, k * 3 + 1, none⟩ (.int .i64 (mk3 k0 k).b)).setCell ⟨g0, k * 3 + 2, none⟩ (.int .i64 (mk3 k0 k).c)) (some g0) ∧ (((wr.setCell ⟨g0, k * 3, none⟩ (.int .i64 (mk3 k0 k).a)).setCell ⟨g0, k * 3 + 1, none⟩ (.int .i64 (mk3 k0 k).b)).setCell ⟨g0, k * 3 + 2, none⟩ (.int .i64 (mk3 k0 k).c)).ownsRow base 35 3 (.slice (some ⟨g0, 0, none⟩) xs.length c) xs.length ((mix (mk3 k0) xs (k + 1)).flatMap T3.cells) := by
        refine ⟨(gtrans (gtrans hs0.2 hs1.2) hs2.2), ?_⟩
        rw [← hfin, ← T3.store _ k (mk3 k0 k) (by rw [hlen.out]; exact hlt)]
        exact hs2.1
      have HEND := hide hend
      clear hs0 hs1 hs2
      clear hend hfin
      go_wp2_with fail
      go_roundg (xs.length - (k + 1))
      case measure => have := hg.out; omega
      case rel =>
        refine ⟨k + 1, by omega, rfl, by go_num, ?_, ?_⟩
        · congr 1; omega
        · have h := HEND.out
          simp only [mk3] at h
          exact ⟨gtrans hb h.1, h.2⟩
    · go_wp2_with fail
      go_ret
      obtain rfl : k = xs.length := by omega
      rw [mix_full] at hown
      exact ⟨rfl, hown, hb⟩

set_option maxRecDepth 100000 in
set_option maxHeartbeats 1000000 in
theorem markChangeS_nil (A : Option Addr) (c : Nat) (k0 : Int) (w : World) (hk0 : 0 ≤ k0) (hk1 : k0 ≤ 1099511627776) :
    Calls Try.prog 77 #[.slice A 0 c, .int .i64 k0] w fun e w' => e = .returned (.int .i64 k0) ∧ w = w' := by
  go_enter Try.func77, Try.ntmps77
  go_wp2_with fail
  refine wp_loop_rounds 1 ?_
  rw [rounds_succ]
  go_wp2_with fail
  go_ret
  exact ⟨rfl, rfl⟩

set_option maxRecDepth 100000 in
set_option maxHeartbeats 1000000 in
theorem heldChangeS_any (n : Nat) (A : Option Addr) (c : Nat) (k0 : Int) (w : World) (hx : n ≤ 1048576) (hk0 : 0 ≤ k0) (hk1 : k0 ≤ 1099511627776)
    (h1 : Rd3 w w.heap.size A (marks (mk3 k0) n)) :
    Calls Try.prog 79 #[.slice A n c, .int .i64 k0] w fun e w' => e = .returned (.int .i64 (k0 + 3 * n)) ∧ Below w.heap.size w w' := by
  have HX := hide h1; clear h1
  go_enter Try.func79, Try.ntmps79
  go_wp2_with fail
  go_loopg [1, 5] n (fun g kk i wr => ∃ k : Nat, k ≤ n ∧ Hid (g = n - k) ∧ i = .int .i64 k ∧ kk = .int .i64 (k0 + 3 * k) ∧ Below w.heap.size w wr)
  case atStart => exact ⟨0, by omega, by simp [Hid], rfl, by simp, Below.refl _ _⟩
  case round =>
    obtain ⟨k, hk, hg, rfl, rfl, hb⟩ := hrel
    by_cases hlt : k < n
    · obtain ⟨b1, o1, z1, rfl, _, hz1, hc1a, hc1b, hc1c⟩ := (HX.out.below hb).at_ (k := k) (by rw [marks_len]; exact hlt)
      rw [marks_get _ _ _ hlt] at hz1
      obtain rfl : mk3 k0 k = z1 := by injection hz1
      clear hz1
      simp only [mk3] at hc1a hc1b hc1c
      have hB0 : ((k0 + 3 * (k : Int)) != (k0 + 3 * (k : Int))) = false := by simp
      have hB1 : ((k0 + 3 * (k : Int) + 1) != (k0 + 3 * (k : Int) + 1)) = false := by simp
      have hB2 : ((k0 + 3 * (k : Int) + 1 + 1) != (k0 + 3 * (k : Int) + 1 + 1)) = false := by simp
      go_wp2_with fail
      go_roundg (n - (k + 1))
      case measure => have := hg.out; omega
      case rel => exact ⟨k + 1, by omega, rfl, by go_num, by congr 1; omega, hb⟩
    · go_wp2_with fail
      go_ret
      obtain rfl : k = n := by omega
      exact ⟨rfl, hb⟩



set_option maxRecDepth 100000 in
set_option maxHeartbeats 1000000 in
theorem indexFuncRide_any (p : T4 → Bool) (F : FuncId) (cap : Array Value) (xs : List T4) (A : Option Addr) (c : Nat) (w : World) (hx : xs.length ≤ 9223372036854775807)
    (hcf : ∀ args w, (callFunc F args).run Try.prog w = .ok (.enter F args) w) (h1 : Rd4 w w.heap.size A xs)
    (hp : ∀ z W, Below w.heap.size w W → Calls Try.prog F (#[.agg #[.int .i64 z.a, .int .i64 z.b, .int .i64 z.c, .int .i64 z.d]] ++ cap) W fun e w' => e = .returned (.bool (p z)) ∧ Below W.heap.size W w') :
    Calls Try.prog 172 #[.slice A xs.length c, .func (.func F) #[] cap] w fun e w' => e = .returned (.int .i64 (firstI p xs 0)) ∧ Below w.heap.size w w' := by
  have HP := hide hp; clear hp
  go_enter Try.func172, Try.ntmps172
  go_wp2_with fail
  go_loopg [8] xs.length (fun g i wr => ∃ k : Nat, k ≤ xs.length ∧ Hid (g = xs.length - k) ∧ i = .int .i64 k ∧ Below w.heap.size w wr ∧ Hid (firstI p xs 0 = firstI p (xs.drop k) k))
  case atStart => exact ⟨0, by omega, by simp [Hid], rfl, Below.refl _ _, hide (by simp)⟩
  case round =>
    obtain ⟨k, hk, HG, rfl, hb, HE⟩ := hrel
    by_cases hlt : k < xs.length
    · obtain ⟨b, o, z, rfl, _, hz, hca, hcb, hcc, hcd⟩ := (h1.below hb).at_ hlt
      have Z := hide hz; clear hz h1
      have HQ := HP.out z wr hb
      have h := HE.out
      rw [drop_cons Z.out] at h
      cases hpz : p z
      · rw [hpz] at HQ
        have h' := hide (show firstI p xs 0 = firstI p (xs.drop (k + 1)) (k + 1) by simpa [firstI, hpz] using h)
        have HQ' := hide HQ
        clear h HQ hpz HE
        go_wp2_with fail
        refine HQ'.out.mono ?_
        rintro e w1 ⟨rfl, hb1⟩
        go_wp2_with fail
        go_roundg (xs.length - (k + 1))
        case measure => have := HG.out; omega
        case rel => exact ⟨k + 1, by omega, rfl, by go_num, hb.trans (hb1.mono hb.size), h'⟩
      · rw [hpz] at HQ
        have h' := hide (show firstI p xs 0 = k by simpa [firstI, hpz] using h)
        have HQ' := hide HQ
        clear h HQ hpz HE
        go_wp2_with fail
        refine HQ'.out.mono ?_
        rintro e w1 ⟨rfl, hb1⟩
        go_wp2_with fail
        go_ret
        exact ⟨ret_i h'.out.symm, hb.trans (hb1.mono hb.size)⟩
    · go_wp2_with fail
      go_ret
      refine ⟨ret_i ?_, hb⟩
      have h := HE.out
      rw [List.drop_eq_nil_of_le (by omega)] at h
      rw [h]; rfl

set_option maxRecDepth 100000 in
set_option maxHeartbeats 1000000 in
theorem containsFuncRide_any (p : T4 → Bool) (F : FuncId) (cap : Array Value) (xs : List T4) (A : Option Addr) (c : Nat) (w : World) (hx : xs.length ≤ 9223372036854775807)
    (hcf : ∀ args w, (callFunc F args).run Try.prog w = .ok (.enter F args) w) (h1 : Rd4 w w.heap.size A xs)
    (hp : ∀ z W, Below w.heap.size w W → Calls Try.prog F (#[.agg #[.int .i64 z.a, .int .i64 z.b, .int .i64 z.c, .int .i64 z.d]] ++ cap) W fun e w' => e = .returned (.bool (p z)) ∧ Below W.heap.size W w') :
    Calls Try.prog 158 #[.slice A xs.length c, .func (.func F) #[] cap] w fun e w' => e = .returned (.bool (xs.any p)) ∧ Below w.heap.size w w' := by
  have HC := hide (indexFuncRide_any p F cap xs A c w hx hcf h1 hp)
  clear hp
  have HE := hide (firstI_ge p xs 0)
  go_enter Try.func158, Try.ntmps158
  go_wp2_with fail
  refine HC.out.mono ?_
  rintro e w1 ⟨rfl, hb⟩
  go_wp2_with fail
  go_ret
  exact ⟨ret_b HE.out, hb⟩



end Go.Proofs.Ytlkccijlbeibjaa
namespace Go.Proofs.Ytlkccijlbeibjaa
open Go.RowKit

set_option maxRecDepth 100000 in
set_option maxHeartbeats 1000000 in
theorem cloneI_any (xs : List Int) (A : Option Addr) (c : Nat) (w : World) (hx : xs.length ≤ 1048576) (h1 : RdI w w.heap.size A xs) :
    Calls Try.prog 71 #[.slice A xs.length c] w fun e w' => ∃ A' c', e = .returned (.slice A' xs.length c') ∧ w'.ownsRow w.heap.size 2 1 (.slice A' xs.length c') xs.length (xs.map (Value.int .i64)) ∧ Below w.heap.size w w' := by
  have hinfo : (Try.prog.info? 2).map (fun i => (i.zero, i.size, i.bytes)) = some (some (.int .i64 0), 1, 8) := by kernel_rfl
  obtain ⟨i0, hi0, hz0, hs0, hb0⟩ := info_parts hinfo
  clear hinfo
  have hnil := fun (W : World) (A : Option Addr) (n c : Nat) => Lib.run_eql_slice_nil (P := Try.prog) W 22 2 A n c 0 0 Try.underlying22
  cases A with
  | none =>
    have hn : xs = [] := by
      rcases xs with _ | ⟨x, xs⟩
      · rfl
      · exact absurd (h1 (by simp)) (by rintro ⟨b, o, h, _⟩; cases h)
    subst hn
    clear h1
    go_enter Try.func71, Try.ntmps71
    go_wp2_with fail
    go_ret
    exact ⟨none, 0, rfl, World.ownsRow_nil _ _ _ _, Below.refl _ _⟩
  | some ad =>
    have HX := hide h1; clear h1
    go_enter Try.func71, Try.ntmps71
    have ho0 := own_new0 w w.heap.size 2 1 (Nat.le_refl _)
    have hb1 : Below w.heap.size w (w.alloc (.cells #[] 2)) := (Below.refl _ _).alloc (Nat.le_refl _) _
    have HR := hide (Rd.below HX.out hb1)
    go_wp2_with (at_builtin; go_must (refine wp_app _ rfl _ _ 22 rfl w.heap.size 2 i0 (.int .i64 0) 1 8 Try.underlying22 hi0 hz0 hs0 hb0 rfl (by decide) _ _ _ rfl ho0 _ _ xs.length c _ rfl (by simp) HR.out (ints_one _) (by omega) (by decide) (by simp) ?_); intro v' w1 hown' hgrow hat)
    go_ret
    simp only [Nat.zero_add, List.nil_append] at hown'
    obtain ⟨A', c', rfl, _⟩ := own_shape hown'
    exact ⟨A', c', rfl, hown', app_below hb1 ho0 hgrow (Nat.le_refl _) (by simp)⟩
set_option maxRecDepth 100000 in
set_option maxHeartbeats 1000000 in
theorem cloneChange_any (xs : List T3) (A : Option Addr) (c : Nat) (w : World) (hx : xs.length ≤ 1048576) (h1 : Rd3 w w.heap.size A xs) :
    Calls Try.prog 73 #[.slice A xs.length c] w fun e w' => ∃ A' c', e = .returned (.slice A' xs.length c') ∧ w'.ownsRow w.heap.size 35 3 (.slice A' xs.length c') xs.length (xs.flatMap T3.cells) ∧ Below w.heap.size w w' := by
  have hinfo : (Try.prog.info? 35).map (fun i => (i.zero, i.size, i.bytes)) = some (some (.agg #[.int .i64 0, .int .i64 0, .int .i64 0]), 3, 24) := by kernel_rfl
  obtain ⟨i0, hi0, hz0, hs0, hb0⟩ := info_parts hinfo
  clear hinfo
  have hnil := fun (W : World) (A : Option Addr) (n c : Nat) => Lib.run_eql_slice_nil (P := Try.prog) W 29 35 A n c 0 0 Try.underlying29
  cases A with
  | none =>
    have hn : xs = [] := by
      rcases xs with _ | ⟨x, xs⟩
      · rfl
      · exact absurd (h1 (by simp [T3.cells])) (by rintro ⟨b, o, h, _⟩; cases h)
    subst hn
    clear h1
    go_enter Try.func73, Try.ntmps73
    go_wp2_with fail
    go_ret
    exact ⟨none, 0, rfl, World.ownsRow_nil _ _ _ _, Below.refl _ _⟩
  | some ad =>
    have HX := hide h1; clear h1
    go_enter Try.func73, Try.ntmps73
    have ho0 := own_new0 w w.heap.size 35 3 (Nat.le_refl _)
    have hb1 : Below w.heap.size w (w.alloc (.cells #[] 35)) := (Below.refl _ _).alloc (Nat.le_refl _) _
    have HR := hide (Rd.below HX.out hb1)
    go_wp2_with (at_builtin; go_must (refine wp_app _ rfl _ _ 29 rfl w.heap.size 35 i0 (.agg #[.int .i64 0, .int .i64 0, .int .i64 0]) 3 24 Try.underlying29 hi0 hz0 hs0 hb0 rfl (by decide) _ _ _ rfl ho0 _ _ xs.length c _ rfl (by simp [flatMap_len T3.cells 3 (fun _ => rfl)]) HR.out (T3.ones _) (by omega) (by decide) (by simp) ?_); intro v' w1 hown' hgrow hat)
    go_ret
    simp only [Nat.zero_add, List.nil_append] at hown'
    obtain ⟨A', c', rfl, _⟩ := own_shape hown'
    exact ⟨A', c', rfl, hown', app_below hb1 ho0 hgrow (Nat.le_refl _) (by simp)⟩
set_option maxRecDepth 100000 in
set_option maxHeartbeats 1000000 in
theorem cloneRide_any (xs : List T4) (A : Option Addr) (c : Nat) (w : World) (hx : xs.length ≤ 1048576) (h1 : Rd4 w w.heap.size A xs) :
    Calls Try.prog 132 #[.slice A xs.length c] w fun e w' => ∃ A' c', e = .returned (.slice A' xs.length c') ∧ w'.ownsRow w.heap.size 83 4 (.slice A' xs.length c') xs.length (xs.flatMap T4.cells) ∧ Below w.heap.size w w' := by
  have hinfo : (Try.prog.info? 83).map (fun i => (i.zero, i.size, i.bytes)) = some (some (.agg #[.int .i64 0, .int .i64 0, .int .i64 0, .int .i64 0]), 4, 32) := by kernel_rfl
  obtain ⟨i0, hi0, hz0, hs0, hb0⟩ := info_parts hinfo
  clear hinfo
  have hnil := fun (W : World) (A : Option Addr) (n c : Nat) => Lib.run_eql_slice_nil (P := Try.prog) W 73 83 A n c 0 0 Try.underlying73
  cases A with
  | none =>
    have hn : xs = [] := by
      rcases xs with _ | ⟨x, xs⟩
      · rfl
      · exact absurd (h1 (by simp [T4.cells])) (by rintro ⟨b, o, h, _⟩; cases h)
    subst hn
    clear h1
    go_enter Try.func132, Try.ntmps132
    go_wp2_with fail
    go_ret
    exact ⟨none, 0, rfl, World.ownsRow_nil _ _ _ _, Below.refl _ _⟩
  | some ad =>
    have HX := hide h1; clear h1
    go_enter Try.func132, Try.ntmps132
    have ho0 := own_new0 w w.heap.size 83 4 (Nat.le_refl _)
    have hb1 : Below w.heap.size w (w.alloc (.cells #[] 83)) := (Below.refl _ _).alloc (Nat.le_refl _) _
    have HR := hide (Rd.below HX.out hb1)
    go_wp2_with (at_builtin; go_must (refine wp_app _ rfl _ _ 73 rfl w.heap.size 83 i0 (.agg #[.int .i64 0, .int .i64 0, .int .i64 0, .int .i64 0]) 4 32 Try.underlying73 hi0 hz0 hs0 hb0 rfl (by decide) _ _ _ rfl ho0 _ _ xs.length c _ rfl (by simp [flatMap_len T4.cells 4 (fun _ => rfl)]) HR.out (T4.ones _) (by omega) (by decide) (by simp) ?_); intro v' w1 hown' hgrow hat)
    go_ret
    simp only [Nat.zero_add, List.nil_append] at hown'
    obtain ⟨A', c', rfl, _⟩ := own_shape hown'
    exact ⟨A', c', rfl, hown', app_below hb1 ho0 hgrow (Nat.le_refl _) (by simp)⟩
end Go.Proofs.Ytlkccijlbeibjaa
