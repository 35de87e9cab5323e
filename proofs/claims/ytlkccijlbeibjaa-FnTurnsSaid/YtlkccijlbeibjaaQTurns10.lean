/-
  Settings and ways in the program: simple ways, codes, a way's setting.
  Lengths and clashes of ways in the program.
-/
import Derived.Test.YtlkccijlbeibjaaQTurns9
import Derived.Test.YtlkccijlbeibjaaQTurns6
import Derived.Test.YtlkccijlbeibjaaQTurns5
import Derived.Test.YtlkccijlbeibjaaQTurns3
import Derived.Test.YtlkccijlbeibjaaQTurns7
namespace Go.Proofs.Ytlkccijlbeibjaa
open Go.RowKit
theorem wk_in {tb : List T3} {p : List Int} {v u : Int} (h : wk tb (-1) p v u) : ∀ z ∈ p, 0 ≤ z ∧ z ≤ (tb.length : Int) - 1 := fun z hz => by
  obtain ⟨k, hk⟩ := List.getElem?_of_mem hz
  obtain ⟨h0, t, ht⟩ := wk_get h hk
  have := lt_of_get ht
  omega
theorem begins_get {tb : List T3} {p : List Int} {j : Nat} {z : Int} {t : T3} (hz : p[j]? = some z) (ht : tb[z.toNat]? = some t) : (begins tb p)[j]? = some t.a := by
  rw [begins, List.getElem?_map, hz]; simp [tubeAt_get ht]
theorem nodup_step {xs : List Int} {u x : Int} (h : (xs ++ [u]).Nodup) {j : Nat} (hx : xs[j]? = some x) : hasI (xs.take j) x = false ∧ x ≠ u ∧ xs.take (j + 1) = xs.take j ++ [x] := by
  have h2 := List.pairwise_append.1 h
  refine ⟨?_, h2.2.2 x (List.mem_of_getElem? hx) u (List.mem_singleton.2 rfl), by rw [List.take_add_one, hx]; rfl⟩
  rw [Bool.eq_false_iff]
  intro hh
  obtain ⟨i, hi⟩ := List.getElem?_of_mem (hasI_mem.1 hh)
  have hij : i < j := by
    have := lt_of_get hi
    rw [List.length_take] at this; omega
  rw [List.getElem?_take_of_lt hij] at hi
  have h3 := List.pairwise_iff_getElem.1 h2.1 i j (lt_of_get hi) (lt_of_get hx) hij
  obtain ⟨_, e1⟩ := List.getElem?_eq_some_iff.1 hi
  obtain ⟨_, e2⟩ := List.getElem?_eq_some_iff.1 hx
  exact h3 (e1.trans e2.symm)
set_option maxRecDepth 100000 in
set_option maxHeartbeats 4000000 in
theorem isSimple_any (n : Nat) (tb : List T3) (p : List Int) (v u : Int) (A : Option Addr) (c : Nat) (w : World) (h : OkNet n tb) (hr : Rd3 w w.heap.size A tb) (Ap : Option Addr) (cp : Nat) (hw : wk tb (-1) p v u) (hnd : (begins tb p ++ [u]).Nodup) (hpl : p.length ≤ 1000) (hp : RdI w w.heap.size Ap p) :
    Calls Try.prog 97 #[.agg #[.int .i64 n, .slice A tb.length c], .slice Ap p.length cp] w fun e w' => e = .returned (.bool true) ∧ Below w.heap.size w w' := by
  obtain ⟨i0, hi0, hz0, hs0, hb0⟩ := info_parts int64_info
  have hl24 := h.2.1
  have b0 : Below w.heap.size w (w.alloc (.cells #[.int .i64 n, .slice A tb.length c] 44)) := (by repeat (first | exact Below.refl _ _ | assumption | (refine Below.alloc ?_ (by simp <;> omega) _) | refine Below.drew ?_ | refine bdn ?_ _))
  have X0 := hide (BoxN.new w #[.int .i64 n, .slice A tb.length c] 44)
  have z0 : w.heap.size < (w.alloc (.cells #[.int .i64 n, .slice A tb.length c] 44)).heap.size := by simp
  have x0 : (w.alloc (.cells #[.int .i64 n, .slice A tb.length c] 44)).cell? ⟨w.heap.size, 0, none⟩ = some (.int .i64 n) := X0.out.cell 0
  have x1 : (w.alloc (.cells #[.int .i64 n, .slice A tb.length c] 44)).cell? ⟨w.heap.size, 1, none⟩ = some (.slice A tb.length c) := X0.out.cell 1
  have HN := hide fun W (hW : Below w.heap.size w W) => ((hr.below hW).more hW.size)
  have Hp := hide fun W (hW : Below w.heap.size w W) => RdI.more (RdI.below hp hW) hW.size
  have HA := hide (areTubes_any n tb p A c (w.alloc (.cells #[.int .i64 n, .slice A tb.length c] 44)) h (HN.out _ b0) Ap cp (wk_in hw) hpl (Hp.out _ b0))
  have HE := hide fun W (hW : Below w.heap.size w W) => endOf_any n tb p v u A c W h (HN.out W hW) Ap cp hw hpl (Hp.out W hW)
  have HWK := hide hw
  have HND := hide hnd
  have bw0 := hide b0
  clear h hr hp hnd hw b0
  by_cases hp0 : p.length = 0
  · have hB : ((p.length : Int) == 0) = true := by simp [hp0]
    have HP0 := hide hp0
    clear hp0
    go_enter Try.func97, Try.ntmps97
    go_upto_region 1 with fail
    generalize (w.alloc (.cells #[.int .i64 n, .slice A tb.length c] 44)) = w0 at *
    go_wp2_with (go_at_call 91; (with_reducible refine (HA.out).mono ?_); rintro e w1 ⟨rfl, b1⟩)
    go_ret
    exact ⟨rfl, bw0.out.trans (b1.mono bw0.out.size)⟩
  have hB : ((p.length : Int) == 0) = false := by rw [beq_eq_false_iff_ne]; omega
  have hp1 : 0 < p.length := by omega
  clear hp0
  go_enter Try.func97, Try.ntmps97
  go_upto_region 1 with fail
  generalize (w.alloc (.cells #[.int .i64 n, .slice A tb.length c] 44)) = w0 at *
  go_upto_region 5 with (go_at_call 91; (with_reducible refine (HA.out).mono ?_); rintro e w1 ⟨rfl, b1⟩)
  have X1 := hide (X0.out.only (lo := w0.heap.size) (hi := w0.heap.size) (only_of_below b1) (.inl X0.out.lt))
  have bw1 := hide (bw0.out.trans (b1.mono bw0.out.size))
  obtain ⟨b3, o3, z, rfl, _, hz, hc⟩ := (Hp.out w1 bw1.out).at_ hp1
  obtain ⟨hzz, t, ht⟩ := wk_get HWK.out hz
  have hta : t.a = v := by
    have hd := HWK.out
    rw [show p = z :: p.drop 1 by have := drop_cons hz; simpa using this] at hd
    have := wk_start hd
    rw [tubeAt_get ht] at this; exact this.symm
  obtain ⟨zn, rfl⟩ := Int.eq_ofNat_of_zero_le hzz
  rw [Int.toNat_natCast] at ht
  have hzt : zn < tb.length := lt_of_get ht
  obtain ⟨b4, o4, t', rfl, _, ht', c0, c1, c2⟩ := (HN.out w1 bw1.out).at_ hzt
  obtain rfl := Option.some.inj (ht.symm.trans ht')
  rw [hta] at c0
  have hzi : (zn : Int) < (tb.length : Int) := by omega
  have hp1i : (0 : Int) < (p.length : Int) := by omega
  clear hz ht ht' x0 x1 X0 HA b1 c1 c2
  go_wp2_with fail
  have XD : Hid (BoxN w1.drew w.heap.size #[.int .i64 n, .slice (some ⟨b4, o4, none⟩) tb.length c] 44) := X1.out
  have bwD := hide bw1.out.drew
  have e0 : w1.drew.cell? ⟨w.heap.size, 0, none⟩ = some (.int .i64 n) := XD.out.cell 0
  have e1 : w1.drew.cell? ⟨w.heap.size, 1, none⟩ = some (.slice (some ⟨b4, o4, none⟩) tb.length c) := XD.out.cell 1
  have e2 : w1.drew.cell? ⟨b3, o3, none⟩ = some (.int .i64 (zn : Int)) := hc
  have e3 : w1.drew.cell? ⟨b4, o4 + zn * 3, none⟩ = some (.int .i64 v) := c0
  clear c0 hc X1 bw1
  refine wp_region_held_drew (S := fun W => W.cell? ⟨w.heap.size, 0, none⟩ = some (.int .i64 n) ∧ W.cell? ⟨w.heap.size, 1, none⟩ = some (.slice (some ⟨b4, o4, none⟩) tb.length c) ∧ W.cell? ⟨b3, o3, none⟩ = some (.int .i64 (zn : Int)) ∧ W.cell? ⟨b4, o4 + zn * 3, none⟩ = some (.int .i64 v)) (by kernel_rfl) (⟨e0, e1, e2, e3⟩) (fun hHeld => ?_)
  generalize w1.drew = wd at *
  have HED := hide (HE.out wd bwD.out)
  have hb3 : b3 < wd.heap.size := World.block_lt_of_cell? wd _ e2
  have hb4 : b4 < wd.heap.size := World.block_lt_of_cell? wd _ e3
  refine wpAnyH_take (i := 0) (v := ?_) rfl (by kernel_rfl) (by kernel_rfl) (by kernel_rfl) (fun _ _ _ h => h) (Or.inl ⟨by rfl, ?_⟩) (by assumption) ?_
  rotate_left 1
  · (intro w hSw; (try dsimp only at hSw); go_simp; try with_reducible rfl)
  try simp only [Act.put, List.getElem_toArray, List.getElem_cons_succ, List.getElem_cons_zero, List.setIfInBounds_toArray, List.set_cons_zero, List.set_cons_succ]
  refine wpAnyH_take (i := 1) (v := ?_) rfl (by kernel_rfl) (by kernel_rfl) (by kernel_rfl) (fun _ _ _ h => h) (Or.inl ⟨by rfl, ?_⟩) (by assumption) ?_
  rotate_left 1
  · (intro w hSw; (try dsimp only at hSw); go_simp; try with_reducible rfl)
  try simp only [Act.put, List.getElem_toArray, List.getElem_cons_succ, List.getElem_cons_zero, List.setIfInBounds_toArray, List.set_cons_zero, List.set_cons_succ]
  refine wpAnyH_take (i := 2) (v := ?_) rfl (by kernel_rfl) (by kernel_rfl) (by kernel_rfl) (fun _ _ _ h => h) (Or.inl ⟨by rfl, ?_⟩) (by assumption) ?_
  rotate_left 1
  · (intro w hSw; (try dsimp only at hSw); go_simp; try with_reducible rfl)
  try simp only [Act.put, List.getElem_toArray, List.getElem_cons_succ, List.getElem_cons_zero, List.setIfInBounds_toArray, List.set_cons_zero, List.set_cons_succ]
  refine wpAnyH_take (i := 3) (v := ?_) rfl (by kernel_rfl) (by kernel_rfl) (by kernel_rfl) (fun _ _ _ h => h) (Or.inl ⟨by rfl, ?_⟩) (by assumption) ?_
  rotate_left 1
  · (intro w hSw; (try dsimp only at hSw); go_simp; try with_reducible rfl)
  try simp only [Act.put, List.getElem_toArray, List.getElem_cons_succ, List.getElem_cons_zero, List.setIfInBounds_toArray, List.set_cons_zero, List.set_cons_succ]
  refine wpAnyH_take (i := 4) (v := ?_) rfl (by kernel_rfl) (by kernel_rfl) (by kernel_rfl) (fun _ _ _ h => h) (Or.inl ⟨by rfl, ?_⟩) (by assumption) ?_
  rotate_left 1
  · (intro w hSw; (try dsimp only at hSw); go_simp; try with_reducible rfl)
  try simp only [Act.put, List.getElem_toArray, List.getElem_cons_succ, List.getElem_cons_zero, List.setIfInBounds_toArray, List.set_cons_zero, List.set_cons_succ]
  refine wpAnyH_take (i := 5) (v := ?_) rfl (by kernel_rfl) (by kernel_rfl) (by kernel_rfl) (fun _ _ _ h => h) (Or.inl ⟨by rfl, ?_⟩) (by assumption) ?_
  rotate_left 1
  · (intro w hSw; (try dsimp only at hSw); go_simp; try with_reducible rfl)
  try simp only [Act.put, List.getElem_toArray, List.getElem_cons_succ, List.getElem_cons_zero, List.setIfInBounds_toArray, List.set_cons_zero, List.set_cons_succ]
  refine wpAnyH_take (i := 6) (v := ?_) rfl (by kernel_rfl) (by kernel_rfl) (by kernel_rfl) (fun _ _ _ h => h) (Or.inl ⟨by rfl, ?_⟩) (by assumption) ?_
  rotate_left 1
  · (intro w hSw; (try dsimp only at hSw); go_simp; try with_reducible rfl)
  try simp only [Act.put, List.getElem_toArray, List.getElem_cons_succ, List.getElem_cons_zero, List.setIfInBounds_toArray, List.set_cons_zero, List.set_cons_succ]
  refine wpAnyH_take (i := 7) (v := ?_) rfl (by kernel_rfl) (by kernel_rfl) (by kernel_rfl) (fun _ _ _ h => h) (Or.inl ⟨by rfl, ?_⟩) (by assumption) ?_
  rotate_left 1
  · (intro w hSw; (try dsimp only at hSw); go_simp; try with_reducible rfl)
  try simp only [Act.put, List.getElem_toArray, List.getElem_cons_succ, List.getElem_cons_zero, List.setIfInBounds_toArray, List.set_cons_zero, List.set_cons_succ]
  refine wpAnyH_take (i := 8) (v := ?_) rfl (by kernel_rfl) (by kernel_rfl) (by kernel_rfl) (fun _ _ _ h => h) (Or.inl ⟨by rfl, ?_⟩) (by assumption) ?_
  rotate_left 1
  · (intro w hSw; (try dsimp only at hSw); go_simp; try with_reducible rfl)
  try simp only [Act.put, List.getElem_toArray, List.getElem_cons_succ, List.getElem_cons_zero, List.setIfInBounds_toArray, List.set_cons_zero, List.set_cons_succ]
  refine wpAnyH_take (i := 9) (v := ?_) rfl (by kernel_rfl) (by kernel_rfl) (by kernel_rfl) (fun _ _ _ h => h) (Or.inl ⟨by rfl, ?_⟩) (by assumption) ?_
  rotate_left 1
  · (intro w hSw; (try dsimp only at hSw); go_simp; try with_reducible rfl)
  try simp only [Act.put, List.getElem_toArray, List.getElem_cons_succ, List.getElem_cons_zero, List.setIfInBounds_toArray, List.set_cons_zero, List.set_cons_succ]
  refine wpAnyH_ready (rs := [10]) (by kernel_rfl) (by simp) ?_
  refine AllReadyH.cons rfl (fun K hK => ?_) AllReadyH.nil
  try simp only [Act.put, List.getElem_toArray, List.getElem_cons_succ, List.getElem_cons_zero, List.setIfInBounds_toArray, List.set_cons_zero, List.set_cons_succ]
  go_simp
  go_at_call 92
  refine (HED.out).mono ?_
  rintro e w2 ⟨rfl, b2⟩
  have X2 := hide (XD.out.only (lo := wd.heap.size) (hi := wd.heap.size) (only_of_below b2) (.inl XD.out.lt))
  have bw2 := hide (bwD.out.trans (b2.mono bwD.out.size))
  dsimp only
  refine hK.out _ _ (⟨X2.out.cell 0, X2.out.cell 1, (b2.cell (p := ⟨b3, o3, none⟩) hb3).trans e2, (b2.cell (p := ⟨b4, o4 + zn * 3, none⟩) hb4).trans e3⟩) (fun hHeld => ?_)
  clear hK K
  try simp only [Act.put, List.getElem_toArray, List.getElem_cons_succ, List.getElem_cons_zero, List.setIfInBounds_toArray, List.set_cons_zero, List.set_cons_succ]
  refine wpAnyH_take (i := 11) (v := ?_) rfl (by kernel_rfl) (by kernel_rfl) (by kernel_rfl) (fun _ _ _ h => h) (Or.inl ⟨by rfl, ?_⟩) (by assumption) ?_
  rotate_left 1
  · (intro w hSw; (try dsimp only at hSw); go_simp; try with_reducible rfl)
  try simp only [Act.put, List.getElem_toArray, List.getElem_cons_succ, List.getElem_cons_zero, List.setIfInBounds_toArray, List.set_cons_zero, List.set_cons_succ]
  refine wpAnyH_take (i := 12) (v := ?_) rfl (by kernel_rfl) (by kernel_rfl) (by kernel_rfl) (fun _ _ _ h => h) (Or.inl ⟨by rfl, ?_⟩) (by assumption) ?_
  rotate_left 1
  · (intro w hSw; (try dsimp only at hSw); go_simp; try with_reducible rfl)
  try simp only [Act.put, List.getElem_toArray, List.getElem_cons_succ, List.getElem_cons_zero, List.setIfInBounds_toArray, List.set_cons_zero, List.set_cons_succ]
  refine wpAnyH_take (i := 13) (v := ?_) rfl (by kernel_rfl) (by kernel_rfl) (by kernel_rfl) (fun _ _ _ h => h) (Or.inl ⟨by rfl, ?_⟩) (by assumption) ?_
  rotate_left 1
  · (intro w hSw; (try dsimp only at hSw); go_simp; try with_reducible rfl)
  try simp only [Act.put, List.getElem_toArray, List.getElem_cons_succ, List.getElem_cons_zero, List.setIfInBounds_toArray, List.set_cons_zero, List.set_cons_succ]
  refine wpAnyH_take (i := 14) (v := ?_) rfl (by kernel_rfl) (by kernel_rfl) (by kernel_rfl) (fun _ _ _ h => h) (Or.inl ⟨by rfl, ?_⟩) (by assumption) ?_
  rotate_left 1
  · (intro w hSw; (try dsimp only at hSw); go_simp; try with_reducible rfl)
  try simp only [Act.put, List.getElem_toArray, List.getElem_cons_succ, List.getElem_cons_zero, List.setIfInBounds_toArray, List.set_cons_zero, List.set_cons_succ]
  refine wpAnyH_take (i := 15) (v := ?_) rfl (by kernel_rfl) (by kernel_rfl) (by kernel_rfl) (fun _ _ _ h => h) (Or.inl ⟨by rfl, ?_⟩) (by assumption) ?_
  rotate_left 1
  · (intro w hSw; (try dsimp only at hSw); go_simp; try with_reducible rfl)
  try simp only [Act.put, List.getElem_toArray, List.getElem_cons_succ, List.getElem_cons_zero, List.setIfInBounds_toArray, List.set_cons_zero, List.set_cons_succ]
  refine wpAnyH_done (by kernel_rfl) ?_ _
  clear e0 e1 e2 e3 XD bwD b2 HE HED
  have hz2 : w.heap.size + 1 ≤ w2.heap.size := X2.out.lt
  have ho2 := own_new0 w2 (w.heap.size + 1) 2 1 hz2
  have HB3 := hide (bw2.out.alloc bw2.out.size (.cells #[] 2))
  have X3 := hide (X2.out.alloc (.cells #[] 2))
  go_upto_region 7 with fail
  generalize w2.alloc (.cells #[] 2) = wz at *
  generalize w2.heap.size = g1 at *
  go_wp2_with fail
  go_loopg [35, 7, 6] p.length (fun g i s ok wr => ∃ (j : Nat) (A' : Option Addr) (c' : Nat), j ≤ p.length ∧ Hid (g = p.length - j) ∧ i = .int .i64 j ∧ s = .slice A' j c' ∧ ok = .bool true ∧ Hid (wr.ownsRow (w.heap.size + 1) 2 1 (.slice A' j c') j (((begins tb p).take j).map (Value.int .i64))) ∧ Hid (BoxN wr w.heap.size #[.int .i64 n, .slice (some ⟨b4, o4, none⟩) tb.length c] 44) ∧ Hid (Below w.heap.size w wr))
  case atStart => exact ⟨0, some ⟨g1, 0, none⟩, 0, by omega, by simp [Hid], rfl, rfl, rfl, ho2, X3, HB3⟩
  case round =>
    obtain ⟨j, A', c', hj, hgj, rfl, rfl, rfl, HOW, HX, HB⟩ := hrel
    clear ho2 X3 HB3 X2 bw2
    have x0 := HX.out.cell 0
    have x1 := HX.out.cell 1
    by_cases hjt : j < p.length
    · obtain ⟨b5, o5, y, hA5, _, hy, hcy⟩ := (Hp.out wr HB.out).at_ hjt
      simp only [Option.some.injEq, Addr.mk.injEq, and_true] at hA5
      obtain ⟨rfl, rfl⟩ := hA5
      obtain ⟨hy0, t2, ht2⟩ := wk_get HWK.out hy
      obtain ⟨hs1, hs2, hs3⟩ := nodup_step HND.out (begins_get hy ht2)
      obtain ⟨yn, rfl⟩ := Int.eq_ofNat_of_zero_le hy0
      rw [Int.toNat_natCast] at ht2
      have hyt : yn < tb.length := lt_of_get ht2
      obtain ⟨b6, o6, t3, hA6, _, ht3, d0, d1, d2⟩ := (HN.out wr HB.out).at_ hyt
      simp only [Option.some.injEq, Addr.mk.injEq, and_true] at hA6
      obtain ⟨rfl, rfl⟩ := hA6
      obtain rfl := Option.some.inj (ht2.symm.trans ht3)
      have hyi : (yn : Int) < (tb.length : Int) := by omega
      have hBu : (t2.a != u) = true := by simp [hs2]
      have hlt : ((begins tb p).take j).length = j := by rw [List.length_take, begins, List.length_map]; omega
      have hq : Calls Try.prog 146 #[.slice A' j c', .int .i64 t2.a] wr fun e w' => e = .returned (.bool false) ∧ Below wr.heap.size wr w' := by
        have h1 := containsI_any ((begins tb p).take j) t2.a A' c' wr (by omega) (by have h9 := Rd.of_own HOW.out; exact h9)
        rw [hlt, hs1] at h1
        exact h1
      have HQ := hide hq
      have HS3 := hide hs3
      have HXL := hide HX.out.lt
      clear hy ht2 ht3 hq hs1 hs2 hs3 hlt d1 d2
      go_wp2_with (first | (go_at_call 146; (with_reducible refine (HQ.out).mono ?_); rintro e w5 ⟨rfl, b5'⟩; have hown5 := own_below HOW.out b5' (Nat.le_refl _); have HX5 := hide (HX.out.only (lo := wr.heap.size) (hi := wr.heap.size) (only_of_below b5') (.inl HXL.out)); have HB5 := hide (HB.out.trans (b5'.mono HB.out.size)); have hz5 : w.heap.size + 1 ≤ w5.heap.size := HX5.out.lt) | (at_builtin; go_must (refine wp_app _ rfl _ _ 22 rfl (w.heap.size + 1) 2 i0 (.int .i64 0) 1 8 Try.underlying22 hi0 hz0 hs0 hb0 rfl (by decide) _ _ _ rfl (hown5.alloc _) _ _ 1 1 [.int .i64 t2.a] rfl rfl (rd_new _ _ _ _ (by first | rfl | simp)) (int_one _) (by omega) (by decide) (by first | omega | (simp <;> omega) | (simp; omega)) ?_); intro v6 w6 hown6 hgrow6 hat6))
      have hb6 := app_below (HB5.out.alloc HB5.out.size (.cells #[.int .i64 t2.a] 2)) (hown5.alloc (.cells #[.int .i64 t2.a] 2)) hgrow6 (Nat.le_succ _) (by simp <;> omega)
      have hx6 : BoxN w6 w.heap.size #[.int .i64 n, .slice (some ⟨b4, o4, none⟩) tb.length c] 44 := by
        have h := HX5.out.alloc (.cells #[.int .i64 t2.a] 2)
        exact (hgrow6.block _ h.lt (fun e => by have := (hown5.lt _ e.symm).1; omega)).trans h
      obtain ⟨A9, c9, rfl, _⟩ := own_shape hown6
      go_roundg (p.length - (j + 1))
      case measure => have := hgj.out; omega
      case rel => exact ⟨j + 1, A9, c9, by omega, rfl, by go_num, rfl, rfl, by rw [HS3.out, List.map_append]; exact hown6, hx6, hb6⟩
    · go_wp2_with fail
      go_ret
      exact ⟨rfl, HB.out⟩
set_option maxRecDepth 100000 in
set_option maxHeartbeats 4000000 in
theorem settingCode_any (n : Nat) (tb : List T3) (st zs : List Int) (A : Option Addr) (c : Nat) (w : World) (h : OkNet n tb) (hr : Rd3 w w.heap.size A tb) (As : Option Addr) (cs : Nat) (Az : Option Addr) (cz : Nat) (hs : OkSet n tb st) (hst : RdI w w.heap.size As st) (hin : ∀ z ∈ zs, 0 ≤ z ∧ z ≤ (n : Int) - 1) (hzl : zs.length ≤ 100) (hzs : RdI w w.heap.size Az zs) :
    Calls Try.prog 83 #[.agg #[.int .i64 n, .slice A tb.length c], .slice As st.length cs, .slice Az zs.length cz] w fun e w' => e = .returned (.int .i64 0) ∧ Below w.heap.size w w' := by
  have hn10 := h.1.2
  have hn2 := h.1.1
  have b0 : Below w.heap.size w (w.alloc (.cells #[.int .i64 n, .slice A tb.length c] 44)) := (by repeat (first | exact Below.refl _ _ | assumption | (refine Below.alloc ?_ (by simp <;> omega) _) | refine Below.drew ?_ | refine bdn ?_ _))
  have X0 := hide (BoxN.new w #[.int .i64 n, .slice A tb.length c] 44)
  have z0 : w.heap.size < (w.alloc (.cells #[.int .i64 n, .slice A tb.length c] 44)).heap.size := by simp
  have x0 : (w.alloc (.cells #[.int .i64 n, .slice A tb.length c] 44)).cell? ⟨w.heap.size, 0, none⟩ = some (.int .i64 n) := X0.out.cell 0
  have x1 : (w.alloc (.cells #[.int .i64 n, .slice A tb.length c] 44)).cell? ⟨w.heap.size, 1, none⟩ = some (.slice A tb.length c) := X0.out.cell 1
  have HN := hide fun W (hW : Below w.heap.size w W) => ((hr.below hW).more hW.size)
  have Hst := hide fun W (hW : Below w.heap.size w W) => RdI.more (RdI.below hst hW) hW.size
  have Hzs := hide fun W (hW : Below w.heap.size w W) => RdI.more (RdI.below hzs hW) hW.size
  have HV := hide (implValidSetting_any n tb st A c (w.alloc (.cells #[.int .i64 n, .slice A tb.length c] 44)) h (HN.out _ b0) As cs hs (Hst.out _ b0))
  have HO := hide fun W (hW : Below w.heap.size w W) => outside_any zs 0 ((n : Int) - 1) Az cz W (by omega) (Hzs.out W hW)
  have hany : (zs.any fun z => !inB 0 ((n : Int) - 1) z) = false := by
    rw [List.any_eq_false]; intro z hz'; rw [inB_t (hin z hz')]; simp
  clear h hr hst hzs hin hs
  go_enter Try.func83, Try.ntmps83
  go_upto_region 1 with fail
  generalize (w.alloc (.cells #[.int .i64 n, .slice A tb.length c] 44)) = w0 at *
  go_wp2_with (first
    | (go_at_call 144; (with_reducible refine (HV.out).mono ?_); rintro e w1 ⟨rfl, b1⟩; have q0 := (b1.cell (p := ⟨w.heap.size, 0, none⟩) z0).trans x0; have q1 := (b1.cell (p := ⟨w.heap.size, 1, none⟩) z0).trans x1; have bw1 := b0.trans (b1.mono b0.size))
    | (go_at_call 137; (with_reducible refine (HO.out _ bw1).mono ?_); rintro e w2 ⟨rfl, b2⟩; rw [hany]))
  go_ret
  exact ⟨rfl, bw1.trans (b2.mono bw1.size)⟩
set_option maxRecDepth 100000 in
set_option maxHeartbeats 4000000 in
theorem wayCode_any (n : Nat) (tb : List T3) (st p : List Int) (v u : Int) (A : Option Addr) (c : Nat) (w : World) (h : OkNet n tb) (hr : Rd3 w w.heap.size A tb) (As : Option Addr) (cs : Nat) (hs : OkSet n tb st) (hst : RdI w w.heap.size As st) (Ap : Option Addr) (cp : Nat) (hw : wk tb (-1) p v u) (hnd : (begins tb p ++ [u]).Nodup) (hpl : p.length ≤ 1000) (hp : RdI w w.heap.size Ap p) :
    Calls Try.prog 93 #[.agg #[.int .i64 n, .slice A tb.length c], .slice As st.length cs, .slice Ap p.length cp] w fun e w' => e = .returned (.int .i64 0) ∧ Below w.heap.size w w' := by
  have b0 : Below w.heap.size w (w.alloc (.cells #[.int .i64 n, .slice A tb.length c] 44)) := (by repeat (first | exact Below.refl _ _ | assumption | (refine Below.alloc ?_ (by simp <;> omega) _) | refine Below.drew ?_ | refine bdn ?_ _))
  have X0 := hide (BoxN.new w #[.int .i64 n, .slice A tb.length c] 44)
  have z0 : w.heap.size < (w.alloc (.cells #[.int .i64 n, .slice A tb.length c] 44)).heap.size := by simp
  have x0 : (w.alloc (.cells #[.int .i64 n, .slice A tb.length c] 44)).cell? ⟨w.heap.size, 0, none⟩ = some (.int .i64 n) := X0.out.cell 0
  have x1 : (w.alloc (.cells #[.int .i64 n, .slice A tb.length c] 44)).cell? ⟨w.heap.size, 1, none⟩ = some (.slice A tb.length c) := X0.out.cell 1
  have HN := hide fun W (hW : Below w.heap.size w W) => ((hr.below hW).more hW.size)
  have Hst := hide fun W (hW : Below w.heap.size w W) => RdI.more (RdI.below hst hW) hW.size
  have Hp := hide fun W (hW : Below w.heap.size w W) => RdI.more (RdI.below hp hW) hW.size
  have HV := hide (implValidSetting_any n tb st A c (w.alloc (.cells #[.int .i64 n, .slice A tb.length c] 44)) h (HN.out _ b0) As cs hs (Hst.out _ b0))
  have HO := hide fun W (hW : Below w.heap.size w W) => isSimple_any n tb p v u A c W h (HN.out W hW) Ap cp hw hnd hpl (Hp.out W hW)
  clear h hr hst hs hw hnd hp
  go_enter Try.func93, Try.ntmps93
  go_upto_region 1 with fail
  generalize (w.alloc (.cells #[.int .i64 n, .slice A tb.length c] 44)) = w0 at *
  go_wp2_with (first
    | (go_at_call 144; (with_reducible refine (HV.out).mono ?_); rintro e w1 ⟨rfl, b1⟩; have q0 := (b1.cell (p := ⟨w.heap.size, 0, none⟩) z0).trans x0; have q1 := (b1.cell (p := ⟨w.heap.size, 1, none⟩) z0).trans x1; have bw1 := b0.trans (b1.mono b0.size))
    | (go_at_call 97; (with_reducible refine (HO.out _ bw1).mono ?_); rintro e w2 ⟨rfl, b2⟩))
  go_ret
  exact ⟨rfl, bw1.trans (b2.mono bw1.size)⟩
set_option maxRecDepth 100000 in
set_option maxHeartbeats 4000000 in
theorem turnsFor_any (n : Nat) (tb : List T3) (st p : List Int) (v u : Int) (A : Option Addr) (c : Nat) (w : World) (h : OkNet n tb) (hr : Rd3 w w.heap.size A tb) (As : Option Addr) (cs : Nat) (hs : OkSet n tb st) (hst : RdI w w.heap.size As st) (Ap : Option Addr) (cp : Nat) (hw : wk tb (-1) p v u) (hnd : (begins tb p ++ [u]).Nodup) (hpl : p.length ≤ 1000) (hp : RdI w w.heap.size Ap p) :
    Calls Try.prog 22 #[.agg #[.int .i64 n, .slice A tb.length c], .slice As st.length cs, .slice Ap p.length cp] w fun e w' => e = .returned (.tuple #[.int .i64 (turnsC tb st p), .int .i64 0]) ∧ Below w.heap.size w w' := by
  have b0 : Below w.heap.size w (w.alloc (.cells #[.int .i64 n, .slice A tb.length c] 44)) := (by repeat (first | exact Below.refl _ _ | assumption | (refine Below.alloc ?_ (by simp <;> omega) _) | refine Below.drew ?_ | refine bdn ?_ _))
  have X0 := hide (BoxN.new w #[.int .i64 n, .slice A tb.length c] 44)
  have z0 : w.heap.size < (w.alloc (.cells #[.int .i64 n, .slice A tb.length c] 44)).heap.size := by simp
  have x0 : (w.alloc (.cells #[.int .i64 n, .slice A tb.length c] 44)).cell? ⟨w.heap.size, 0, none⟩ = some (.int .i64 n) := X0.out.cell 0
  have x1 : (w.alloc (.cells #[.int .i64 n, .slice A tb.length c] 44)).cell? ⟨w.heap.size, 1, none⟩ = some (.slice A tb.length c) := X0.out.cell 1
  have HN := hide fun W (hW : Below w.heap.size w W) => ((hr.below hW).more hW.size)
  have Hst := hide fun W (hW : Below w.heap.size w W) => RdI.more (RdI.below hst hW) hW.size
  have Hp := hide fun W (hW : Below w.heap.size w W) => RdI.more (RdI.below hp hW) hW.size
  have HV := hide (wayCode_any n tb st p v u A c (w.alloc (.cells #[.int .i64 n, .slice A tb.length c] 44)) h (HN.out _ b0) As cs hs (Hst.out _ b0) Ap cp hw hnd hpl (Hp.out _ b0))
  have HO := hide fun W (hW : Below w.heap.size w W) => turns_any n tb st p v u A c W h (HN.out W hW) As cs Ap cp hs hw hpl (Hst.out W hW) (Hp.out W hW)
  clear h hr hst hs hw hnd hp
  go_enter Try.func22, Try.ntmps22
  go_upto_region 1 with fail
  generalize (w.alloc (.cells #[.int .i64 n, .slice A tb.length c] 44)) = w0 at *
  go_wp2_with (first
    | (go_at_call 93; (with_reducible refine (HV.out).mono ?_); rintro e w1 ⟨rfl, b1⟩; have q0 := (b1.cell (p := ⟨w.heap.size, 0, none⟩) z0).trans x0; have q1 := (b1.cell (p := ⟨w.heap.size, 1, none⟩) z0).trans x1; have bw1 := b0.trans (b1.mono b0.size))
    | (go_at_call 86; (with_reducible refine (HO.out _ bw1).mono ?_); rintro e w2 ⟨rfl, b2⟩))
  go_ret2
  exact ⟨rfl, bw1.trans (b2.mono bw1.size)⟩
set_option maxRecDepth 100000 in
set_option maxHeartbeats 4000000 in
theorem isWay_any (n : Nat) (tb : List T3) (p : List Int) (v u : Int) (A : Option Addr) (c : Nat) (w : World) (h : OkNet n tb) (hr : Rd3 w w.heap.size A tb) (Ap : Option Addr) (cp : Nat) (hw : wk tb (-1) p v u) (hv : 0 ≤ v ∧ v ≤ (n : Int) - 1) (hu : 0 ≤ u ∧ u ≤ (n : Int) - 1) (hpl : p.length ≤ 1000) (hp : RdI w w.heap.size Ap p) :
    Calls Try.prog 21 #[.agg #[.int .i64 n, .slice A tb.length c], .slice Ap p.length cp, .int .i64 v, .int .i64 u] w fun e w' => e = .returned (.tuple #[.bool true, .int .i64 0]) ∧ Below w.heap.size w w' := by
  have b0 : Below w.heap.size w (w.alloc (.cells #[.int .i64 n, .slice A tb.length c] 44)) := (by repeat (first | exact Below.refl _ _ | assumption | (refine Below.alloc ?_ (by simp <;> omega) _) | refine Below.drew ?_ | refine bdn ?_ _))
  have X0 := hide (BoxN.new w #[.int .i64 n, .slice A tb.length c] 44)
  have z0 : w.heap.size < (w.alloc (.cells #[.int .i64 n, .slice A tb.length c] 44)).heap.size := by simp
  have x0 : (w.alloc (.cells #[.int .i64 n, .slice A tb.length c] 44)).cell? ⟨w.heap.size, 0, none⟩ = some (.int .i64 n) := X0.out.cell 0
  have x1 : (w.alloc (.cells #[.int .i64 n, .slice A tb.length c] 44)).cell? ⟨w.heap.size, 1, none⟩ = some (.slice A tb.length c) := X0.out.cell 1
  have HN := hide fun W (hW : Below w.heap.size w W) => ((hr.below hW).more hW.size)
  have Hp := hide fun W (hW : Below w.heap.size w W) => RdI.more (RdI.below hp hW) hW.size
  have W2 : Below w.heap.size w ((w.alloc (.cells #[.int .i64 n, .slice A tb.length c] 44)).alloc (.cells #[.int .i64 v, .int .i64 u] 2)) := b0.alloc b0.size _
  have X2 := hide (X0.out.alloc (.cells #[.int .i64 v, .int .i64 u] 2))
  have hv9 : Calls Try.prog 90 #[.agg #[.int .i64 n, .slice A tb.length c], .slice (some ⟨(w.alloc (.cells #[.int .i64 n, .slice A tb.length c] 44)).heap.size, 0, none⟩) 2 2] ((w.alloc (.cells #[.int .i64 n, .slice A tb.length c] 44)).alloc (.cells #[.int .i64 v, .int .i64 u] 2)) fun e w' => e = .returned (.int .i64 0) ∧ Below ((w.alloc (.cells #[.int .i64 n, .slice A tb.length c] 44)).alloc (.cells #[.int .i64 v, .int .i64 u] 2)).heap.size ((w.alloc (.cells #[.int .i64 n, .slice A tb.length c] 44)).alloc (.cells #[.int .i64 v, .int .i64 u] 2)) w' := (netCode_any n tb [v, u] A (some ⟨(w.alloc (.cells #[.int .i64 n, .slice A tb.length c] 44)).heap.size, 0, none⟩) c 2 ((w.alloc (.cells #[.int .i64 n, .slice A tb.length c] 44)).alloc (.cells #[.int .i64 v, .int .i64 u] 2)) h (HN.out _ W2) (fun z hz => by simp at hz; rcases hz with rfl | rfl <;> assumption) (by simp) (fun _ => ⟨(w.alloc (.cells #[.int .i64 n, .slice A tb.length c] 44)).heap.size, 0, rfl, by simp, fun j u hj => by
    match j, hj with
    | 0, hj => simp at hj; subst hj; simp [go_sem]
    | 1, hj => simp at hj; subst hj; simp [go_sem]
    | j + 2, hj => simp at hj⟩))
  have HV := hide hv9
  clear hv9
  have HA := hide fun W (hW : Below w.heap.size w W) => areTubes_any n tb p A c W h (HN.out W hW) Ap cp (wk_in hw) hpl (Hp.out W hW)
  have HE := hide fun W (hW : Below w.heap.size w W) => endOf_any n tb p v u A c W h (HN.out W hW) Ap cp hw hpl (Hp.out W hW)
  have hz2 : w.heap.size < ((w.alloc (.cells #[.int .i64 n, .slice A tb.length c] 44)).alloc (.cells #[.int .i64 v, .int .i64 u] 2)).heap.size := by simp; omega
  have y0 : ((w.alloc (.cells #[.int .i64 n, .slice A tb.length c] 44)).alloc (.cells #[.int .i64 v, .int .i64 u] 2)).cell? ⟨w.heap.size, 0, none⟩ = some (.int .i64 n) := X2.out.cell 0
  have y1 : ((w.alloc (.cells #[.int .i64 n, .slice A tb.length c] 44)).alloc (.cells #[.int .i64 v, .int .i64 u] 2)).cell? ⟨w.heap.size, 1, none⟩ = some (.slice A tb.length c) := X2.out.cell 1
  clear h hr hp hw hv hu
  go_enter Try.func21, Try.ntmps21
  go_upto_region 1 with fail
  generalize (w.alloc (.cells #[.int .i64 n, .slice A tb.length c] 44)) = w0 at *
  go_wp2_with (first
    | (go_at_call 90; (with_reducible refine (HV.out).mono ?_); rintro e w1 ⟨rfl, b1⟩; have q0 := (b1.cell (p := ⟨w.heap.size, 0, none⟩) hz2).trans y0; have q1 := (b1.cell (p := ⟨w.heap.size, 1, none⟩) hz2).trans y1; have bw1 := W2.trans (b1.mono W2.size); have z1 := Nat.lt_of_lt_of_le hz2 b1.size)
    | (go_at_call 91; (with_reducible refine (HA.out _ bw1).mono ?_); rintro e w2 ⟨rfl, b2⟩; have r0 := (b2.cell (p := ⟨w.heap.size, 0, none⟩) z1).trans q0; have r1 := (b2.cell (p := ⟨w.heap.size, 1, none⟩) z1).trans q1; have bw2 := bw1.trans (b2.mono bw1.size))
    | (go_at_call 92; (with_reducible refine (HE.out _ bw2).mono ?_); rintro e w3 ⟨rfl, b3⟩; have bw3 := bw2.trans (b3.mono bw2.size)))
  go_ret2
  exact ⟨by simp, bw3⟩
end Go.Proofs.Ytlkccijlbeibjaa
namespace Go.Proofs.Ytlkccijlbeibjaa
open Go.RowKit
theorem lenW_drop {tb : List T3} {p : List Int} {k : Nat} {i : Int} (h : p[k]? = some i) : lenW tb (p.drop k) = (tubeAt tb i).c + lenW tb (p.drop (k + 1)) := by rw [drop_cons h, lenW]
theorem lenW_end {tb : List T3} {p : List Int} {k : Nat} (h : p.length ≤ k) : lenW tb (p.drop k) = 0 := by rw [List.drop_eq_nil_of_le h, lenW]
theorem cl1_drop {st : Int → Int} {i m : Int} {b : List Int} {q : Nat} {k : Int} (h : b[q]? = some k) : cl1 st i (b.drop q) m = cl1 st i (b.drop (q + 1)) (if i ≠ k ∧ st k = st i ∧ (m < 0 ∨ st i < m) then st i else m) := by rw [drop_cons h, cl1]
theorem cl1_end {st : Int → Int} {i m : Int} {b : List Int} {q : Nat} (h : b.length ≤ q) : cl1 st i (b.drop q) m = m := by rw [List.drop_eq_nil_of_le h, cl1]
theorem clS_drop {st : Int → Int} {m : Int} {a b : List Int} {q : Nat} {i : Int} (h : a[q]? = some i) : clS st b (a.drop q) m = clS st b (a.drop (q + 1)) (cl1 st i b m) := by rw [drop_cons h, clS]
theorem clS_end {st : Int → Int} {m : Int} {a b : List Int} {q : Nat} (h : a.length ≤ q) : clS st b (a.drop q) m = m := by rw [List.drop_eq_nil_of_le h, clS]
set_option maxRecDepth 100000 in
set_option maxHeartbeats 4000000 in
theorem length_any (n : Nat) (tb : List T3) (p : List Int) (v u : Int) (A : Option Addr) (c : Nat) (w : World) (h : OkNet n tb) (hr : Rd3 w w.heap.size A tb) (Ap : Option Addr) (cp : Nat) (hw : wk tb (-1) p v u) (hpl : p.length ≤ 1000) (hp : RdI w w.heap.size Ap p) :
    Calls Try.prog 87 #[.agg #[.int .i64 n, .slice A tb.length c], .slice Ap p.length cp] w fun e w' => e = .returned (.int .i64 (lenW tb p)) ∧ Below w.heap.size w w' := by
  have hl24 := h.2.1
  have HOK := hide (okTubes_of h)
  have b0 : Below w.heap.size w (w.alloc (.cells #[.int .i64 n, .slice A tb.length c] 44)) := (by repeat (first | exact Below.refl _ _ | assumption | (refine Below.alloc ?_ (by simp <;> omega) _) | refine Below.drew ?_ | refine bdn ?_ _))
  have k1 : (w.alloc (.cells #[.int .i64 n, .slice A tb.length c] 44)).cell? ⟨w.heap.size, 1, none⟩ = some (.slice A tb.length c) := by simp [go_sem]
  have z0 : w.heap.size < (w.alloc (.cells #[.int .i64 n, .slice A tb.length c] 44)).heap.size := by simp
  have HN := hide fun W (hW : Below w.heap.size w W) => ((hr.below hW).more hW.size)
  have Hp := hide fun W (hW : Below w.heap.size w W) => RdI.more (RdI.below hp hW) hW.size
  clear h hr hp
  have HWK := hide hw
  clear hw
  go_enter Try.func87, Try.ntmps87
  go_upto_region 1 with fail
  generalize (w.alloc (.cells #[.int .i64 n, .slice A tb.length c] 44)) = w0 at *
  go_wp2_with fail
  go_loopg [10, 5] p.length (fun g i s wr => ∃ (j : Nat) (x : Int), j ≤ p.length ∧ Hid (g = p.length - j) ∧ i = .int .i64 j ∧ s = .int .i64 x ∧ 0 ≤ x ∧ x ≤ 2000 * j ∧ Hid (lenW tb p = x + lenW tb (p.drop j)) ∧ Hid (Below w0.heap.size w0 wr))
  case atStart => exact ⟨0, 0, by omega, by simp [Hid], rfl, rfl, by omega, by omega, by simp [Hid], Below.refl _ _⟩
  case round =>
    obtain ⟨j, x, hj, hgj, rfl, rfl, hx0, hx1, HT, HB⟩ := hrel
    have r1 := (HB.out.cell (p := ⟨w.heap.size, 1, none⟩) z0).trans k1
    have hbw := b0.trans (HB.out.mono b0.size)
    clear k1
    by_cases hjt : j < p.length
    · obtain ⟨b3, o3, z, rfl, _, hz, hc⟩ := (Hp.out wr hbw).at_ hjt
      obtain ⟨hz0, t, ht⟩ := wk_get HWK.out hz
      have hT := HT.out
      rw [lenW_drop hz] at hT
      obtain ⟨zn, rfl⟩ := Int.eq_ofNat_of_zero_le hz0
      have hta := tubeAt_get ht
      rw [hta] at hT
      rw [Int.toNat_natCast] at ht
      have hzt : zn < tb.length := lt_of_get ht
      have hbt := (HOK.out t (List.mem_of_getElem? ht)).2.2
      obtain ⟨b4, o4, t', rfl, _, ht', c0, c1, c2⟩ := (HN.out wr hbw).at_ hzt
      obtain rfl := Option.some.inj (ht.symm.trans ht')
      have hzi : (zn : Int) < (tb.length : Int) := by omega
      have HT2 : Hid (lenW tb p = (x + t.c) + lenW tb (p.drop (j + 1))) := by unfold Hid; omega
      have hwr : IntKind.i64.wrap (x + t.c) = x + t.c := by rw [IntKind.wrap_i64] <;> omega
      obtain ⟨hb1, hb2⟩ := hbt
      clear hz ht ht' HT hta hT hbw c0 c1
      go_wp2_with fail
      go_roundg (p.length - (j + 1))
      case measure => have := hgj.out; omega
      case rel => exact ⟨j + 1, x + t.c, by omega, rfl, by go_num, rfl, by omega, by omega, HT2, HB⟩
    · have hd := HT.out
      rw [lenW_end (by omega), Int.add_zero] at hd
      go_wp2_with fail
      go_ret
      exact ⟨ret_i hd.symm, hbw⟩
set_option maxRecDepth 100000 in
set_option maxHeartbeats 4000000 in
theorem clash_any (n : Nat) (tb : List T3) (a b : List Int) (v u v' u' : Int) (A : Option Addr) (c : Nat) (w : World) (h : OkNet n tb) (hr : Rd3 w w.heap.size A tb) (Aa : Option Addr) (ca : Nat) (ha : wk tb (-1) a v u) (hal : a.length ≤ 1000) (hra : RdI w w.heap.size Aa a) (Ab : Option Addr) (cb : Nat) (hb : wk tb (-1) b v' u') (hbl : b.length ≤ 1000) (hrb : RdI w w.heap.size Ab b) :
    Calls Try.prog 98 #[.agg #[.int .i64 n, .slice A tb.length c], .slice Aa a.length ca, .slice Ab b.length cb] w fun e w' => e = .returned (.int .i64 (clash tb a b)) ∧ Below w.heap.size w w' := by
  have hl24 := h.2.1
  have b0 : Below w.heap.size w (w.alloc (.cells #[.int .i64 n, .slice A tb.length c] 44)) := (by repeat (first | exact Below.refl _ _ | assumption | (refine Below.alloc ?_ (by simp <;> omega) _) | refine Below.drew ?_ | refine bdn ?_ _))
  have k1 : (w.alloc (.cells #[.int .i64 n, .slice A tb.length c] 44)).cell? ⟨w.heap.size, 1, none⟩ = some (.slice A tb.length c) := by simp [go_sem]
  have z0 : w.heap.size < (w.alloc (.cells #[.int .i64 n, .slice A tb.length c] 44)).heap.size := by simp
  have HN := hide fun W (hW : Below w.heap.size w W) => ((hr.below hW).more hW.size)
  have Ha := hide fun W (hW : Below w.heap.size w W) => RdI.more (RdI.below hra hW) hW.size
  have Hb := hide fun W (hW : Below w.heap.size w W) => RdI.more (RdI.below hrb hW) hW.size
  have HWA := hide ha
  have HWB := hide hb
  clear h hr hra hrb ha hb
  go_enter Try.func98, Try.ntmps98
  go_upto_region 1 with fail
  generalize (w.alloc (.cells #[.int .i64 n, .slice A tb.length c] 44)) = w0 at *
  go_wp2_with fail
  go_loopg [15, 7] a.length (fun g i s wr => ∃ (j : Nat) (m : Int), j ≤ a.length ∧ Hid (g = a.length - j) ∧ i = .int .i64 j ∧ s = .int .i64 m ∧ Hid (clash tb a b = clS (fun i => (tubeAt tb i).a) b (a.drop j) m) ∧ Hid (Below w0.heap.size w0 wr))
  case atStart => exact ⟨0, -1, by omega, by simp [Hid], rfl, rfl, by simp [Hid, clash], Below.refl _ _⟩
  case round =>
    obtain ⟨j, m, hj, hgj, rfl, rfl, HT, HB⟩ := hrel
    have hbw := b0.trans (HB.out.mono b0.size)
    by_cases hjt : j < a.length
    case neg =>
      have hd := HT.out
      rw [clS_end (by omega)] at hd
      have HD := hide hd
      clear hd
      go_wp2_with fail
      go_ret
      exact ⟨ret_i HD.out.symm, hbw⟩
    obtain ⟨b3, o3, z, hAa, _, hz, hc⟩ := (Ha.out wr hbw).at_ hjt
    subst hAa
    obtain ⟨hz0, t, ht⟩ := wk_get HWA.out hz
    have hT := HT.out
    rw [clS_drop hz] at hT
    have HT2 := hide hT
    obtain ⟨zn, rfl⟩ := Int.eq_ofNat_of_zero_le hz0
    have HTA := hide (tubeAt_get ht)
    rw [Int.toNat_natCast] at ht
    have hzt : zn < tb.length := lt_of_get ht
    have hzi : (zn : Int) < (tb.length : Int) := by omega
    have HTJ := hide ht
    clear hz ht hT HT
    obtain ⟨wU, hwU⟩ : ∃ q, q = wr := ⟨wr, rfl⟩
    subst hwU
    go_wp2_with fail
    go_loopg [21, 7] b.length (fun g i s wr => ∃ (q : Nat) (m' : Int), q ≤ b.length ∧ Hid (g = b.length - q) ∧ i = .int .i64 q ∧ s = .int .i64 m' ∧ Hid (cl1 (fun i => (tubeAt tb i).a) (zn : Int) b m = cl1 (fun i => (tubeAt tb i).a) (zn : Int) (b.drop q) m') ∧ Hid (Below w0.heap.size w0 wr))
    case atStart => exact ⟨0, m, by omega, by simp [Hid], rfl, rfl, by simp [Hid], HB⟩
    case round =>
      obtain ⟨q, m', hq, hgq, rfl, rfl, HI, HB2⟩ := hrel
      have r1 := (HB2.out.cell (p := ⟨w.heap.size, 1, none⟩) z0).trans k1
      have hbv := b0.trans (HB2.out.mono b0.size)
      clear k1
      by_cases hqt : q < b.length
      case neg =>
        have hd := HI.out
        rw [cl1_end (by omega)] at hd
        have HD := hide hd
        have HT3 : Hid (clash tb a b = clS (fun i => (tubeAt tb i).a) b (a.drop (j + 1)) m') := by have := HT2.out; unfold Hid; rw [this, HD.out]
        clear hd
        go_wp2_with fail
        go_roundg (a.length - (j + 1))
        case measure => have := hgj.out; omega
        case rel => exact ⟨j + 1, m', by omega, rfl, by go_num, rfl, HT3, HB2⟩
      obtain ⟨b4, o4, y, hAb, _, hy, hcy⟩ := (Hb.out wr hbv).at_ hqt
      subst hAb
      obtain ⟨hy0, t2, ht2⟩ := wk_get HWB.out hy
      have hI := HI.out
      rw [cl1_drop hy] at hI
      obtain ⟨yn, rfl⟩ := Int.eq_ofNat_of_zero_le hy0
      have hta2 := tubeAt_get ht2
      rw [hta2, HTA.out] at hI
      rw [Int.toNat_natCast] at ht2
      have hyt : yn < tb.length := lt_of_get ht2
      have hyi : (yn : Int) < (tb.length : Int) := by omega
      obtain ⟨b5, o5, t', hA, _, ht', c0, c1, c2⟩ := (HN.out wr hbv).at_ hzt
      subst hA
      obtain rfl := Option.some.inj (HTJ.out.symm.trans ht')
      obtain ⟨b6, o6, t'', hA2, _, ht'', d0, d1, d2⟩ := (HN.out wr hbv).at_ hyt
      obtain ⟨rfl, rfl⟩ : b5 = b6 ∧ o5 = o6 := by cases hA2; exact ⟨rfl, rfl⟩
      obtain rfl := Option.some.inj (ht2.symm.trans ht'')
      clear hy ht2 ht' ht'' hta2 hA2 c1 c2 d1 d2 HI
      obtain ⟨ta, tt, tc⟩ := t
      obtain ⟨ya, yt, yc⟩ := t2
      dsimp only at *
      by_cases h1 : zn = yn
      · rw [if_neg (fun e => e.1 (by rw [h1]))] at hI
        have hB : ((zn : Int) != (yn : Int)) = false := by simp; omega
        have HI2 := hide hI
        have H1 := hide h1
        clear hI h1
        go_wp2_with fail
        go_roundg (b.length - (q + 1))
        case measure => have := hgq.out; omega
        case rel => exact ⟨q + 1, m', by omega, rfl, by go_num, rfl, HI2, HB2⟩
      have hB : ((zn : Int) != (yn : Int)) = true := by simp; omega
      by_cases h2 : ya = ta
      case neg =>
        rw [if_neg (fun e => h2 e.2.1)] at hI
        have hB2 : (ya == ta) = false := by simpa using h2
        have HI2 := hide hI
        have H1 := hide h1
        have H2 := hide h2
        clear hI h1 h2
        go_wp2_with fail
        go_roundg (b.length - (q + 1))
        case measure => have := hgq.out; omega
        case rel => exact ⟨q + 1, m', by omega, rfl, by go_num, rfl, HI2, HB2⟩
      have hB2 : (ya == ta) = true := by simpa using h2
      have hne : (zn : Int) ≠ (yn : Int) := by omega
      by_cases h3 : m' < 0
      · rw [if_pos ⟨hne, h2, .inl h3⟩] at hI
        have HI2 := hide hI
        have H1 := hide h1
        have H2 := hide h2
        clear hI h1 h2 hne
        go_wp2_with fail
        go_roundg (b.length - (q + 1))
        case measure => have := hgq.out; omega
        case rel => exact ⟨q + 1, ta, by omega, rfl, by go_num, rfl, HI2, HB2⟩
      by_cases h4 : ta < m'
      · rw [if_pos ⟨hne, h2, .inr h4⟩] at hI
        have h3' : ¬ m' < 0 := h3
        have HI2 := hide hI
        have H1 := hide h1
        have H2 := hide h2
        clear hI h1 h2 hne
        go_wp2_with fail
        go_roundg (b.length - (q + 1))
        case measure => have := hgq.out; omega
        case rel => exact ⟨q + 1, ta, by omega, rfl, by go_num, rfl, HI2, HB2⟩
      · rw [if_neg (fun e => by rcases e.2.2 with e | e; exact h3 e; exact h4 e)] at hI
        have HI2 := hide hI
        have H1 := hide h1
        have H2 := hide h2
        clear hI h1 h2 hne
        go_wp2_with fail
        go_roundg (b.length - (q + 1))
        case measure => have := hgq.out; omega
        case rel => exact ⟨q + 1, m', by omega, rfl, by go_num, rfl, HI2, HB2⟩
end Go.Proofs.Ytlkccijlbeibjaa
