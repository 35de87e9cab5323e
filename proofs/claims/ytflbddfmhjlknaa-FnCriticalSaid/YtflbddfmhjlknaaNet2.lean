/-
  Least lengths in the program: lists of one number repeated.
-/
import Derived.Shelf.Bits.Mul64
import Derived.Laws.CopyOwn
import Derived.Deep.RegionHeld3
import Derived.Test.YtflbddfmhjlknaaNet1
namespace Go.Proofs
open Go.Shelf
def Ytflbddfmhjlknaa.mul_ren : Go.Shelf.Ren := ⟨fun | 212 => 177 | 263 => 189 | 264 => 190 | n => n, fun | 46 => 181 | 51 => 204 | 53 => 156 | 146 => 206 | 148 => 208 | n => n, fun | n => n⟩
theorem Ytflbddfmhjlknaa.mul_lay : Lays.n212 Try.prog Ytflbddfmhjlknaa.mul_ren := {
  mixed := by kernel_rfl
  f212 := Try.func177.trans (congrArg some (by kernel_rfl))
  f263 := Try.func189.trans (congrArg some (by kernel_rfl))
  f264 := Try.func190.trans (congrArg some (by kernel_rfl))
  t46 := Try.underlying181
  a46 := Try.isAgg181
  z46 := Try.sizeOf181
  v46 := Try.zeroValue181
  t51 := Try.underlying204
  a51 := Try.isAgg204
  z51 := Try.sizeOf204
  v51 := Try.zeroValue204
  t53 := Try.underlying156
  a53 := Try.isAgg156
  z53 := Try.sizeOf156
  v53 := Try.zeroValue156
  t146 := Try.underlying206
  a146 := Try.isAgg206
  z146 := Try.sizeOf206
  v146 := Try.zeroValue206
  t148 := Try.underlying208
  a148 := Try.isAgg208
  z148 := Try.sizeOf208
  v148 := Try.zeroValue208 }
end Go.Proofs
namespace Go.Proofs.Ytflbddfmhjlknaa
open Go.RowKit
theorem own_heap1 {w : World} {base : Nat} {e : TypeId} {g n : Nat} {xs : List Value} (h : w.ownsRow base e 1 (.slice (some ⟨g, 0, none⟩) n n) n xs) : w.heap[g]? = some (.cells xs.toArray e (0, 0)) := by
  rcases h.2 with ⟨e0, _⟩ | ⟨g', cap', cur, e0, hb, hg, hn, hm, hs, ht⟩
  · cases e0
  · injection e0 with e1 _ e3
    injection e1 with e1
    injection e1 with e1
    subst e1; subst e3
    rw [hg]
    have : cur.toList = xs := by rw [← ht, List.take_of_length_le]; simp [hs]
    rw [← this]
theorem heap_own1 {w : World} {base : Nat} {e : TypeId} {g n : Nat} {xs : List Value} (hl : xs.length = n) (hn : n ≤ 1048576) (hb : base ≤ g) (h : w.heap[g]? = some (.cells xs.toArray e (0, 0))) : w.ownsRow base e 1 (.slice (some ⟨g, 0, none⟩) n n) n xs :=
  ⟨by omega, .inr ⟨g, n, xs.toArray, rfl, hb, h, Nat.le_refl _, by unfold maxLen; omega, by simp [hl], by simp [← hl]⟩⟩
theorem mul1_any (n : Nat) (w : World) (hn : n ≤ 1000) : Calls Try.prog 177 #[.int .u64 1, .int .u64 n] w fun e w' => e = .returned (.tuple #[.int .u64 0, .int .u64 n]) ∧ w = w' := by
  refine (Any.bits_Mul Ytflbddfmhjlknaa.mul_lay 1 n (by omega) (by omega) w).mono ?_
  rintro e w' ⟨rfl, rfl⟩
  refine ⟨?_, rfl⟩
  rw [Nat.one_mul, Nat.div_eq_of_lt (by omega), Nat.mod_eq_of_lt (by omega)]; rfl
def repC (m n : Nat) : List Value := (List.replicate m (-1 : Int) ++ List.replicate (n - m) 0).map (Value.int .i64)
theorem repC_len {m n : Nat} (h : m ≤ n) : (repC m n).length = n := by simp [repC]; omega
theorem repC_get {m n j : Nat} (h : j < m) : (repC m n)[j]? = some (.int .i64 (-1)) := by
  unfold repC
  rw [List.getElem?_map, List.getElem?_append_left (by simpa using h), List.getElem?_replicate, if_pos h]; rfl
theorem repC_splice {m n k : Nat} (h : m + k ≤ n) : splice (repC m n) m (List.replicate k (Value.int .i64 (-1))) = repC (m + k) n := by
  apply List.ext_getElem?
  intro j
  unfold splice repC
  simp only [List.map_append, List.map_replicate, List.length_replicate]
  grind
set_option maxRecDepth 100000 in
set_option maxHeartbeats 4000000 in
theorem repeat_any (n g : Nat) (w : World) (hn : 2 ≤ n) (hn10 : n ≤ 10) (hc : w.cell? ⟨g, 0, none⟩ = some (.int .i64 (-1))) :
    Calls Try.prog 159 #[.slice (some ⟨g, 0, none⟩) 1 1, .int .i64 n] w fun e w' => ∃ g', e = .returned (.slice (some ⟨g', 0, none⟩) n n) ∧ w'.ownsRow w.heap.size 2 1 (.slice (some ⟨g', 0, none⟩) n n) n ((List.replicate n (-1 : Int)).map (Value.int .i64)) ∧ Below w.heap.size w w' := by
  obtain ⟨i0, hi0, hz0, hs0, hb0⟩ := info_parts int64_info
  have hsz : (Try.prog.info? 2).map (·.size) = some 1 := by rw [hi0, ← hs0]; rfl
  have hgl := World.block_lt_of_cell? w _ hc
  dsimp only at hgl
  have HM := hide fun W => mul1_any n W (by omega)
  go_enter Try.func159, Try.ntmps159
  go_upto_region 7 with (first | (go_at_call 177; refine (HM.out _).mono ?_; rintro e w' ⟨rfl, rfl⟩) | (refine wpList_make_full _ rfl _ _ _ rfl w.heap.size 2 i0 _ 1 Try.underlying30 hi0 hz0 hs0 .i64 .i64 (n : Int) (n : Int) n rfl rfl rfl rfl (by rw [hb0]; omega) (by unfold maxLen; omega) (Nat.le_refl _) ?_; intro w1 hown1 hgr1))
  have hr1 : w1.ownsRow w.heap.size 2 1 (.slice (some ⟨w.heap.size, 0, none⟩) n n) n (repC 0 n) := by
    have h := made_ints n
    rw [h] at hown1
    exact hown1
  have hb1 : Below w.heap.size w w1 := (Below.refl _ _).grown hgr1 (Nat.le_refl _) (by intro k hk; cases hk)
  have hg1 := hide (own_heap1 hr1)
  have hc1 := (hb1.cell (p := ⟨g, 0, none⟩) hgl).trans hc
  clear hown1 hgr1 hr1 hc
  have HN1 := hide (show (List.replicate 1 (Value.int .i64 (-1))).length = Nat.min 1 n by rw [List.length_replicate]; exact (Nat.min_eq_left (by omega)).symm)
  have HP1 := hide (show ∀ j v, (List.replicate 1 (Value.int .i64 (-1)))[j]? = some v → w1.cell? ((⟨g, 0, none⟩ : Addr).add j) = some v from fun j v hj => by
    match j, hj with
    | 0, hj => simp at hj; subst hj; exact hc1
    | j + 1, hj => simp at hj)
  have HF1 := hide (show 0 + (List.replicate 1 (Value.int .i64 (-1))).length ≤ (repC 0 n).length by rw [List.length_replicate, repC_len (Nat.zero_le _)]; omega)
  have HO1 := hide (show ∀ v ∈ List.replicate 1 (Value.int .i64 (-1)), v.oneCell' = true from fun v hv => by rw [List.eq_of_mem_replicate hv]; rfl)
  have HL1 := hide (show (((List.replicate 1 (Value.int .i64 (-1))).length : Nat) : Int) = 1 from rfl)
  go_wp2_with (with_reducible (refine wpList_copy_splice rfl _ _ 30 30 rfl 2 Try.underlying30 hsz _ _ _ _ _ _ rfl rfl w.heap.size 0 (repC 0 n) 2 hg1.out (List.replicate 1 (Value.int .i64 (-1))) HN1.out (fun _ => ⟨rfl, ⟨g, 0, none⟩, rfl, HP1.out⟩) HF1.out HO1.out w.heap.size w hb1 (Nat.le_refl _) ?_); intro w2 hg2 hb2)
  have HG2 : Hid (w2.heap[w.heap.size]? = some (.cells (repC 1 n).toArray 2 (0, 0))) := by
    have h := hg2.out
    rw [repC_splice (m := 0) (k := 1) (by omega)] at h
    exact h
  clear hg2 HN1 HP1 HF1 HO1 HL1 hg1 hb1 hc1 HM
  go_loopg [8] (n - 1) (fun gg i wr => ∃ m : Nat, 1 ≤ m ∧ m ≤ n ∧ Hid (gg = n - m) ∧ i = .int .i64 m ∧ Hid (wr.heap[w.heap.size]? = some (.cells (repC m n).toArray 2 (0, 0))) ∧ Below w.heap.size w wr)
  case atStart => exact ⟨1, Nat.le_refl _, by omega, rfl, by first | rfl | (simp) | go_num, HG2, hb2⟩
  case round =>
    obtain ⟨m, hm1, hm, hgg, rfl, HG, hb⟩ := hrel
    clear HG2 hb2
    by_cases hmt : m < n
    · have hm0 : (m : Int) < (n : Int) := by omega
      have hm9 : (m : Int) ≤ (n : Int) := by omega
      go_wp2_with fail
      have HGd : Hid (wr.drew.heap[w.heap.size]? = some (.cells (repC m n).toArray 2 (0, 0))) := HG.out
      have hbd : Below w.heap.size w wr.drew := hb.drew
      have hown := heap_own1 (repC_len hm) (by omega) (Nat.le_refl w.heap.size) HGd.out
      obtain ⟨k, hk⟩ : ∃ k, k = Nat.min m (n - m) := ⟨_, rfl⟩
      have hk1 : k ≤ m := by rw [hk]; exact Nat.min_le_left _ _
      have hk2 : k ≤ n - m := by rw [hk]; exact Nat.min_le_right _ _
      have hk0 : 1 ≤ k := by rw [hk]; exact Nat.le_min.2 ⟨hm1, by omega⟩
      have HN := hide (show (List.replicate k (Value.int .i64 (-1))).length = Nat.min m (n - m) by rw [List.length_replicate]; exact hk)
      have HP := hide (show ∀ j v, (List.replicate k (Value.int .i64 (-1)))[j]? = some v → wr.drew.cell? ((⟨w.heap.size, 0, none⟩ : Addr).add j) = some v from fun j v hj => by
        rw [List.getElem?_replicate] at hj
        split at hj
        · rename_i hjk
          have h := hown.cellAt j (by omega)
          rw [repC_get (by omega)] at h
          rw [← hj]
          have e : ((⟨w.heap.size, 0, none⟩ : Addr).add j) = ⟨w.heap.size, j, none⟩ := by by_cases hj0 : j = 0 <;> simp [Addr.add, hj0]
          rw [e]; exact h
        · cases hj)
      have HF := hide (show m + (List.replicate k (Value.int .i64 (-1))).length ≤ (repC m n).length by rw [List.length_replicate, repC_len hm]; omega)
      have HO := hide (show ∀ v ∈ List.replicate k (Value.int .i64 (-1)), v.oneCell' = true from fun v hv => by rw [List.eq_of_mem_replicate hv]; rfl)
      have HK := hide hk
      clear hown hk hb HG
      refine wp_region_held_drew (S := fun W => True) (by kernel_rfl) (trivial) (fun hHeld => ?_)
      generalize wr.drew = wd at *
      refine wpAnyH_take (i := 0) (v := ?_) rfl (by kernel_rfl) (by kernel_rfl) (by kernel_rfl) (fun _ _ _ h => h) (Or.inl ⟨by rfl, ?_⟩) (by assumption) ?_
      rotate_left 1
      · (intro w hSw; (try dsimp only at hSw); go_simp; try with_reducible rfl)
      try simp only [Act.put, List.getElem_toArray, List.getElem_cons_succ, List.getElem_cons_zero, List.setIfInBounds_toArray, List.set_cons_zero, List.set_cons_succ]
      refine wpAnyH_take (i := 1) (v := ?_) rfl (by kernel_rfl) (by kernel_rfl) (by kernel_rfl) (fun _ _ _ h => h) (Or.inl ⟨by rfl, ?_⟩) (by assumption) ?_
      rotate_left 1
      · (intro w hSw; (try dsimp only at hSw); go_simp; try with_reducible rfl)
      try simp only [Act.put, List.getElem_toArray, List.getElem_cons_succ, List.getElem_cons_zero, List.setIfInBounds_toArray, List.set_cons_zero, List.set_cons_succ]
      refine wpAnyH_take (i := 2) (v := ?_) rfl (by kernel_rfl) (by kernel_rfl) (by kernel_rfl) (fun _ _ _ h => h) (Or.inl ⟨by rfl, ?_⟩) (by assumption) ?_
      rotate_left 1
      · (intro w hSw; (try dsimp only at hSw); go_simp; try with_reducible rfl)
      try simp only [Act.put, List.getElem_toArray, List.getElem_cons_succ, List.getElem_cons_zero, List.setIfInBounds_toArray, List.set_cons_zero, List.set_cons_succ]
      refine wpAnyH_take (i := 3) (v := ?_) rfl (by kernel_rfl) (by kernel_rfl) (by kernel_rfl) (fun _ _ _ h => h) (Or.inl ⟨by rfl, ?_⟩) (by assumption) ?_
      rotate_left 1
      · (intro w hSw; (try dsimp only at hSw); go_simp; try with_reducible rfl)
      try simp only [Act.put, List.getElem_toArray, List.getElem_cons_succ, List.getElem_cons_zero, List.setIfInBounds_toArray, List.set_cons_zero, List.set_cons_succ]
      refine wpAnyH_take (i := 4) (v := ?_) rfl (by kernel_rfl) (by kernel_rfl) (by kernel_rfl) (fun _ _ _ h => h) (Or.inl ⟨by rfl, ?_⟩) (by assumption) ?_
      rotate_left 1
      · (intro w hSw; (try dsimp only at hSw); go_simp; try with_reducible rfl)
      try simp only [Act.put, List.getElem_toArray, List.getElem_cons_succ, List.getElem_cons_zero, List.setIfInBounds_toArray, List.set_cons_zero, List.set_cons_succ]
      refine wpAnyH_take (i := 5) (v := ?_) rfl (by kernel_rfl) (by kernel_rfl) (by kernel_rfl) (fun _ _ _ h => h) (Or.inl ⟨by rfl, ?_⟩) (by assumption) ?_
      rotate_left 1
      · (intro w hSw; (try dsimp only at hSw); go_simp; try with_reducible rfl)
      try simp only [Act.put, List.getElem_toArray, List.getElem_cons_succ, List.getElem_cons_zero, List.setIfInBounds_toArray, List.set_cons_zero, List.set_cons_succ]
      refine wpAnyH_take (i := 6) (v := ?_) rfl (by kernel_rfl) (by kernel_rfl) (by kernel_rfl) (fun _ _ _ h => h) (Or.inl ⟨by rfl, ?_⟩) (by assumption) ?_
      rotate_left 1
      · (intro w hSw; (try dsimp only at hSw); go_simp; try with_reducible rfl)
      try simp only [Act.put, List.getElem_toArray, List.getElem_cons_succ, List.getElem_cons_zero, List.setIfInBounds_toArray, List.set_cons_zero, List.set_cons_succ]
      refine wpAnyH_ready (rs := [7]) (by kernel_rfl) (by simp) ?_
      refine AllReadyH.cons rfl (fun K hK => ?_) AllReadyH.nil
      with_reducible refine step_copy_splice rfl (.tmp 41) (.tmp 44) 30 30 rfl 2 Try.underlying30 hsz _ _ _ _ _ _ rfl rfl w.heap.size m (repC m n) 2 HGd.out (List.replicate k (Value.int .i64 (-1))) HN.out (fun _ => ⟨by first | rfl | exact if_neg (by omega), ⟨w.heap.size, 0, none⟩, rfl, HP.out⟩) HF.out HO.out w.heap.size w hbd (Nat.le_refl _) ?_
      intro w4 hg4 hb4
      have HG4 : Hid (w4.heap[w.heap.size]? = some (.cells (repC (m + k) n).toArray 2 (0, 0))) := by
        have h := hg4.out
        rw [repC_splice (by omega)] at h
        exact h
      have hkl : (((List.replicate k (Value.int .i64 (-1))).length : Nat) : Int) = (k : Int) := by rw [List.length_replicate]
      rw [hkl]
      clear hg4 HN HP HF HO HGd hkl
      refine hK.out _ _ (trivial) (fun hHeld => ?_)
      clear hK K
      try simp only [Act.put, List.getElem_toArray, List.getElem_cons_succ, List.getElem_cons_zero, List.setIfInBounds_toArray, List.set_cons_zero, List.set_cons_succ]
      refine wpAnyH_take (i := 8) (v := ?_) rfl (by kernel_rfl) (by kernel_rfl) (by kernel_rfl) (fun _ _ _ h => h) (Or.inl ⟨by rfl, ?_⟩) (by assumption) ?_
      rotate_left 1
      · (intro w hSw; (try dsimp only at hSw); go_simp; try with_reducible rfl)
      try simp only [Act.put, List.getElem_toArray, List.getElem_cons_succ, List.getElem_cons_zero, List.setIfInBounds_toArray, List.set_cons_zero, List.set_cons_succ]
      refine wpAnyH_take (i := 9) (v := ?_) rfl (by kernel_rfl) (by kernel_rfl) (by kernel_rfl) (fun _ _ _ h => h) (Or.inl ⟨by rfl, ?_⟩) (by assumption) ?_
      rotate_left 1
      · (intro w hSw; (try dsimp only at hSw); go_simp; try with_reducible rfl)
      try simp only [Act.put, List.getElem_toArray, List.getElem_cons_succ, List.getElem_cons_zero, List.setIfInBounds_toArray, List.set_cons_zero, List.set_cons_succ]
      refine wpAnyH_done (by kernel_rfl) ?_ _
      go_wp2_with fail
      go_roundg (n - (m + k))
      case measure => have := hgg.out; omega
      case rel => exact ⟨m + k, by omega, by omega, rfl, by rw [show IntKind.i64.wrap ((m : Int) + (k : Int)) = (m : Int) + (k : Int) by rw [IntKind.wrap_i64] <;> omega, Int.natCast_add], HG4, hb4⟩
    · obtain rfl : m = n := by omega
      go_wp2_with fail
      go_ret
      have hg := HG.out
      have e : repC m m = (List.replicate m (-1 : Int)).map (Value.int .i64) := by simp [repC]
      rw [e] at hg
      exact ⟨w.heap.size, rfl, heap_own1 (by simp) (by omega) (Nat.le_refl _) hg, hb⟩
end Go.Proofs.Ytflbddfmhjlknaa
