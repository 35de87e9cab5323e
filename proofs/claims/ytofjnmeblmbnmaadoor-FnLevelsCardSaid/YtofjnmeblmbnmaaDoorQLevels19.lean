/-
  A change is laid into a row of one's own: slices.Insert at changes.
-/
import Derived.Test.YtofjnmeblmbnmaaDoorQLevels5
import Derived.Test.YtofjnmeblmbnmaaDoorQLevels2
import Derived.Deep.DeepCutAuto
import Derived.Lib.Overlaps
import Derived.Lib.AppendZeros
import Derived.Lib.AppendZerosOnto
import Derived.Laws.Externs
import Derived.Laws.CopyOwn
namespace Go.Proofs.YtofjnmeblmbnmaaDoor
open Go.RowKit
section
variable {P : Program}
theorem run_copy_rowK (w : World) (dT sT ty elem : TypeId) (size g o dLen dCap : Nat) (a : Addr) (sLen sCap : Nat) (cur : Array Value) (t : TypeId) (cs : List Value)
    (hu : P.underlying dT = some (.slice elem)) (hs : (P.info? elem).map (·.size) = some size)
    (hg : w.heap[g]? = some (.cells cur t (0, 0))) (hn : cs.length = Nat.min sLen dLen * size)
    (hsrc : ∀ j v, cs[j]? = some v → w.cell? (a.add j) = some v) (hfit : o + cs.length ≤ cur.size) (h1 : ∀ v ∈ cs, v.oneCell' = true) :
    (Builtin.copy_ #[dT, sT] ty #[.slice (some ⟨g, o, none⟩) dLen dCap, .slice (some a) sLen sCap]).run P w =
      .ok (goInt (Nat.min sLen dLen)) (w.setRow g (cur.toList.take o ++ cs ++ cur.toList.drop (o + cs.length)).toArray) := by
  have hl := run_loadCells_list (P := P) w a cs hsrc
  have hst := run_storeCells_at P g o t cs 0 cur w hg (by simpa using hfit) h1
  cases hq : P.info? elem with
  | none => simp [hq] at hs
  | some i =>
    have hi : i.size = size := by simpa [hq] using hs
    simp [Builtin.copy_, run_underlying hu, Builtin.lenOf, Builtin.firstCells, sizeOf, typeInfo, hq, hi, ← hn, hl, hst]
theorem wpList_copy_rowK {w : World} {ops : Array Oper} {rest : List Oper} {o : Oper} {a : Act} {Q : Exit → Act → World → Prop} (hgd : o.guard = none) (d s : Operand) (dT sT : TypeId)
    (ho : o.op = .call { callee := .builtin .copy, args := #[d, s], argTypes := #[dT, sT] }) (elem : TypeId) (size : Nat) (hu : P.underlying dT = some (.slice elem)) (hsz : (P.info? elem).map (·.size) = some size)
    (g off dLen dCap sLen sCap : Nat) (ad : Addr) (hd : a.eval d = .slice (some ⟨g, off, none⟩) dLen dCap) (hs : a.eval s = .slice (some ad) sLen sCap)
    (cur : List Value) (t : TypeId) (hg : w.heap[g]? = some (.cells cur.toArray t (0, 0))) (cs : List Value) (hn : cs.length = Nat.min sLen dLen * size)
    (hsrc : ∀ j v, cs[j]? = some v → w.cell? (ad.add j) = some v) (hfit : off + cs.length ≤ cur.length) (h1 : ∀ v ∈ cs, v.oneCell' = true) (B : Nat) (w0 : World) (hb : Below B w0 w) (hBg : B ≤ g)
    (h : ∀ w', Hid (w'.heap[g]? = some (.cells (splice cur off cs).toArray t (0, 0))) → Below B w0 w' → (∀ b, b ≠ g → w'.heap[b]? = w.heap[b]?) → wpList P ops Q rest (a.put o.dst (goInt (Nat.min sLen dLen))) w') :
    wpList P ops Q (o :: rest) a w := by
  refine wpList_plain hgd fun K hK => ?_
  have hrun := run_copy_rowK (P := P) w dT sT o.type elem size g off dLen dCap ad sLen sCap cur.toArray t cs hu hsz hg hn hsrc (by simpa using hfit) h1
  unfold Oper.wp
  simp only [execOp, ho, resolve, invoke, builtin, Sem.run_bind, Sem.run_pure, Result.andThen_ok, List.map_toArray, List.map_cons, List.map_nil, hd, hs, hrun]
  exact hK _ _ (h _ (show _ = _ by simpa [splice] using setRow_heap w g _ _ t _ hg) (below_setRow hb hBg _) (fun b hb => setRow_other w g b _ hb))
theorem step_copy_rowK {ops : Array Oper} {o : Oper} {a : Act} {w : World} {K : Act → World → Prop} {Q : Exit → Act → World → Prop} {E : Prop} (hgd : o.guard = none) (d s : Operand) (dT sT : TypeId)
    (ho : o.op = .call { callee := .builtin .copy, args := #[d, s], argTypes := #[dT, sT] }) (elem : TypeId) (size : Nat) (hu : P.underlying dT = some (.slice elem)) (hsz : (P.info? elem).map (·.size) = some size)
    (g off dLen dCap sLen sCap : Nat) (ad : Addr) (hd : a.eval d = .slice (some ⟨g, off, none⟩) dLen dCap) (hs : a.eval s = .slice (some ad) sLen sCap)
    (cur : List Value) (t : TypeId) (hg : w.heap[g]? = some (.cells cur.toArray t (0, 0))) (cs : List Value) (hn : cs.length = Nat.min sLen dLen * size)
    (hsrc : ∀ j v, cs[j]? = some v → w.cell? (ad.add j) = some v) (hfit : off + cs.length ≤ cur.length) (h1 : ∀ v ∈ cs, v.oneCell' = true) (B : Nat) (w0 : World) (hb : Below B w0 w) (hBg : B ≤ g)
    (h : ∀ w', Hid (w'.heap[g]? = some (.cells (splice cur off cs).toArray t (0, 0))) → Below B w0 w' → (∀ b, b ≠ g → w'.heap[b]? = w.heap[b]?) → K (a.put o.dst (goInt (Nat.min sLen dLen))) w') :
    if Region.wanted o (yielded ops a.tmps) = true then Oper.wp P o a w K Q else E := by
  have hw : Region.wanted o (yielded ops a.tmps) = true := by simp [Region.wanted, hgd]
  rw [if_pos hw]
  have hrun := run_copy_rowK (P := P) w dT sT o.type elem size g off dLen dCap ad sLen sCap cur.toArray t cs hu hsz hg hn hsrc (by simpa using hfit) h1
  unfold Oper.wp
  simp only [execOp, ho, resolve, invoke, builtin, Sem.run_bind, Sem.run_pure, Result.andThen_ok, List.map_toArray, List.map_cons, List.map_nil, hd, hs, hrun]
  exact h _ (show _ = _ by simpa [splice] using setRow_heap w g _ _ t _ hg) (below_setRow hb hBg _) (fun b hb => setRow_other w g b _ hb)
end
theorem splice_app {α : Type} (X M N R : List α) (h : M.length = N.length) : splice (X ++ (M ++ R)) X.length N = X ++ (N ++ R) := by
  unfold splice
  rw [List.take_left, ← List.append_assoc X M R, show X.length + N.length = (X ++ M).length by rw [List.length_append, h], List.drop_left]
/-- Two splices side by side, and what lies ahead. -/
theorem splice_two {α : Type} {L C Y D : List α} {k m : Nat} (hk : k = C.length) (hm : m = k + Y.length) (hC : L.take k = C) (hl : m + D.length ≤ L.length) : (splice (splice L k Y) m D).take (m + D.length) = C ++ (Y ++ D) ∧ (splice (splice L m D) k Y).take (m + D.length) = C ++ (Y ++ D) := by
  subst hk; subst hm
  obtain ⟨T1, T2, R, rfl, h1, h2⟩ : ∃ T1 T2 R, L = C ++ (T1 ++ (T2 ++ R)) ∧ T1.length = Y.length ∧ T2.length = D.length := by
    refine ⟨(L.drop C.length).take Y.length, ((L.drop C.length).drop Y.length).take D.length, ((L.drop C.length).drop Y.length).drop D.length, ?_, ?_, ?_⟩
    · rw [List.take_append_drop, List.take_append_drop]
      conv => lhs; rw [← List.take_append_drop C.length L, hC]
    · rw [List.length_take, List.length_drop]; omega
    · rw [List.length_take, List.length_drop, List.length_drop]; omega
  have e : C ++ (Y ++ (D ++ R)) = (C ++ (Y ++ D)) ++ R := by simp
  have hn : C.length + Y.length + D.length = (C ++ (Y ++ D)).length := by simp only [List.length_append]; omega
  constructor
  · rw [splice_app C T1 Y _ h1]
    have h3 := splice_app (C ++ Y) T2 D R h2
    rw [List.length_append, List.append_assoc, List.append_assoc] at h3
    rw [h3, e, hn, List.take_left]
  · have h3 := splice_app (C ++ T1) T2 D R h2
    rw [List.length_append, List.append_assoc, List.append_assoc, h1] at h3
    rw [h3, splice_app C T1 Y _ h1, e, hn, List.take_left]
theorem addr_add (b o j : Nat) : (⟨b, o, none⟩ : Addr).add j = ⟨b, o + j, none⟩ := by by_cases h : j = 0 <;> simp [Addr.add, h]
theorem cells_cut (cs : List T3) (i : Nat) (hi : i ≤ cs.length) : cs.flatMap T3.cells = (cs.take i).flatMap T3.cells ++ (cs.drop i).flatMap T3.cells ∧ ((cs.take i).flatMap T3.cells).length = i * 3 ∧ ((cs.drop i).flatMap T3.cells).length = (cs.length - i) * 3 := by
  refine ⟨by rw [← List.flatMap_append, List.take_append_drop], ?_, ?_⟩
  · rw [flatMap_len T3.cells 3 (fun _ => rfl), List.length_take, Nat.min_eq_left hi]
  · rw [flatMap_len T3.cells 3 (fun _ => rfl), List.length_drop]
theorem cells_ins (cs : List T3) (y : T3) (i : Nat) : (cs.take i ++ y :: cs.drop i).flatMap T3.cells = (cs.take i).flatMap T3.cells ++ ([.int .i64 y.a, .int .i64 y.b, .int .i64 y.c] ++ (cs.drop i).flatMap T3.cells) := by
  rw [List.flatMap_append, List.flatMap_cons]; rfl
set_option maxRecDepth 100000 in
set_option maxHeartbeats 4000000 in
theorem insertC_any (cs : List T3) (y : T3) (i : Nat) (A : Option Addr) (c vb lo : Nat) (w : World) (hs : cs.length ≤ 1000) (hi : i ≤ cs.length) (hlo : lo ≤ w.heap.size) (h : w.ownsRow lo 41 3 (.slice A cs.length c) cs.length (cs.flatMap T3.cells))
    (hv : w.heap[vb]? = some (.cells #[.int .i64 y.a, .int .i64 y.b, .int .i64 y.c] 41 (0, 0))) (hne : ∀ g, (Value.slice A cs.length c).ownBlock = some g → vb ≠ g) :
    Calls Tryd.prog 86 #[.slice A cs.length c, .int .i64 i, .slice (some ⟨vb, 0, none⟩) 1 1] w fun e w' => ∃ A' c', e = .returned (.slice A' (cs.length + 1) c') ∧ w'.ownsRow lo 41 3 (.slice A' (cs.length + 1) c') (cs.length + 1) ((cs.take i ++ y :: cs.drop i).flatMap T3.cells) ∧ Below lo w w' := by
  have hsz : (Tryd.prog.info? 41).map (·.size) = some 3 := by kernel_rfl
  have hinfo : (Tryd.prog.info? 41).map (fun i => (i.zero, i.size, i.bytes)) = some (some (.agg #[.int .i64 0, .int .i64 0, .int .i64 0]), 3, 24) := by kernel_rfl
  obtain ⟨i0, hi0, hz0, hs0, hb0⟩ := info_parts hinfo
  clear hinfo
  obtain ⟨hcut, hC, hD⟩ := cells_cut cs i hi
  have hins := cells_ins cs y i
  generalize (cs.take i ++ y :: cs.drop i).flatMap T3.cells = R at *
  have hoc : ∀ v ∈ cs.flatMap T3.cells, v.oneCell' = true := T3.ones _
  have hoY : ∀ v ∈ [Value.int .i64 y.a, .int .i64 y.b, .int .i64 y.c], v.oneCell' = true := by intro q hq; simp at hq; rcases hq with rfl | rfl | rfl <;> rfl
  have hYs : ∀ j v, [Value.int .i64 y.a, .int .i64 y.b, .int .i64 y.c][j]? = some v → w.cell? ⟨vb, j, none⟩ = some v := fun j v hj => by rw [cell_of_row w vb j _ _ _ hv]; simpa using hj
  rcases Nat.lt_or_ge i cs.length with hin | hin
  · rcases h.2 with ⟨_, h0⟩ | ⟨g, cap', cur, e, hlg, hg, hnc, hcm, hcs, htk⟩
    · omega
    injection e with e1 _ e3
    subst e1; subst e3
    have hvg : vb ≠ g := hne g rfl
    generalize hCC : (cs.take i).flatMap T3.cells = C at *
    generalize hDD : (cs.drop i).flatMap T3.cells = D at *
    have hL : cur.toList.take (i * 3) = C := by
      have e := congrArg (List.take (i * 3)) htk
      rw [List.take_take, Nat.min_eq_left (by omega), hcut, ← hC, List.take_left] at e
      rw [hC] at e; exact e
    have hcz : cur.toList.length = c * 3 := by simpa using hcs
    have hDs : ∀ j v, D[j]? = some v → w.cell? ⟨g, i * 3 + j, none⟩ = some v := fun j v hj => by
      have hjl := lt_of_get hj
      rw [cell_of_row w g _ _ _ _ hg]
      have e : (cur.toList.take (cs.length * 3))[i * 3 + j]? = some v := by
        rw [htk, hcut, List.getElem?_append_right (by omega), hC, Nat.add_sub_cancel_left]; exact hj
      rw [List.getElem?_take, if_pos (by omega)] at e
      simpa using e
    have hoD : ∀ v ∈ D, v.oneCell' = true := fun v hv => hoc v (by rw [hcut]; exact List.mem_append_right _ hv)
    have hin' : (i : Int) ≤ (cs.length : Int) := by omega
    have hw1 : IntKind.i64.wrap ((i : Int) + 1) = (i : Int) + 1 := by rw [IntKind.wrap_i64]; omega
    have hz2 : ¬ ((i : Int) = (cs.length : Int)) := by omega
    rcases Nat.lt_or_ge cs.length c with hroom | hfull
    · have hov : ∀ lb cb, (callFunc 111 #[.slice (some ⟨vb, 0, none⟩) 1 1, .slice (some ⟨g, (i + 1) * 3, none⟩) lb cb]).run Tryd.prog w = .ok (.value (.bool false)) w := fun lb cb => by
        rw [run_callFunc_extern Tryd.func111 (by kernel_rfl) (by kernel_rfl) (by kernel_rfl) (e := Extern.SlicesOverlaps.overlaps #[45, 45] #[4]) (by kernel_rfl),
          Lib.run_overlaps_apart w 45 4 41 Tryd.underlying45 3 Tryd.sizeOf41 ⟨vb, 0, none⟩ ⟨g, (i + 1) * 3, none⟩ 1 1 lb cb hvg 41 41 3 cur.size (by simp [World.shape?, hv]) (by simp [World.shape?, hg]) (by omega) (frozen_of_row w vb 0 _ _ hv) (frozen_of_row w vb 3 _ _ hv)]
        rfl
      have hck : ¬ (c = i + 1) := by omega
      have hck2 : ¬ (c = i) := by omega
      have hrm : ¬ ((c : Int) < (cs.length : Int) + 1) := by omega
      have hrm2 : ((cs.length : Int) + 1) ≤ (c : Int) := by omega
      have HC := hide hC; have HD := hide hD; have HI := hide hins; have HL := hide hL; have HZ := hide hcz
      clear hC hD hins hL hcz hcut htk hCC hDD h
      go_enter Tryd.func86, Tryd.ntmps86
      go_upto_region 15 with (simp only [hov])
      have hbD : Below lo w w.drew := (Below.refl _ _).drew
      have hnD : D.length = Nat.min (cs.length + 1 - i) (cs.length - i) * 3 := by rw [HD.out]; show _ = Min.min (cs.length + 1 - i) (cs.length - i) * 3; rw [Nat.min_eq_right (by omega)]
      have hgd : w.drew.heap[g]? = some (.cells cur.toList.toArray 41 (0, 0)) := by rw [heap_drew]; simpa using hg
      have hDd : ∀ j v, D[j]? = some v → w.drew.cell? ((⟨g, i * 3, none⟩ : Addr).add j) = some v := fun j v hj => by rw [addr_add]; exact hDs j v hj
      have hp0 : (0 : Int) ≤ (i : Int) + 1 := by omega
      have hp1 : (i : Int) ≤ (cs.length : Int) + 1 := by omega
      have hfit : (i + 1) * 3 + D.length ≤ cur.toList.length := by rw [HD.out, HZ.out]; omega
      have HVB := hide (show w.drew.heap[vb]? = _ from hv)
      clear hg hDs
      refine wp_region_held_drew (S := fun W => True) (by kernel_rfl) (trivial) (fun hHeld => ?_)
      generalize w.drew = wd at *
      refine wpAnyH_take (i := 0) (v := ?_) rfl (by kernel_rfl) (by kernel_rfl) (by kernel_rfl) (fun _ _ _ h => h) (Or.inl ⟨by rfl, ?_⟩) (by assumption) ?_
      rotate_left 1
      · (intro w hSw; (try dsimp only at hSw); go_simp; try with_reducible rfl)
      try simp only [Act.put, List.getElem_toArray, List.getElem_cons_succ, List.getElem_cons_zero, List.setIfInBounds_toArray, List.set_cons_zero, List.set_cons_succ]
      refine wpAnyH_take (i := 1) (v := ?_) rfl (by kernel_rfl) (by kernel_rfl) (by kernel_rfl) (fun _ _ _ h => h) (Or.inl ⟨by rfl, ?_⟩) (by assumption) ?_
      rotate_left 1
      · (intro w hSw; (try dsimp only at hSw); go_simp; try with_reducible rfl)
      try simp only [Act.put, List.getElem_toArray, List.getElem_cons_succ, List.getElem_cons_zero, List.setIfInBounds_toArray, List.set_cons_zero, List.set_cons_succ]
      refine wpAnyH_take (i := 2) (v := ?_) rfl (by kernel_rfl) (by kernel_rfl) (by kernel_rfl) (fun _ _ _ h => h) (Or.inl ⟨by rfl, ?_⟩) (by assumption) ?_
      rotate_left 1
      · (intro w hSw; (try dsimp only at hSw); go_simp; try with_reducible rfl)
      try simp only [Act.put, List.getElem_toArray, List.getElem_cons_succ, List.getElem_cons_zero, List.setIfInBounds_toArray, List.set_cons_zero, List.set_cons_succ]
      refine wpAnyH_take (i := 3) (v := ?_) rfl (by kernel_rfl) (by kernel_rfl) (by kernel_rfl) (fun _ _ _ h => h) (Or.inl ⟨by rfl, ?_⟩) (by assumption) ?_
      rotate_left 1
      · (intro w hSw; (try dsimp only at hSw); go_simp; try with_reducible rfl)
      try simp only [Act.put, List.getElem_toArray, List.getElem_cons_succ, List.getElem_cons_zero, List.setIfInBounds_toArray, List.set_cons_zero, List.set_cons_succ]
      refine wpAnyH_take (i := 4) (v := ?_) rfl (by kernel_rfl) (by kernel_rfl) (by kernel_rfl) (fun _ _ _ h => h) (Or.inl ⟨by rfl, ?_⟩) (by assumption) ?_
      rotate_left 1
      · (intro w hSw; (try dsimp only at hSw); go_simp; try with_reducible rfl)
      try simp only [Act.put, List.getElem_toArray, List.getElem_cons_succ, List.getElem_cons_zero, List.setIfInBounds_toArray, List.set_cons_zero, List.set_cons_succ]
      refine wpAnyH_take (i := 5) (v := ?_) rfl (by kernel_rfl) (by kernel_rfl) (by kernel_rfl) (fun _ _ _ h => h) (Or.inl ⟨by rfl, ?_⟩) (by assumption) ?_
      rotate_left 1
      · (intro w hSw; (try dsimp only at hSw); go_simp; try with_reducible rfl)
      try simp only [Act.put, List.getElem_toArray, List.getElem_cons_succ, List.getElem_cons_zero, List.setIfInBounds_toArray, List.set_cons_zero, List.set_cons_succ]
      refine wpAnyH_take (i := 6) (v := ?_) rfl (by kernel_rfl) (by kernel_rfl) (by kernel_rfl) (fun _ _ _ h => h) (Or.inl ⟨by rfl, ?_⟩) (by assumption) ?_
      rotate_left 1
      · (intro w hSw; (try dsimp only at hSw); go_simp; try with_reducible rfl)
      try simp only [Act.put, List.getElem_toArray, List.getElem_cons_succ, List.getElem_cons_zero, List.setIfInBounds_toArray, List.set_cons_zero, List.set_cons_succ]
      refine wpAnyH_take (i := 7) (v := ?_) rfl (by kernel_rfl) (by kernel_rfl) (by kernel_rfl) (fun _ _ _ h => h) (Or.inl ⟨by rfl, ?_⟩) (by assumption) ?_
      rotate_left 1
      · (intro w hSw; (try dsimp only at hSw); go_simp; try with_reducible rfl)
      try simp only [Act.put, List.getElem_toArray, List.getElem_cons_succ, List.getElem_cons_zero, List.setIfInBounds_toArray, List.set_cons_zero, List.set_cons_succ]
      refine wpAnyH_ready (rs := [8]) (by kernel_rfl) (by simp) ?_
      refine AllReadyH.cons rfl (fun K hK => ?_) AllReadyH.nil
      with_reducible refine step_copy_rowK rfl (.tmp 73) (.tmp 76) 45 45 rfl 41 3 Tryd.underlying45 hsz g ((i + 1) * 3) _ _ _ _ _ rfl rfl cur.toList 41 hgd D hnD hDd hfit hoD lo w hbD hlg ?_
      intro w4 hg4 hb4 hoth
      have HV4 := hide ((hoth vb hvg).trans HVB.out)
      have HYs : ∀ j v, [Value.int .i64 y.a, .int .i64 y.b, .int .i64 y.c][j]? = some v → w4.cell? ((⟨vb, 0, none⟩ : Addr).add j) = some v := fun j v hj => by rw [addr_add, Nat.zero_add, cell_of_row w4 vb j _ _ _ HV4.out]; simpa using hj
      have hnY : [Value.int .i64 y.a, .int .i64 y.b, .int .i64 y.c].length = Nat.min 1 (cs.length + 1 - i) * 3 := by show 3 = Min.min 1 (cs.length + 1 - i) * 3; rw [Nat.min_eq_left (by omega)]
      have hfitY : i * 3 + [Value.int .i64 y.a, .int .i64 y.b, .int .i64 y.c].length ≤ (splice cur.toList ((i + 1) * 3) D).length := by rw [length_splice _ _ _ hfit, HZ.out]; simp; omega
      clear hoth hgd hDd hnD hbD
      refine hK.out _ _ (trivial) (fun hHeld => ?_)
      clear hK K
      try simp only [Act.put, List.getElem_toArray, List.getElem_cons_succ, List.getElem_cons_zero, List.setIfInBounds_toArray, List.set_cons_zero, List.set_cons_succ]
      refine wpAnyH_done (by kernel_rfl) ?_ _
      go_wp2_with ((with_reducible refine wpList_copy_rowK rfl (.tmp 80) (.tmp 81) 45 45 rfl 41 3 Tryd.underlying45 hsz g (i * 3) _ _ _ _ _ rfl rfl (splice cur.toList ((i + 1) * 3) D) 41 hg4.out _ hnY HYs hfitY hoY lo w hb4 hlg ?_); intro w5 hg5 hb5 _)
      go_ret
      have hsp := (splice_two (L := cur.toList) (C := C) (Y := [Value.int .i64 y.a, .int .i64 y.b, .int .i64 y.c]) (D := D) (k := i * 3) (m := (i + 1) * 3) HC.out.symm (by simp; omega) HL.out hfit).2
      have hll : (splice (splice cur.toList ((i + 1) * 3) D) (i * 3) [Value.int .i64 y.a, .int .i64 y.b, .int .i64 y.c]).length = c * 3 := by rw [length_splice _ _ _ hfitY, length_splice _ _ _ hfit, HZ.out]
      have hcnt : (i + 1) * 3 + D.length = (cs.length + 1) * 3 := by rw [HD.out]; omega
      have hRl : R.length = (cs.length + 1) * 3 := by rw [HI.out, List.length_append, List.length_append, HC.out, HD.out]; simp; omega
      rw [hcnt] at hsp
      exact ⟨some ⟨g, 0, none⟩, c, rfl, ⟨hRl, .inr ⟨g, c, _, rfl, hlg, hg5.out, by omega, hcm, by simpa using hll, by rw [HI.out]; simpa using hsp⟩⟩, hb5⟩
    · obtain rfl : c = cs.length := by omega
      have hkk : (cs.length : Int) + 1 - (i : Int) = ((cs.length + 1 - i : Nat) : Int) := by omega
      have hik : i + (cs.length + 1 - i) = cs.length + 1 := by omega
      have hold : (Builtin.firstCells i0.size i (.slice (some ⟨g, 0, none⟩) i cs.length)).run Tryd.prog w.drew = .ok C.toArray w.drew := by
        rw [hs0]
        exact run_firstCells_some w.drew 3 i ⟨g, 0, none⟩ i cs.length C hC (fun j v hj => by
          have hjl := lt_of_get hj
          rw [addr_add, Nat.zero_add, cell_of_row w.drew g j cur _ _ (by rw [heap_drew]; exact hg)]
          rw [← hL, List.getElem?_take, if_pos (by omega)] at hj
          simpa using hj)
      obtain ⟨G, hG⟩ : ∃ G, G = grownCap w (cs.length + 1) cs.length 41 := ⟨_, rfl⟩
      have hGn : cs.length + 1 ≤ G := by rw [hG]; exact grownCap_ge w _ _ _
      have hGm : G ≤ maxLen := by rw [hG]; exact grownCap_le_maxLen w _ _ _ (by unfold maxLen; omega)
      obtain ⟨ROW, hROW⟩ : ∃ ROW : Array Value, ROW = C.toArray ++ Builtin.zeroCells (Value.agg #[.int .i64 0, .int .i64 0, .int .i64 0]).cells (cs.length + 1 - i) ++ Builtin.zeroCells (Value.agg #[.int .i64 0, .int .i64 0, .int .i64 0]).cells (G - (cs.length + 1)) := ⟨_, rfl⟩
      have hrz : ∀ ty, (Builtin.append_ #[45, 3] ty #[.slice (some ⟨g, 0, none⟩) i cs.length, .int .i64 ((cs.length : Int) + 1 - (i : Int))]).run Tryd.prog w =
          .ok (.slice (some ⟨w.heap.size, 0, none⟩) (cs.length + 1) G) (w.drew.alloc (.cells ROW 41)) := fun ty => by
        have h := Lib.run_append_grow_zeros w 45 3 ty 41 i0 _ .i64 .i64 Tryd.underlying45 Tryd.underlying3 hi0 hz0 (some ⟨g, 0, none⟩) i cs.length C hold (cs.length + 1 - i) (by omega) (by omega) (by omega) (by omega) (by rw [hb0]; omega) (by rw [hb0, hik]; exact growslice_fits (by omega) (by omega))
        rw [hik, ← hG, ← hROW] at h
        rw [hkk]
        exact h
      have hRs : ROW.toList.length = G * 3 := by
        rw [hROW]
        simp [Builtin.zeroCells, Value.cells, hC]
        omega
      have hRt : ROW.toList.take (i * 3) = C := by
        rw [hROW, ← hC]
        simp
      have hlgw : lo ≤ w.heap.size := hlo
      have hgw : g < w.heap.size := lt_of_block hg
      have hvw : vb < w.heap.size := lt_of_block hv
      obtain ⟨W1, hW1⟩ : ∃ W1, W1 = w.drew.alloc (.cells ROW 41) := ⟨_, rfl⟩
      have hg1 : W1.heap[w.heap.size]? = some (.cells ROW.toList.toArray 41 (0, 0)) := by rw [hW1]; exact heap_alloc_new w.drew _
      have hB1 : Below lo w W1 := by rw [hW1]; exact (Below.refl _ _).drew.alloc hlo _
      have hO1 : ∀ b, b < w.heap.size → W1.heap[b]? = w.heap[b]? := fun b hb => by rw [hW1]; exact Below.heap_alloc w.drew _ b hb
      rw [← hW1] at hrz
      have HYs : ∀ j v, [Value.int .i64 y.a, .int .i64 y.b, .int .i64 y.c][j]? = some v → W1.cell? ((⟨vb, 0, none⟩ : Addr).add j) = some v := fun j v hj => by rw [addr_add, Nat.zero_add, cell_of_row W1 vb j _ _ _ ((hO1 vb hvw).trans hv)]; simpa using hj
      have HDs : ∀ j v, D[j]? = some v → W1.cell? ⟨g, i * 3 + j, none⟩ = some v := fun j v hj => by
        rw [cell_of_row W1 g _ cur _ _ ((hO1 g hgw).trans hg)]
        have := hDs j v hj
        rwa [cell_of_row w g _ cur _ _ hg] at this
      have hnY : [Value.int .i64 y.a, .int .i64 y.b, .int .i64 y.c].length = Nat.min 1 (cs.length + 1 - i) * 3 := by show 3 = Min.min 1 (cs.length + 1 - i) * 3; rw [Nat.min_eq_left (by omega)]
      have hfitY : i * 3 + [Value.int .i64 y.a, .int .i64 y.b, .int .i64 y.c].length ≤ ROW.toList.length := by rw [hRs]; simp; omega
      have hGi : ¬ (G = i) := by omega
      have hGi2 : ¬ (G = i + 1) := by omega
      have hci : ¬ (cs.length = i) := by omega
      have hnr : (cs.length : Int) < (cs.length : Int) + 1 := by omega
      have HC := hide hC; have HD := hide hD; have HI := hide hins; have HT := hide hRt; have HRS := hide hRs; have HG1 := hide hg1; have HB1 := hide hB1; have HDS := hide HDs; have HCUR := hide (show ∀ b, b < w.heap.size → W1.heap[b]? = w.heap[b]? from hO1)
      clear hC hD hins hL hcz hcut htk hCC hDD h hold hG hROW hRs hRt hkk hik hg1 hB1 hO1 HDs hDs hYs hW1
      go_enter Tryd.func86, Tryd.ntmps86
      go_upto_region 11 with (first
        | (at_builtin; refine Lib.wpList_append_run _ rfl _ _ _ _ rfl _ _ rfl rfl _ _ (hrz _) ?_)
        | ((with_reducible refine wpList_copy_rowK rfl (.tmp 43) (.tmp 44) 45 45 rfl 41 3 Tryd.underlying45 hsz w.heap.size (i * 3) _ _ _ _ _ rfl rfl ROW.toList 41 HG1.out _ hnY HYs hfitY hoY lo w HB1.out hlgw ?_); intro w4 hg4 hb4 hoth))
      have hbD : Below lo w w4.drew := hb4.drew
      have hnD : D.length = Nat.min (cs.length - i) (cs.length - i) * 3 := by rw [HD.out]; show _ = Min.min (cs.length - i) (cs.length - i) * 3; rw [Nat.min_self]
      have hgd : w4.drew.heap[w.heap.size]? = some (.cells (splice ROW.toList (i * 3) [Value.int .i64 y.a, .int .i64 y.b, .int .i64 y.c]).toArray 41 (0, 0)) := by rw [heap_drew]; exact hg4.out
      have hDd : ∀ j v, D[j]? = some v → w4.drew.cell? ((⟨g, i * 3, none⟩ : Addr).add j) = some v := fun j v hj => by
        rw [addr_add]
        have h1 := HDS.out j v hj
        have h2 := hoth g (by omega)
        show w4.cell? _ = some v
        rw [cell_of_row w4 g _ cur _ _ (h2.trans ((HCUR.out g hgw).trans hg))]
        rwa [cell_of_row W1 g _ cur _ _ ((HCUR.out g hgw).trans hg)] at h1
      have hfit : (i + 1) * 3 + D.length ≤ (splice ROW.toList (i * 3) [Value.int .i64 y.a, .int .i64 y.b, .int .i64 y.c]).length := by rw [length_splice _ _ _ hfitY, HD.out, HRS.out]; omega
      have hp0 : (0 : Int) ≤ (i : Int) + 1 := by omega
      have hp1 : (i : Int) ≤ (cs.length : Int) := by omega
      clear hoth
      refine wp_region_held_drew (S := fun W => True) (by kernel_rfl) (trivial) (fun hHeld => ?_)
      generalize w4.drew = wd at *
      refine wpAnyH_take (i := 0) (v := ?_) rfl (by kernel_rfl) (by kernel_rfl) (by kernel_rfl) (fun _ _ _ h => h) (Or.inl ⟨by rfl, ?_⟩) (by assumption) ?_
      rotate_left 1
      · (intro w hSw; (try dsimp only at hSw); go_simp; try with_reducible rfl)
      try simp only [Act.put, List.getElem_toArray, List.getElem_cons_succ, List.getElem_cons_zero, List.setIfInBounds_toArray, List.set_cons_zero, List.set_cons_succ]
      refine wpAnyH_take (i := 1) (v := ?_) rfl (by kernel_rfl) (by kernel_rfl) (by kernel_rfl) (fun _ _ _ h => h) (Or.inl ⟨by rfl, ?_⟩) (by assumption) ?_
      rotate_left 1
      · (intro w hSw; (try dsimp only at hSw); go_simp; try with_reducible rfl)
      try simp only [Act.put, List.getElem_toArray, List.getElem_cons_succ, List.getElem_cons_zero, List.setIfInBounds_toArray, List.set_cons_zero, List.set_cons_succ]
      refine wpAnyH_take (i := 2) (v := ?_) rfl (by kernel_rfl) (by kernel_rfl) (by kernel_rfl) (fun _ _ _ h => h) (Or.inl ⟨by rfl, ?_⟩) (by assumption) ?_
      rotate_left 1
      · (intro w hSw; (try dsimp only at hSw); go_simp; try with_reducible rfl)
      try simp only [Act.put, List.getElem_toArray, List.getElem_cons_succ, List.getElem_cons_zero, List.setIfInBounds_toArray, List.set_cons_zero, List.set_cons_succ]
      refine wpAnyH_take (i := 3) (v := ?_) rfl (by kernel_rfl) (by kernel_rfl) (by kernel_rfl) (fun _ _ _ h => h) (Or.inl ⟨by rfl, ?_⟩) (by assumption) ?_
      rotate_left 1
      · (intro w hSw; (try dsimp only at hSw); go_simp; try with_reducible rfl)
      try simp only [Act.put, List.getElem_toArray, List.getElem_cons_succ, List.getElem_cons_zero, List.setIfInBounds_toArray, List.set_cons_zero, List.set_cons_succ]
      refine wpAnyH_take (i := 4) (v := ?_) rfl (by kernel_rfl) (by kernel_rfl) (by kernel_rfl) (fun _ _ _ h => h) (Or.inl ⟨by rfl, ?_⟩) (by assumption) ?_
      rotate_left 1
      · (intro w hSw; (try dsimp only at hSw); go_simp; try with_reducible rfl)
      try simp only [Act.put, List.getElem_toArray, List.getElem_cons_succ, List.getElem_cons_zero, List.setIfInBounds_toArray, List.set_cons_zero, List.set_cons_succ]
      refine wpAnyH_take (i := 5) (v := ?_) rfl (by kernel_rfl) (by kernel_rfl) (by kernel_rfl) (fun _ _ _ h => h) (Or.inl ⟨by rfl, ?_⟩) (by assumption) ?_
      rotate_left 1
      · (intro w hSw; (try dsimp only at hSw); go_simp; try with_reducible rfl)
      try simp only [Act.put, List.getElem_toArray, List.getElem_cons_succ, List.getElem_cons_zero, List.setIfInBounds_toArray, List.set_cons_zero, List.set_cons_succ]
      refine wpAnyH_take (i := 6) (v := ?_) rfl (by kernel_rfl) (by kernel_rfl) (by kernel_rfl) (fun _ _ _ h => h) (Or.inl ⟨by rfl, ?_⟩) (by assumption) ?_
      rotate_left 1
      · (intro w hSw; (try dsimp only at hSw); go_simp; try with_reducible rfl)
      try simp only [Act.put, List.getElem_toArray, List.getElem_cons_succ, List.getElem_cons_zero, List.setIfInBounds_toArray, List.set_cons_zero, List.set_cons_succ]
      refine wpAnyH_take (i := 7) (v := ?_) rfl (by kernel_rfl) (by kernel_rfl) (by kernel_rfl) (fun _ _ _ h => h) (Or.inl ⟨by rfl, ?_⟩) (by assumption) ?_
      rotate_left 1
      · (intro w hSw; (try dsimp only at hSw); go_simp; try with_reducible rfl)
      try simp only [Act.put, List.getElem_toArray, List.getElem_cons_succ, List.getElem_cons_zero, List.setIfInBounds_toArray, List.set_cons_zero, List.set_cons_succ]
      refine wpAnyH_ready (rs := [8]) (by kernel_rfl) (by simp) ?_
      refine AllReadyH.cons rfl (fun K hK => ?_) AllReadyH.nil
      with_reducible refine step_copy_rowK rfl (.tmp 50) (.tmp 53) 45 45 rfl 41 3 Tryd.underlying45 hsz w.heap.size ((i + 1) * 3) _ _ _ _ _ rfl rfl (splice ROW.toList (i * 3) [Value.int .i64 y.a, .int .i64 y.b, .int .i64 y.c]) 41 hgd D hnD hDd hfit hoD lo w hbD hlgw ?_
      intro w5 hg5 hb5 _
      refine hK.out _ _ (trivial) (fun hHeld => ?_)
      clear hK K
      try simp only [Act.put, List.getElem_toArray, List.getElem_cons_succ, List.getElem_cons_zero, List.setIfInBounds_toArray, List.set_cons_zero, List.set_cons_succ]
      refine wpAnyH_done (by kernel_rfl) ?_ _
      go_wp2_with fail
      go_ret
      have hfit2 : (i + 1) * 3 + D.length ≤ ROW.toList.length := by rw [HD.out, HRS.out]; omega
      have hsp := (splice_two (L := ROW.toList) (C := C) (Y := [Value.int .i64 y.a, .int .i64 y.b, .int .i64 y.c]) (D := D) (k := i * 3) (m := (i + 1) * 3) HC.out.symm (by simp; omega) HT.out hfit2).1
      have hll : (splice (splice ROW.toList (i * 3) [Value.int .i64 y.a, .int .i64 y.b, .int .i64 y.c]) ((i + 1) * 3) D).length = G * 3 := by rw [length_splice _ _ _ hfit, length_splice _ _ _ hfitY, HRS.out]
      have hcnt : (i + 1) * 3 + D.length = (cs.length + 1) * 3 := by rw [HD.out]; omega
      have hRl : R.length = (cs.length + 1) * 3 := by rw [HI.out, List.length_append, List.length_append, HC.out, HD.out]; simp; omega
      rw [hcnt] at hsp
      exact ⟨some ⟨w.heap.size, 0, none⟩, G, rfl, ⟨hRl, .inr ⟨w.heap.size, G, _, rfl, hlgw, hg5.out, hGn, hGm, by simpa using hll, by rw [HI.out]; simpa using hsp⟩⟩, hb5⟩
  · obtain rfl : i = cs.length := by omega
    have hrd : Rd w w.heap.size (some ⟨vb, 0, none⟩) [Value.int .i64 y.a, .int .i64 y.b, .int .i64 y.c] := fun _ => ⟨vb, 0, rfl, lt_of_block hv, fun j u hu => by rw [Nat.zero_add]; exact hYs j u hu⟩
    have HI : Hid (R = cs.flatMap T3.cells ++ [Value.int .i64 y.a, .int .i64 y.b, .int .i64 y.c]) := by
      rw [hins]
      simp [Hid]
    clear hcut hins hC hD hYs
    have HOWN := h
    go_enter Tryd.func86, Tryd.ntmps86
    go_wp2_with (at_builtin; go_must (refine wp_app _ rfl _ _ 45 rfl lo 41 i0 (.agg #[.int .i64 0, .int .i64 0, .int .i64 0]) 3 24 Tryd.underlying45 hi0 hz0 hs0 hb0 rfl (by decide) _ _ _ rfl h _ _ 1 1 [.int .i64 y.a, .int .i64 y.b, .int .i64 y.c] rfl rfl hrd hoY (by omega) (by decide) hlo ?_); intro v' w1 hown' hgrow hat)
    all_goals (
      go_ret
      obtain ⟨A', c', rfl, _⟩ := own_shape hown'
      rw [HI.out]
      exact ⟨A', c', rfl, hown', app_below (Below.refl _ _) HOWN hgrow (Nat.le_refl _) hlo⟩)
end Go.Proofs.YtofjnmeblmbnmaaDoor
