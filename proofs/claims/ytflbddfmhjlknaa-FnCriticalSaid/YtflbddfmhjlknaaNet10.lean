/-
  Networks in the program: a tube is added.
-/
import Derived.Test.YtflbddfmhjlknaaNet8
namespace Go.Proofs.Ytflbddfmhjlknaa
open Go.RowKit
/-- The boxes while a tube is added. -/
structure AddSt (w0 : World) (n : Nat) (A : Option Addr) (m c : Nat) (t : T3) (w : World) : Prop where
  net : BoxN w w0.heap.size #[.int .i64 n, .slice A m c] 87
  tube : BoxN w (w0.heap.size + 1) #[.int .i64 t.a, .int .i64 t.b, .int .i64 t.c] 93
  res : BoxN w (w0.heap.size + 2) #[.int .i64 0, .slice none 0 0] 87
  bel : Below w0.heap.size w0 w
  sz : w0.heap.size + 3 ≤ w.heap.size
section
variable {w0 : World} {n : Nat} {A : Option Addr} {m c : Nat} {t : T3} {w w' : World}
theorem AddSt.below (h : AddSt w0 n A m c t w) (k : Below w.heap.size w w') : AddSt w0 n A m c t w' :=
  ⟨h.net.below k (by have := h.sz; omega), h.tube.below k (by have := h.sz; omega), h.res.below k (by have := h.sz; omega), h.bel.trans (k.mono h.bel.size), Nat.le_trans h.sz k.size⟩
theorem AddSt.alloc (h : AddSt w0 n A m c t w) (o : Obj) : AddSt w0 n A m c t (w.alloc o) := h.below ((Below.refl _ _).alloc (Nat.le_refl _) o)
theorem AddSt.drew (h : AddSt w0 n A m c t w) : AddSt w0 n A m c t w.drew := h.below (Below.refl _ _).drew
theorem AddSt.grown {e : TypeId} {s k : Nat} {v : Value} {xs : List Value} (h : AddSt w0 n A m c t w) (ho : w.ownsRow (w0.heap.size + 3) e s v k xs) (hg : w.grownBy w' v.ownBlock) : AddSt w0 n A m c t w' :=
  ⟨(hg.block _ h.net.lt (fun e => by have := (ho.lt _ e.symm).1; omega)).trans h.net, (hg.block _ h.tube.lt (fun e => by have := (ho.lt _ e.symm).1; omega)).trans h.tube, (hg.block _ h.res.lt (fun e => by have := (ho.lt _ e.symm).1; omega)).trans h.res, app_below h.bel ho hg (by omega) h.bel.size, Nat.le_trans h.sz hg.size⟩
theorem AddSt.setres (h : AddSt w0 n A m c t w) (j : Nat) (v : Value) : BoxN (w.setCell ⟨w0.heap.size + 2, j, none⟩ v) w0.heap.size #[.int .i64 n, .slice A m c] 87 ∧ BoxN (w.setCell ⟨w0.heap.size + 2, j, none⟩ v) (w0.heap.size + 1) #[.int .i64 t.a, .int .i64 t.b, .int .i64 t.c] 93 :=
  ⟨h.net.other (by omega) j v, h.tube.other (by omega) j v⟩
theorem setres2 {w : World} {b : Nat} {cs ds : Array Value} {e f : TypeId} (h : BoxN w b cs e ∧ BoxN w (b + 1) ds f) (j : Nat) (v : Value) : BoxN (w.setCell ⟨b + 2, j, none⟩ v) b cs e ∧ BoxN (w.setCell ⟨b + 2, j, none⟩ v) (b + 1) ds f :=
  ⟨h.1.other (by omega) j v, h.2.other (by omega) j v⟩
end
set_option maxRecDepth 100000 in
set_option maxHeartbeats 8000000 in
theorem implAddTube_any (n : Nat) (tb : List T3) (t : T3) (A : Option Addr) (c : Nat) (w : World) (h : OkNet n tb) (hl : tb.length < 24) (ht : OkTube n t) (hr : Rd3 w w.heap.size A tb) :
    Calls Try.prog 76 #[.agg #[.int .i64 n, .slice A tb.length c], .agg #[.int .i64 t.a, .int .i64 t.b, .int .i64 t.c]] w fun e w' => ∃ A' c', e = .returned (.tuple #[.agg #[.int .i64 n, .slice A' (tb.length + 1) c'], .int .i64 0]) ∧ Rd3 w' w'.heap.size A' (tb ++ [t]) ∧ Below w.heap.size w w' := by
  obtain ⟨i0, hi0, hz0, hs0, hb0⟩ := info_parts Tube_inf
  obtain ⟨hn2, hn10⟩ := h.1
  have b0 : Below w.heap.size w (((w.alloc (.cells #[.int .i64 n, .slice A tb.length c] 87)).alloc (.cells #[.int .i64 t.a, .int .i64 t.b, .int .i64 t.c] 93)).alloc (.cells #[.int .i64 0, .slice none 0 0] 87)) := (by repeat (first | exact Below.refl _ _ | assumption | (refine Below.alloc ?_ (by simp <;> omega) _) | refine Below.drew ?_ | refine bdn ?_ _))
  have ST0 := hide (show AddSt w n A tb.length c t (((w.alloc (.cells #[.int .i64 n, .slice A tb.length c] 87)).alloc (.cells #[.int .i64 t.a, .int .i64 t.b, .int .i64 t.c] 93)).alloc (.cells #[.int .i64 0, .slice none 0 0] 87)) from ⟨((BoxN.new w _ _).alloc _).alloc _, by have h := (BoxN.new (w.alloc (.cells #[.int .i64 n, .slice A tb.length c] 87)) #[.int .i64 t.a, .int .i64 t.b, .int .i64 t.c] 93).alloc (.cells #[.int .i64 0, .slice none 0 0] 87); simpa using h, by have h := BoxN.new ((w.alloc (.cells #[.int .i64 n, .slice A tb.length c] 87)).alloc (.cells #[.int .i64 t.a, .int .i64 t.b, .int .i64 t.c] 93)) #[.int .i64 0, .slice none 0 0] 87; simpa using h, b0, by simp⟩)
  have HV := hide fun W (hW : Below w.heap.size w W) => validNet_any n tb A c W h ((hr.below hW).more hW.size)
  have HTB := hide fun W => isTube_any n t A tb.length c W (by omega)
  rw [okTubeB_ok ht] at HTB
  have HCF := hide fun W (hW : Below w.heap.size w W) => cloneTube_any tb A c W (by omega) ((hr.below hW).more hW.size)
  clear hr h ht b0
  go_enter Try.func76, Try.ntmps76
  go_upto_region 1 with fail
  generalize (((w.alloc (.cells #[.int .i64 n, .slice A tb.length c] 87)).alloc (.cells #[.int .i64 t.a, .int .i64 t.b, .int .i64 t.c] 93)).alloc (.cells #[.int .i64 0, .slice none 0 0] 87)) = w1 at *
  have x0 : w1.cell? ⟨w.heap.size, 0, none⟩ = some (.int .i64 n) := ST0.out.net.cell 0
  have x1 : w1.cell? ⟨w.heap.size, 1, none⟩ = some (.slice A tb.length c) := ST0.out.net.cell 1
  go_upto_region 7 with (first
    | (go_at_call 129; (with_reducible refine (HV.out _ ST0.out.bel).mono ?_); rintro e w2 ⟨rfl, b2⟩; have ST2 := hide (ST0.out.below b2); have y0 : w2.cell? ⟨w.heap.size, 0, none⟩ = some (.int .i64 n) := ST2.out.net.cell 0; have y1 : w2.cell? ⟨w.heap.size, 1, none⟩ = some (.slice A tb.length c) := ST2.out.net.cell 1; have y2 : w2.cell? ⟨w.heap.size + 1, 0, none⟩ = some (.int .i64 t.a) := ST2.out.tube.cell 0; have y3 : w2.cell? ⟨w.heap.size + 1, 1, none⟩ = some (.int .i64 t.b) := ST2.out.tube.cell 1; have y4 : w2.cell? ⟨w.heap.size + 1, 2, none⟩ = some (.int .i64 t.c) := ST2.out.tube.cell 2; clear b2)
    | (go_at_call 136; (with_reducible refine (HTB.out _).mono ?_); rintro e w3 ⟨rfl, b3⟩; have ST3 := hide (ST2.out.below b3); have u0 : w3.cell? ⟨w.heap.size, 0, none⟩ = some (.int .i64 n) := ST3.out.net.cell 0; have u1 : w3.cell? ⟨w.heap.size, 1, none⟩ = some (.slice A tb.length c) := ST3.out.net.cell 1; clear b3))
  have STD := hide ST3.out.drew
  clear ST0 ST2 ST3 x0 x1 y0 y1 y2 y3 y4 u0 u1 HV HTB
  refine wp_region_held_drew (S := fun W => W.cell? ⟨w.heap.size, 0, none⟩ = some (.int .i64 n) ∧ W.cell? ⟨w.heap.size, 1, none⟩ = some (.slice A tb.length c) ∧ W.cell? ⟨w.heap.size + 1, 0, none⟩ = some (.int .i64 t.a) ∧ W.cell? ⟨w.heap.size + 1, 1, none⟩ = some (.int .i64 t.b) ∧ W.cell? ⟨w.heap.size + 1, 2, none⟩ = some (.int .i64 t.c)) (by kernel_rfl) (⟨STD.out.net.cell 0, STD.out.net.cell 1, STD.out.tube.cell 0, STD.out.tube.cell 1, STD.out.tube.cell 2⟩) (fun hHeld => ?_)
  generalize w3.drew = wd at *
  have HC := hide (HCF.out wd STD.out.bel)
  refine wpAnyH_take (i := 0) (v := ?_) rfl (by kernel_rfl) (by kernel_rfl) (by kernel_rfl) (fun _ _ _ h => h) (Or.inl ⟨by rfl, ?_⟩) (by assumption) ?_
  rotate_left 1
  · (intro w hSw; (try dsimp only at hSw); go_simp; try with_reducible rfl)
  try simp only [Act.put, List.getElem_toArray, List.getElem_cons_succ, List.getElem_cons_zero, List.setIfInBounds_toArray, List.set_cons_zero, List.set_cons_succ]
  refine wpAnyH_take (i := 1) (v := ?_) rfl (by kernel_rfl) (by kernel_rfl) (by kernel_rfl) (fun _ _ _ h => h) (Or.inl ⟨by rfl, ?_⟩) (by assumption) ?_
  rotate_left 1
  · (intro w hSw; (try dsimp only at hSw); go_simp; try with_reducible rfl)
  try simp only [Act.put, List.getElem_toArray, List.getElem_cons_succ, List.getElem_cons_zero, List.setIfInBounds_toArray, List.set_cons_zero, List.set_cons_succ]
  refine wpAnyH_take (i := 2) (v := ?_) rfl (by kernel_rfl) (by kernel_rfl) (by kernel_rfl) (fun _ _ _ h => h) (Or.inl ⟨by rfl, ?_⟩) (by assumption) ?_
  rotate_left 1
  · (intro w hSw; (try dsimp only at hSw); go_simp; try with_reducible rfl)
  try simp only [Act.put, List.getElem_toArray, List.getElem_cons_succ, List.getElem_cons_zero, List.setIfInBounds_toArray, List.set_cons_zero, List.set_cons_succ]
  refine wpAnyH_take (i := 3) (v := ?_) rfl (by kernel_rfl) (by kernel_rfl) (by kernel_rfl) (fun _ _ _ h => h) (Or.inl ⟨by rfl, ?_⟩) (by assumption) ?_
  rotate_left 1
  · (intro w hSw; (try dsimp only at hSw); go_simp; try with_reducible rfl)
  try simp only [Act.put, List.getElem_toArray, List.getElem_cons_succ, List.getElem_cons_zero, List.setIfInBounds_toArray, List.set_cons_zero, List.set_cons_succ]
  refine wpAnyH_take (i := 5) (v := ?_) rfl (by kernel_rfl) (by kernel_rfl) (by kernel_rfl) (fun _ _ _ h => h) (Or.inl ⟨by rfl, ?_⟩) (by assumption) ?_
  rotate_left 1
  · (intro w hSw; (try dsimp only at hSw); go_simp; try with_reducible rfl)
  try simp only [Act.put, List.getElem_toArray, List.getElem_cons_succ, List.getElem_cons_zero, List.setIfInBounds_toArray, List.set_cons_zero, List.set_cons_succ]
  refine wpAnyH_ready (rs := [4, 6]) (by kernel_rfl) (by simp) ?_
  refine AllReadyH.cons rfl (fun K hK => ?_) (AllReadyH.cons rfl (fun K hK => ?_) AllReadyH.nil)
  · try simp only [Act.put, List.getElem_toArray, List.getElem_cons_succ, List.getElem_cons_zero, List.setIfInBounds_toArray, List.set_cons_zero, List.set_cons_succ]
    go_simp
    go_at_call 137
    refine (HC.out).mono ?_
    rintro e w4 ⟨A4, c4, rfl, hown4, b4⟩
    have ST4 := hide (STD.out.below b4)
    dsimp only
    refine hK.out _ _ (⟨ST4.out.net.cell 0, ST4.out.net.cell 1, ST4.out.tube.cell 0, ST4.out.tube.cell 1, ST4.out.tube.cell 2⟩) (fun hHeld => ?_)
    clear hK K
    try simp only [Act.put, List.getElem_toArray, List.getElem_cons_succ, List.getElem_cons_zero, List.setIfInBounds_toArray, List.set_cons_zero, List.set_cons_succ]
    refine wpAnyH_ready (rs := [6]) (by kernel_rfl) (by simp) ?_
    refine AllReadyH.cons rfl (fun K hK => ?_) AllReadyH.nil
    try simp only [Act.put, List.getElem_toArray, List.getElem_cons_succ, List.getElem_cons_zero, List.setIfInBounds_toArray, List.set_cons_zero, List.set_cons_succ]
    go_simp
    have ST6 := hide (ST4.out.alloc (.cells #[.int .i64 t.a, .int .i64 t.b, .int .i64 t.c] 93))
    have hown6 := (own_base hown4 (show w.heap.size + 3 ≤ wd.heap.size from STD.out.sz)).alloc (.cells #[.int .i64 t.a, .int .i64 t.b, .int .i64 t.c] 93)
    have hsz6 : w.heap.size + 3 ≤ (w4.alloc (.cells #[.int .i64 t.a, .int .i64 t.b, .int .i64 t.c] 93)).heap.size := ST6.out.sz
    have hrd := rd_new w4 [.int .i64 t.a, .int .i64 t.b, .int .i64 t.c] 93 _ rfl
    refine hK.out _ _ (⟨ST6.out.net.cell 0, ST6.out.net.cell 1, ST6.out.tube.cell 0, ST6.out.tube.cell 1, ST6.out.tube.cell 2⟩) (fun hHeld => ?_)
    clear hK K
    try simp only [Act.put, List.getElem_toArray, List.getElem_cons_succ, List.getElem_cons_zero, List.setIfInBounds_toArray, List.set_cons_zero, List.set_cons_succ]
    have hS6 := hide (show _ ∧ _ from ⟨hown6, hsz6⟩)
    refine wpAnyH_ready (rs := [7]) (by kernel_rfl) (by simp) ?_
    refine AllReadyH.cons rfl (fun K hK => ?_) AllReadyH.nil
    try simp only [Act.put, List.getElem_toArray, List.getElem_cons_succ, List.getElem_cons_zero, List.setIfInBounds_toArray, List.set_cons_zero, List.set_cons_succ]
    rw [if_pos (by rfl)]
    refine op_app _ _ _ 85 rfl (w.heap.size + 3) 93 i0 (.agg #[.int .i64 0, .int .i64 0, .int .i64 0]) 3 24 Try.underlying85 hi0 hz0 hs0 hb0 rfl (by decide) _ _ _ rfl hown6 _ _ 1 1 [.int .i64 t.a, .int .i64 t.b, .int .i64 t.c] rfl rfl hrd (by intro q hq; simp at hq; rcases hq with rfl | rfl | rfl <;> rfl) (by omega) (by decide) hsz6 ?_
    intro v' w7 hown7 hgrow7 hat7
    obtain ⟨A7, c7, rfl, _⟩ := own_shape hown7
    have N7 := hide (ST6.out.grown hown6 hgrow7)
    have m0 : w7.cell? ⟨w.heap.size + 2, 0, none⟩ = some (.int .i64 0) := N7.out.res.cell 0
    have m1 : w7.cell? ⟨w.heap.size + 2, 1, none⟩ = some (.slice none 0 0) := N7.out.res.cell 1
    have n0 := N7.out.res.fro 0
    have n1 := N7.out.res.fro 1
    have T0 := hide (N7.out.res.set 0 (.int .i64 n))
    have T1 := hide (T0.out.set 1 (.slice A7 (tb.length + 1) c7))
    have m1' : (w7.setCell ⟨w.heap.size + 2, 0, none⟩ (.int .i64 n)).cell? ⟨w.heap.size + 2, 1, none⟩ = some (.slice none 0 0) := T0.out.cell 1
    have n1' := T0.out.fro 1
    dsimp only
    refine hK.out _ _ (⟨N7.out.net.cell 0, N7.out.net.cell 1, N7.out.tube.cell 0, N7.out.tube.cell 1, N7.out.tube.cell 2⟩) (fun hHeld => ?_)
    clear hK K
    try simp only [Act.put, List.getElem_toArray, List.getElem_cons_succ, List.getElem_cons_zero, List.setIfInBounds_toArray, List.set_cons_zero, List.set_cons_succ]
    refine wpAnyH_take (i := 8) (v := ?_) rfl (by kernel_rfl) (by kernel_rfl) (by kernel_rfl) (fun _ _ _ h => h) (Or.inl ⟨by rfl, ?_⟩) (by assumption) ?_
    rotate_left 1
    · (intro w hSw; (try dsimp only at hSw); go_simp; try with_reducible rfl)
    try simp only [Act.put, List.getElem_toArray, List.getElem_cons_succ, List.getElem_cons_zero, List.setIfInBounds_toArray, List.set_cons_zero, List.set_cons_succ]
    refine wpAnyH_ready (rs := [9]) (by kernel_rfl) (by simp) ?_
    refine AllReadyH.cons rfl (fun K hK => ?_) AllReadyH.nil
    try simp only [Act.put, List.getElem_toArray, List.getElem_cons_succ, List.getElem_cons_zero, List.setIfInBounds_toArray, List.set_cons_zero, List.set_cons_succ]
    go_simp
    have N9 := hide (setres2 (N7.out.setres 0 (.int .i64 n)) 1 (.slice A7 (tb.length + 1) c7))
    refine hK.out _ _ (⟨N9.out.1.cell 0, N9.out.1.cell 1, N9.out.2.cell 0, N9.out.2.cell 1, N9.out.2.cell 2⟩) (fun hHeld => ?_)
    clear hK K
    try simp only [Act.put, List.getElem_toArray, List.getElem_cons_succ, List.getElem_cons_zero, List.setIfInBounds_toArray, List.set_cons_zero, List.set_cons_succ]
    refine wpAnyH_take (i := 10) (v := ?_) rfl (by kernel_rfl) (by kernel_rfl) (by kernel_rfl) (fun _ _ _ h => h) (Or.inl ⟨by rfl, ?_⟩) (by assumption) ?_
    rotate_left 1
    · (intro w hSw; (try dsimp only at hSw); go_simp; try with_reducible rfl)
    try simp only [Act.put, List.getElem_toArray, List.getElem_cons_succ, List.getElem_cons_zero, List.setIfInBounds_toArray, List.set_cons_zero, List.set_cons_succ]
    refine wpAnyH_done (by kernel_rfl) ?_ _
    go_wp2_with fail
    have q0 : ((w7.setCell ⟨w.heap.size + 2, 0, none⟩ (.int .i64 n)).setCell ⟨w.heap.size + 2, 1, none⟩ (.slice A7 (tb.length + 1) c7)).cell? ⟨w.heap.size + 2, 0, none⟩ = some (.int .i64 n) := T1.out.cell 0
    have q1 : ((w7.setCell ⟨w.heap.size + 2, 0, none⟩ (.int .i64 n)).setCell ⟨w.heap.size + 2, 1, none⟩ (.slice A7 (tb.length + 1) c7)).cell? ⟨w.heap.size + 2, 1, none⟩ = some (.slice A7 (tb.length + 1) c7) := T1.out.cell 1
    have hne : (Value.slice A7 (tb.length + 1) c7).ownBlock = none ∨ (Value.slice A7 (tb.length + 1) c7).ownBlock ≠ some (w.heap.size + 2) := .inr (fun e => by have := (hown7.lt _ e).1; omega)
    have hrow := (hown7.kept (grown_setCell w7 ⟨w.heap.size + 2, 0, none⟩ (.int .i64 n)) hne).kept (grown_setCell _ ⟨w.heap.size + 2, 1, none⟩ (.slice A7 (tb.length + 1) c7)) hne
    refine bodyPost_ret (v := .tuple #[.agg #[.int .i64 n, .slice A7 (tb.length + 1) c7], .int .i64 0]) (by simp [results, Try.results76, go_sem, q0, q1]) rfl ⟨A7, c7, rfl, ?_, ?_⟩
    · have h := Rd.of_own hrow
      have e : tb.flatMap T3.cells ++ [.int .i64 t.a, .int .i64 t.b, .int .i64 t.c] = (tb ++ [t]).flatMap T3.cells := by rw [List.flatMap_append]; rfl
      rw [e] at h
      exact h
    · exact ((N7.out.bel.setCell (by dsimp only; omega) _).setCell (by dsimp only; omega) _)
  · try simp only [Act.put, List.getElem_toArray, List.getElem_cons_succ, List.getElem_cons_zero, List.setIfInBounds_toArray, List.set_cons_zero, List.set_cons_succ]
    go_simp
    have ST4 := hide (STD.out.alloc (.cells #[.int .i64 t.a, .int .i64 t.b, .int .i64 t.c] 93))
    have HCB := hide (HCF.out _ ST4.out.bel)
    have hrd0 := rd_new wd [.int .i64 t.a, .int .i64 t.b, .int .i64 t.c] 93 _ rfl
    have hzd : wd.heap.size + 1 ≤ (wd.alloc (.cells #[.int .i64 t.a, .int .i64 t.b, .int .i64 t.c] 93)).heap.size := by simp
    refine hK.out _ _ (⟨ST4.out.net.cell 0, ST4.out.net.cell 1, ST4.out.tube.cell 0, ST4.out.tube.cell 1, ST4.out.tube.cell 2⟩) (fun hHeld => ?_)
    clear hK K
    try simp only [Act.put, List.getElem_toArray, List.getElem_cons_succ, List.getElem_cons_zero, List.setIfInBounds_toArray, List.set_cons_zero, List.set_cons_succ]
    refine wpAnyH_ready (rs := [4]) (by kernel_rfl) (by simp) ?_
    refine AllReadyH.cons rfl (fun K hK => ?_) AllReadyH.nil
    try simp only [Act.put, List.getElem_toArray, List.getElem_cons_succ, List.getElem_cons_zero, List.setIfInBounds_toArray, List.set_cons_zero, List.set_cons_succ]
    go_simp
    go_at_call 137
    refine (HCB.out).mono ?_
    rintro e w4 ⟨A4, c4, rfl, hown4, b4⟩
    have ST6 := hide (ST4.out.below b4)
    have hown6 := own_base hown4 (show w.heap.size + 3 ≤ (wd.alloc (.cells #[.int .i64 t.a, .int .i64 t.b, .int .i64 t.c] 93)).heap.size from ST4.out.sz)
    have hsz6 : w.heap.size + 3 ≤ w4.heap.size := ST6.out.sz
    have hrd := Rd.below hrd0 (b4.mono hzd)
    dsimp only
    refine hK.out _ _ (⟨ST6.out.net.cell 0, ST6.out.net.cell 1, ST6.out.tube.cell 0, ST6.out.tube.cell 1, ST6.out.tube.cell 2⟩) (fun hHeld => ?_)
    clear hK K
    try simp only [Act.put, List.getElem_toArray, List.getElem_cons_succ, List.getElem_cons_zero, List.setIfInBounds_toArray, List.set_cons_zero, List.set_cons_succ]
    have hS6 := hide (show _ ∧ _ from ⟨hown6, hsz6⟩)
    refine wpAnyH_ready (rs := [7]) (by kernel_rfl) (by simp) ?_
    refine AllReadyH.cons rfl (fun K hK => ?_) AllReadyH.nil
    try simp only [Act.put, List.getElem_toArray, List.getElem_cons_succ, List.getElem_cons_zero, List.setIfInBounds_toArray, List.set_cons_zero, List.set_cons_succ]
    rw [if_pos (by rfl)]
    refine op_app _ _ _ 85 rfl (w.heap.size + 3) 93 i0 (.agg #[.int .i64 0, .int .i64 0, .int .i64 0]) 3 24 Try.underlying85 hi0 hz0 hs0 hb0 rfl (by decide) _ _ _ rfl hown6 _ _ 1 1 [.int .i64 t.a, .int .i64 t.b, .int .i64 t.c] rfl rfl hrd (by intro q hq; simp at hq; rcases hq with rfl | rfl | rfl <;> rfl) (by omega) (by decide) hsz6 ?_
    intro v' w7 hown7 hgrow7 hat7
    obtain ⟨A7, c7, rfl, _⟩ := own_shape hown7
    have N7 := hide (ST6.out.grown hown6 hgrow7)
    have m0 : w7.cell? ⟨w.heap.size + 2, 0, none⟩ = some (.int .i64 0) := N7.out.res.cell 0
    have m1 : w7.cell? ⟨w.heap.size + 2, 1, none⟩ = some (.slice none 0 0) := N7.out.res.cell 1
    have n0 := N7.out.res.fro 0
    have n1 := N7.out.res.fro 1
    have T0 := hide (N7.out.res.set 0 (.int .i64 n))
    have T1 := hide (T0.out.set 1 (.slice A7 (tb.length + 1) c7))
    have m1' : (w7.setCell ⟨w.heap.size + 2, 0, none⟩ (.int .i64 n)).cell? ⟨w.heap.size + 2, 1, none⟩ = some (.slice none 0 0) := T0.out.cell 1
    have n1' := T0.out.fro 1
    dsimp only
    refine hK.out _ _ (⟨N7.out.net.cell 0, N7.out.net.cell 1, N7.out.tube.cell 0, N7.out.tube.cell 1, N7.out.tube.cell 2⟩) (fun hHeld => ?_)
    clear hK K
    try simp only [Act.put, List.getElem_toArray, List.getElem_cons_succ, List.getElem_cons_zero, List.setIfInBounds_toArray, List.set_cons_zero, List.set_cons_succ]
    refine wpAnyH_take (i := 8) (v := ?_) rfl (by kernel_rfl) (by kernel_rfl) (by kernel_rfl) (fun _ _ _ h => h) (Or.inl ⟨by rfl, ?_⟩) (by assumption) ?_
    rotate_left 1
    · (intro w hSw; (try dsimp only at hSw); go_simp; try with_reducible rfl)
    try simp only [Act.put, List.getElem_toArray, List.getElem_cons_succ, List.getElem_cons_zero, List.setIfInBounds_toArray, List.set_cons_zero, List.set_cons_succ]
    refine wpAnyH_ready (rs := [9]) (by kernel_rfl) (by simp) ?_
    refine AllReadyH.cons rfl (fun K hK => ?_) AllReadyH.nil
    try simp only [Act.put, List.getElem_toArray, List.getElem_cons_succ, List.getElem_cons_zero, List.setIfInBounds_toArray, List.set_cons_zero, List.set_cons_succ]
    go_simp
    have N9 := hide (setres2 (N7.out.setres 0 (.int .i64 n)) 1 (.slice A7 (tb.length + 1) c7))
    refine hK.out _ _ (⟨N9.out.1.cell 0, N9.out.1.cell 1, N9.out.2.cell 0, N9.out.2.cell 1, N9.out.2.cell 2⟩) (fun hHeld => ?_)
    clear hK K
    try simp only [Act.put, List.getElem_toArray, List.getElem_cons_succ, List.getElem_cons_zero, List.setIfInBounds_toArray, List.set_cons_zero, List.set_cons_succ]
    refine wpAnyH_take (i := 10) (v := ?_) rfl (by kernel_rfl) (by kernel_rfl) (by kernel_rfl) (fun _ _ _ h => h) (Or.inl ⟨by rfl, ?_⟩) (by assumption) ?_
    rotate_left 1
    · (intro w hSw; (try dsimp only at hSw); go_simp; try with_reducible rfl)
    try simp only [Act.put, List.getElem_toArray, List.getElem_cons_succ, List.getElem_cons_zero, List.setIfInBounds_toArray, List.set_cons_zero, List.set_cons_succ]
    refine wpAnyH_done (by kernel_rfl) ?_ _
    go_wp2_with fail
    have q0 : ((w7.setCell ⟨w.heap.size + 2, 0, none⟩ (.int .i64 n)).setCell ⟨w.heap.size + 2, 1, none⟩ (.slice A7 (tb.length + 1) c7)).cell? ⟨w.heap.size + 2, 0, none⟩ = some (.int .i64 n) := T1.out.cell 0
    have q1 : ((w7.setCell ⟨w.heap.size + 2, 0, none⟩ (.int .i64 n)).setCell ⟨w.heap.size + 2, 1, none⟩ (.slice A7 (tb.length + 1) c7)).cell? ⟨w.heap.size + 2, 1, none⟩ = some (.slice A7 (tb.length + 1) c7) := T1.out.cell 1
    have hne : (Value.slice A7 (tb.length + 1) c7).ownBlock = none ∨ (Value.slice A7 (tb.length + 1) c7).ownBlock ≠ some (w.heap.size + 2) := .inr (fun e => by have := (hown7.lt _ e).1; omega)
    have hrow := (hown7.kept (grown_setCell w7 ⟨w.heap.size + 2, 0, none⟩ (.int .i64 n)) hne).kept (grown_setCell _ ⟨w.heap.size + 2, 1, none⟩ (.slice A7 (tb.length + 1) c7)) hne
    refine bodyPost_ret (v := .tuple #[.agg #[.int .i64 n, .slice A7 (tb.length + 1) c7], .int .i64 0]) (by simp [results, Try.results76, go_sem, q0, q1]) rfl ⟨A7, c7, rfl, ?_, ?_⟩
    · have h := Rd.of_own hrow
      have e : tb.flatMap T3.cells ++ [.int .i64 t.a, .int .i64 t.b, .int .i64 t.c] = (tb ++ [t]).flatMap T3.cells := by rw [List.flatMap_append]; rfl
      rw [e] at h
      exact h
    · exact ((N7.out.bel.setCell (by dsimp only; omega) _).setCell (by dsimp only; omega) _)
end Go.Proofs.Ytflbddfmhjlknaa
