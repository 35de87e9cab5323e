/-
  The best order, in the program.
-/
import Derived.Test.YtfhociekhffjhaaOrdI
namespace Go.Proofs.Ytfhociekhffjhaa
open Go.RowKit

theorem only_setCell {lo hi : Nat} (w : World) (a : Addr) (v : Value) (h : lo ≤ a.block ∧ a.block < hi) : Only lo hi w (w.setCell a v) :=
  ⟨rfl, rfl, rfl, by simp [World.setCell], fun k _ ho => Below.heap_setCell _ _ _ _ (by omega)⟩
theorem WayAt.to {w w' : World} {p : Value × TN} (h : WayAt w w.heap.size p) (k : Below w.heap.size w w') : WayAt w' w'.heap.size p := by
  obtain ⟨A, c, e, r⟩ := h
  exact ⟨A, c, e, (r.below k).more k.size⟩
/-- The best order so far lies in one box, its value in the next one. -/
def InvB (pb : Nat) (s : List Int × Int) (W : World) : Prop := ∃ v, BoxN W pb #[v] 24 ∧ BoxN W (pb + 1) #[.int .i64 s.2] 2 ∧ O_Int64S W (pb + 2) W.heap.size v s.1 ∧ pb + 2 ≤ W.heap.size
theorem InvB.below {pb : Nat} {s : List Int × Int} {W W' : World} (h : InvB pb s W) (k : Below W.heap.size W W') : InvB pb s W' := by
  obtain ⟨v, h1, h2, h3, h4⟩ := h
  have := k.size
  exact ⟨v, h1.below k (by omega), h2.below k (by omega), own_tob h3 k (Nat.le_refl _) k.size, by omega⟩
set_option maxRecDepth 100000 in
set_option maxHeartbeats 8000000 in
theorem bestCl_any (late : Bool) (ts : List Int) (l : List TN) (G : FuncId) (capG : Array Value) (A0 : Option Addr) (c0 : Nat) (A : Option Addr) (c : Nat) (bv bt bl pb : Nat) (order : List Int) (s : List Int × Int) (A2 : Option Addr) (c2 : Nat) (W : World)
    (hcf : ∀ args w, (callFunc G args).run Try.prog w = .ok (.enter G args) w) (hbv : bv < pb) (hbt : bt < pb) (hbl : bl < pb)
    (kv : W.cell? ⟨bv, 0, none⟩ = some (.func (.func G) #[] capG)) (kt : W.cell? ⟨bt, 0, none⟩ = some (.slice A0 ts.length c0)) (kl : W.cell? ⟨bl, 0, none⟩ = some (.slice A l.length c))
    (h1 : RdI W W.heap.size A0 ts) (h2 : RN 2 W W.heap.size A l) (ho : codeO ts l order = 0) (h3 : RdI W W.heap.size A2 order)
    (hp : ∀ A3 c3 (po : List (Value × TN)) base W', Below W.heap.size W W' → po.map (·.2) = planR ts l order → W'.ownsRow base 34 2 (.slice A3 l.length c3) l.length (po.flatMap (Nc 1)) → (∀ p ∈ po, WayAt W' W'.heap.size p) → Calls Try.prog G (#[.slice A3 l.length c3] ++ capG) W' fun e w' => e = .returned (.int .i64 (valO late ts l order)) ∧ Below W'.heap.size W' w')
    (hI : InvB pb s W) :
    Calls Try.prog 188 #[.slice A2 l.length c2, .pointer (some ⟨bv, 0, none⟩), .pointer (some ⟨bt, 0, none⟩), .pointer (some ⟨bl, 0, none⟩), .pointer (some ⟨pb + 1, 0, none⟩), .pointer (some ⟨pb, 0, none⟩)] W fun e w' => e = .returned (.tuple #[]) ∧ InvB pb (best1 (valO late ts l) s order) w' ∧ Only pb (pb + 2) W w' := by
  have hol := (codeO_ok ho).2.1
  have hl6 := (codeO_ok ho).1.2.1
  have bd : Below W.heap.size W W.drew := (Below.refl _ _).drew
  have HRP := hide (runsOfPlan_any ts l order A0 c0 A c A2 c2 W.drew ho (h1.below bd) (h2.below bd) (h3.below bd))
  rw [hol] at HRP
  have HP := hide hp
  have HI := hide hI
  have hpz : pb + 2 ≤ W.heap.size := by obtain ⟨_, _, _, _, h⟩ := hI; exact h
  have hp0 : (pb == pb + 1) = false := by simp
  have H3 := hide fun W1 (hW1 : Below W.heap.size W W1) => cloneI_any order A2 c2 W1 (by omega) ((h3.below hW1).more hW1.size)
  rw [hol] at H3
  have e0 : W.drew.cell? ⟨bv, 0, none⟩ = some (.func (.func G) #[] capG) := kv
  have e1 : W.drew.cell? ⟨bt, 0, none⟩ = some (.slice A0 ts.length c0) := kt
  have e2 : W.drew.cell? ⟨bl, 0, none⟩ = some (.slice A l.length c) := kl
  have HOL := hide hol
  clear hp h1 h2 h3 ho kv kt kl hI hol
  have HB1 := hide (fun h => best1_y (v := valO late ts l) (s := s) (o := order) h)
  have HB2 := hide (fun h1 h2 => best1_n (v := valO late ts l) (s := s) (o := order) h1 h2)
  generalize valO late ts l order = z at *
  generalize hbb : best1 (valO late ts l) s order = s1 at *
  clear hbb
  obtain ⟨s0, lst⟩ := s
  dsimp only at HB1 HB2
  by_cases hneg : lst < 0
  · have hB1 : decide (lst < 0) = true := decide_eq_true hneg
    go_enter Try.func188, Try.ntmps188
    go_wp2_with fail
    have hzd : W.heap.size ≤ W.drew.heap.size := Nat.le_refl _
    refine wp_region_held_drew (S := fun W => W.cell? ⟨bv, 0, none⟩ = some (.func (.func G) #[] capG) ∧ W.cell? ⟨bt, 0, none⟩ = some (.slice A0 ts.length c0) ∧ W.cell? ⟨bl, 0, none⟩ = some (.slice A l.length c)) (by kernel_rfl) (⟨e0, e1, e2⟩) (fun hHeld => ?_)
    generalize W.drew = wd at *
    refine wpAnyH_take (i := 0) (v := ?_) rfl (by kernel_rfl) (by kernel_rfl) (by kernel_rfl) (fun _ _ _ h => h) (Or.inl ⟨by rfl, ?_⟩) (by assumption) ?_
    rotate_left 1
    · (intro w hSw; (try dsimp only at hSw); go_simp; try with_reducible rfl)
    try simp only [Act.put, List.getElem_toArray, List.getElem_cons_succ, List.getElem_cons_zero, List.setIfInBounds_toArray, List.set_cons_zero, List.set_cons_succ]
    refine wpAnyH_take (i := 1) (v := ?_) rfl (by kernel_rfl) (by kernel_rfl) (by kernel_rfl) (fun _ _ _ h => h) (Or.inl ⟨by rfl, ?_⟩) (by assumption) ?_
    rotate_left 1
    · (intro w hSw; (try dsimp only at hSw); go_simp; try with_reducible rfl)
    try simp only [Act.put, List.getElem_toArray, List.getElem_cons_succ, List.getElem_cons_zero, List.setIfInBounds_toArray, List.set_cons_zero, List.set_cons_succ]
    refine wpAnyH_take (i := 2) (v := ?_) rfl (by kernel_rfl) (by kernel_rfl) (by kernel_rfl) (fun _ _ _ h => h) (Or.inl ⟨by rfl, ?_⟩) (by assumption) ?_
    rotate_left 1
    · (intro w hSw; (try dsimp only at hSw); go_simp; try with_reducible rfl)
    try simp only [Act.put, List.getElem_toArray, List.getElem_cons_succ, List.getElem_cons_zero, List.setIfInBounds_toArray, List.set_cons_zero, List.set_cons_succ]
    refine wpAnyH_take (i := 3) (v := ?_) rfl (by kernel_rfl) (by kernel_rfl) (by kernel_rfl) (fun _ _ _ h => h) (Or.inl ⟨by rfl, ?_⟩) (by assumption) ?_
    rotate_left 1
    · (intro w hSw; (try dsimp only at hSw); go_simp; try with_reducible rfl)
    try simp only [Act.put, List.getElem_toArray, List.getElem_cons_succ, List.getElem_cons_zero, List.setIfInBounds_toArray, List.set_cons_zero, List.set_cons_succ]
    refine wpAnyH_ready (rs := [4]) (by kernel_rfl) (by simp) ?_
    refine AllReadyH.cons rfl (fun K hK => ?_) AllReadyH.nil
    try simp only [Act.put, List.getElem_toArray, List.getElem_cons_succ, List.getElem_cons_zero, List.setIfInBounds_toArray, List.set_cons_zero, List.set_cons_succ]
    go_simp
    go_at_call 114
    refine HRP.out.mono ?_
    rintro e w2 ⟨A3, c3, po, rfl, hpo, hro, hwy, s2⟩
    have f0 := (s2.cell (p := ⟨bv, 0, none⟩) (by dsimp only; omega)).trans e0
    have f1 := (s2.cell (p := ⟨bt, 0, none⟩) (by dsimp only; omega)).trans e1
    have f2 := (s2.cell (p := ⟨bl, 0, none⟩) (by dsimp only; omega)).trans e2
    have z2 := s2.size
    have B2 := bd.trans (s2.mono hzd)
    have HC := hide (HP.out A3 c3 po _ w2 B2 hpo hro (fun p hp => (hwy p hp).to s2))
    clear e0 e1 e2 hpo hro hwy
    dsimp only
    refine hK.out _ _ (⟨f0, f1, f2⟩) (fun hHeld => ?_)
    clear hK K
    try simp only [Act.put, List.getElem_toArray, List.getElem_cons_succ, List.getElem_cons_zero, List.setIfInBounds_toArray, List.set_cons_zero, List.set_cons_succ]
    refine wpAnyH_ready (rs := [5]) (by kernel_rfl) (by simp) ?_
    refine AllReadyH.cons rfl (fun K hK => ?_) AllReadyH.nil
    try simp only [Act.put, List.getElem_toArray, List.getElem_cons_succ, List.getElem_cons_zero, List.setIfInBounds_toArray, List.set_cons_zero, List.set_cons_succ]
    go_simp
    refine HC.out.mono ?_
    rintro e w3 ⟨rfl, s3⟩
    have g0 := (s3.cell (p := ⟨bv, 0, none⟩) (by dsimp only; omega)).trans f0
    have g1 := (s3.cell (p := ⟨bt, 0, none⟩) (by dsimp only; omega)).trans f1
    have g2 := (s3.cell (p := ⟨bl, 0, none⟩) (by dsimp only; omega)).trans f2
    have B3 := B2.trans (s3.mono (by omega))
    clear f0 f1 f2
    dsimp only
    refine hK.out _ _ (⟨g0, g1, g2⟩) (fun hHeld => ?_)
    clear hK K
    try simp only [Act.put, List.getElem_toArray, List.getElem_cons_succ, List.getElem_cons_zero, List.setIfInBounds_toArray, List.set_cons_zero, List.set_cons_succ]
    refine wpAnyH_take (i := 6) (v := ?_) rfl (by kernel_rfl) (by kernel_rfl) (by kernel_rfl) (fun _ _ _ h => h) (Or.inl ⟨by rfl, ?_⟩) (by assumption) ?_
    rotate_left 1
    · (intro w hSw; (try dsimp only at hSw); go_simp; try with_reducible rfl)
    try simp only [Act.put, List.getElem_toArray, List.getElem_cons_succ, List.getElem_cons_zero, List.setIfInBounds_toArray, List.set_cons_zero, List.set_cons_succ]
    refine wpAnyH_done (by kernel_rfl) ?_ _
    clear g0 g1 g2 HC HRP
    have I3 := HI.out.below B3
    obtain ⟨v3, X3, Y3, O3, hz3⟩ := I3
    have y3 : w3.cell? ⟨pb + 1, 0, none⟩ = some (.int .i64 lst) := Y3.cell 0
    have HX := hide X3
    have HY := hide Y3
    have HCL := hide (H3.out w3 B3)
    clear X3 Y3 O3 H3
    go_wp2_with (go_at_call 122; refine (HCL.out).mono ?_; rintro e w4 ⟨A5, c5, rfl, ho5, hb4⟩; have X4 := HX.out.below hb4 (by omega); have Y4 := HY.out.below hb4 (by omega); have x4 : w4.cell? ⟨pb, 0, none⟩ = some v3 := X4.cell 0; have x4' := X4.fro 0; have Y5 := Y4.other (b' := pb) (by omega) 0 (.slice A5 l.length c5); have y5 : (w4.setCell ⟨pb, 0, none⟩ (.slice A5 l.length c5)).cell? ⟨pb + 1, 0, none⟩ = some (.int .i64 lst) := Y5.cell 0; have y5' := Y5.fro 0)
    refine bodyPost_end (results_none rfl _ _ _) rfl ?_
    have hz4 := hb4.size
    have hs1 := HB1.out (by omega)
    subst hs1
    have o6 : Only pb (pb + 2) w4 ((w4.setCell ⟨pb, 0, none⟩ (.slice A5 l.length c5)).setCell ⟨pb + 1, 0, none⟩ (.int .i64 z)) := only_trans (only_setCell w4 ⟨pb, 0, none⟩ _ ⟨Nat.le_refl pb, Nat.lt_add_of_pos_right (by decide)⟩) (only_setCell _ ⟨pb + 1, 0, none⟩ _ ⟨Nat.le_add_right pb 1, Nat.lt_succ_self (pb + 1)⟩)
    have O5 : O_Int64S w4 (pb + 2) w4.heap.size (.slice A5 l.length c5) order := by
      unfold O_Int64S
      have := HOL.out
      rw [this]
      exact OwnV.of_row (own_base ho5 (by omega)) (by omega)
    exact ⟨rfl, ⟨_, (X4.set 0 _).other (by omega) 0 _, Y5.set 0 _, own_to O5 o6 (Nat.le_refl _) o6.size, by have := o6.size; omega⟩, only_trans (only_of_below (B3.trans (hb4.mono B3.size))) o6⟩
  have hB1 : decide (lst < 0) = false := decide_eq_false hneg
  by_cases hlt : z < lst
  · have hB2 : decide (z < lst) = true := decide_eq_true hlt
    go_enter Try.func188, Try.ntmps188
    go_wp2_with fail
    have hzd : W.heap.size ≤ W.drew.heap.size := Nat.le_refl _
    refine wp_region_held_drew (S := fun W => W.cell? ⟨bv, 0, none⟩ = some (.func (.func G) #[] capG) ∧ W.cell? ⟨bt, 0, none⟩ = some (.slice A0 ts.length c0) ∧ W.cell? ⟨bl, 0, none⟩ = some (.slice A l.length c)) (by kernel_rfl) (⟨e0, e1, e2⟩) (fun hHeld => ?_)
    generalize W.drew = wd at *
    refine wpAnyH_take (i := 0) (v := ?_) rfl (by kernel_rfl) (by kernel_rfl) (by kernel_rfl) (fun _ _ _ h => h) (Or.inl ⟨by rfl, ?_⟩) (by assumption) ?_
    rotate_left 1
    · (intro w hSw; (try dsimp only at hSw); go_simp; try with_reducible rfl)
    try simp only [Act.put, List.getElem_toArray, List.getElem_cons_succ, List.getElem_cons_zero, List.setIfInBounds_toArray, List.set_cons_zero, List.set_cons_succ]
    refine wpAnyH_take (i := 1) (v := ?_) rfl (by kernel_rfl) (by kernel_rfl) (by kernel_rfl) (fun _ _ _ h => h) (Or.inl ⟨by rfl, ?_⟩) (by assumption) ?_
    rotate_left 1
    · (intro w hSw; (try dsimp only at hSw); go_simp; try with_reducible rfl)
    try simp only [Act.put, List.getElem_toArray, List.getElem_cons_succ, List.getElem_cons_zero, List.setIfInBounds_toArray, List.set_cons_zero, List.set_cons_succ]
    refine wpAnyH_take (i := 2) (v := ?_) rfl (by kernel_rfl) (by kernel_rfl) (by kernel_rfl) (fun _ _ _ h => h) (Or.inl ⟨by rfl, ?_⟩) (by assumption) ?_
    rotate_left 1
    · (intro w hSw; (try dsimp only at hSw); go_simp; try with_reducible rfl)
    try simp only [Act.put, List.getElem_toArray, List.getElem_cons_succ, List.getElem_cons_zero, List.setIfInBounds_toArray, List.set_cons_zero, List.set_cons_succ]
    refine wpAnyH_take (i := 3) (v := ?_) rfl (by kernel_rfl) (by kernel_rfl) (by kernel_rfl) (fun _ _ _ h => h) (Or.inl ⟨by rfl, ?_⟩) (by assumption) ?_
    rotate_left 1
    · (intro w hSw; (try dsimp only at hSw); go_simp; try with_reducible rfl)
    try simp only [Act.put, List.getElem_toArray, List.getElem_cons_succ, List.getElem_cons_zero, List.setIfInBounds_toArray, List.set_cons_zero, List.set_cons_succ]
    refine wpAnyH_ready (rs := [4]) (by kernel_rfl) (by simp) ?_
    refine AllReadyH.cons rfl (fun K hK => ?_) AllReadyH.nil
    try simp only [Act.put, List.getElem_toArray, List.getElem_cons_succ, List.getElem_cons_zero, List.setIfInBounds_toArray, List.set_cons_zero, List.set_cons_succ]
    go_simp
    go_at_call 114
    refine HRP.out.mono ?_
    rintro e w2 ⟨A3, c3, po, rfl, hpo, hro, hwy, s2⟩
    have f0 := (s2.cell (p := ⟨bv, 0, none⟩) (by dsimp only; omega)).trans e0
    have f1 := (s2.cell (p := ⟨bt, 0, none⟩) (by dsimp only; omega)).trans e1
    have f2 := (s2.cell (p := ⟨bl, 0, none⟩) (by dsimp only; omega)).trans e2
    have z2 := s2.size
    have B2 := bd.trans (s2.mono hzd)
    have HC := hide (HP.out A3 c3 po _ w2 B2 hpo hro (fun p hp => (hwy p hp).to s2))
    clear e0 e1 e2 hpo hro hwy
    dsimp only
    refine hK.out _ _ (⟨f0, f1, f2⟩) (fun hHeld => ?_)
    clear hK K
    try simp only [Act.put, List.getElem_toArray, List.getElem_cons_succ, List.getElem_cons_zero, List.setIfInBounds_toArray, List.set_cons_zero, List.set_cons_succ]
    refine wpAnyH_ready (rs := [5]) (by kernel_rfl) (by simp) ?_
    refine AllReadyH.cons rfl (fun K hK => ?_) AllReadyH.nil
    try simp only [Act.put, List.getElem_toArray, List.getElem_cons_succ, List.getElem_cons_zero, List.setIfInBounds_toArray, List.set_cons_zero, List.set_cons_succ]
    go_simp
    refine HC.out.mono ?_
    rintro e w3 ⟨rfl, s3⟩
    have g0 := (s3.cell (p := ⟨bv, 0, none⟩) (by dsimp only; omega)).trans f0
    have g1 := (s3.cell (p := ⟨bt, 0, none⟩) (by dsimp only; omega)).trans f1
    have g2 := (s3.cell (p := ⟨bl, 0, none⟩) (by dsimp only; omega)).trans f2
    have B3 := B2.trans (s3.mono (by omega))
    clear f0 f1 f2
    dsimp only
    refine hK.out _ _ (⟨g0, g1, g2⟩) (fun hHeld => ?_)
    clear hK K
    try simp only [Act.put, List.getElem_toArray, List.getElem_cons_succ, List.getElem_cons_zero, List.setIfInBounds_toArray, List.set_cons_zero, List.set_cons_succ]
    refine wpAnyH_take (i := 6) (v := ?_) rfl (by kernel_rfl) (by kernel_rfl) (by kernel_rfl) (fun _ _ _ h => h) (Or.inl ⟨by rfl, ?_⟩) (by assumption) ?_
    rotate_left 1
    · (intro w hSw; (try dsimp only at hSw); go_simp; try with_reducible rfl)
    try simp only [Act.put, List.getElem_toArray, List.getElem_cons_succ, List.getElem_cons_zero, List.setIfInBounds_toArray, List.set_cons_zero, List.set_cons_succ]
    refine wpAnyH_done (by kernel_rfl) ?_ _
    clear g0 g1 g2 HC HRP
    have I3 := HI.out.below B3
    obtain ⟨v3, X3, Y3, O3, hz3⟩ := I3
    have y3 : w3.cell? ⟨pb + 1, 0, none⟩ = some (.int .i64 lst) := Y3.cell 0
    have HX := hide X3
    have HY := hide Y3
    have HCL := hide (H3.out w3 B3)
    clear X3 Y3 O3 H3
    go_wp2_with (go_at_call 122; refine (HCL.out).mono ?_; rintro e w4 ⟨A5, c5, rfl, ho5, hb4⟩; have X4 := HX.out.below hb4 (by omega); have Y4 := HY.out.below hb4 (by omega); have x4 : w4.cell? ⟨pb, 0, none⟩ = some v3 := X4.cell 0; have x4' := X4.fro 0; have Y5 := Y4.other (b' := pb) (by omega) 0 (.slice A5 l.length c5); have y5 : (w4.setCell ⟨pb, 0, none⟩ (.slice A5 l.length c5)).cell? ⟨pb + 1, 0, none⟩ = some (.int .i64 lst) := Y5.cell 0; have y5' := Y5.fro 0)
    refine bodyPost_end (results_none rfl _ _ _) rfl ?_
    have hz4 := hb4.size
    have hs1 := HB1.out (by omega)
    subst hs1
    have o6 : Only pb (pb + 2) w4 ((w4.setCell ⟨pb, 0, none⟩ (.slice A5 l.length c5)).setCell ⟨pb + 1, 0, none⟩ (.int .i64 z)) := only_trans (only_setCell w4 ⟨pb, 0, none⟩ _ ⟨Nat.le_refl pb, Nat.lt_add_of_pos_right (by decide)⟩) (only_setCell _ ⟨pb + 1, 0, none⟩ _ ⟨Nat.le_add_right pb 1, Nat.lt_succ_self (pb + 1)⟩)
    have O5 : O_Int64S w4 (pb + 2) w4.heap.size (.slice A5 l.length c5) order := by
      unfold O_Int64S
      have := HOL.out
      rw [this]
      exact OwnV.of_row (own_base ho5 (by omega)) (by omega)
    exact ⟨rfl, ⟨_, (X4.set 0 _).other (by omega) 0 _, Y5.set 0 _, own_to O5 o6 (Nat.le_refl _) o6.size, by have := o6.size; omega⟩, only_trans (only_of_below (B3.trans (hb4.mono B3.size))) o6⟩
  · have hB2 : decide (z < lst) = false := decide_eq_false hlt
    go_enter Try.func188, Try.ntmps188
    go_wp2_with fail
    have hzd : W.heap.size ≤ W.drew.heap.size := Nat.le_refl _
    refine wp_region_held_drew (S := fun W => W.cell? ⟨bv, 0, none⟩ = some (.func (.func G) #[] capG) ∧ W.cell? ⟨bt, 0, none⟩ = some (.slice A0 ts.length c0) ∧ W.cell? ⟨bl, 0, none⟩ = some (.slice A l.length c)) (by kernel_rfl) (⟨e0, e1, e2⟩) (fun hHeld => ?_)
    generalize W.drew = wd at *
    refine wpAnyH_take (i := 0) (v := ?_) rfl (by kernel_rfl) (by kernel_rfl) (by kernel_rfl) (fun _ _ _ h => h) (Or.inl ⟨by rfl, ?_⟩) (by assumption) ?_
    rotate_left 1
    · (intro w hSw; (try dsimp only at hSw); go_simp; try with_reducible rfl)
    try simp only [Act.put, List.getElem_toArray, List.getElem_cons_succ, List.getElem_cons_zero, List.setIfInBounds_toArray, List.set_cons_zero, List.set_cons_succ]
    refine wpAnyH_take (i := 1) (v := ?_) rfl (by kernel_rfl) (by kernel_rfl) (by kernel_rfl) (fun _ _ _ h => h) (Or.inl ⟨by rfl, ?_⟩) (by assumption) ?_
    rotate_left 1
    · (intro w hSw; (try dsimp only at hSw); go_simp; try with_reducible rfl)
    try simp only [Act.put, List.getElem_toArray, List.getElem_cons_succ, List.getElem_cons_zero, List.setIfInBounds_toArray, List.set_cons_zero, List.set_cons_succ]
    refine wpAnyH_take (i := 2) (v := ?_) rfl (by kernel_rfl) (by kernel_rfl) (by kernel_rfl) (fun _ _ _ h => h) (Or.inl ⟨by rfl, ?_⟩) (by assumption) ?_
    rotate_left 1
    · (intro w hSw; (try dsimp only at hSw); go_simp; try with_reducible rfl)
    try simp only [Act.put, List.getElem_toArray, List.getElem_cons_succ, List.getElem_cons_zero, List.setIfInBounds_toArray, List.set_cons_zero, List.set_cons_succ]
    refine wpAnyH_take (i := 3) (v := ?_) rfl (by kernel_rfl) (by kernel_rfl) (by kernel_rfl) (fun _ _ _ h => h) (Or.inl ⟨by rfl, ?_⟩) (by assumption) ?_
    rotate_left 1
    · (intro w hSw; (try dsimp only at hSw); go_simp; try with_reducible rfl)
    try simp only [Act.put, List.getElem_toArray, List.getElem_cons_succ, List.getElem_cons_zero, List.setIfInBounds_toArray, List.set_cons_zero, List.set_cons_succ]
    refine wpAnyH_ready (rs := [4]) (by kernel_rfl) (by simp) ?_
    refine AllReadyH.cons rfl (fun K hK => ?_) AllReadyH.nil
    try simp only [Act.put, List.getElem_toArray, List.getElem_cons_succ, List.getElem_cons_zero, List.setIfInBounds_toArray, List.set_cons_zero, List.set_cons_succ]
    go_simp
    go_at_call 114
    refine HRP.out.mono ?_
    rintro e w2 ⟨A3, c3, po, rfl, hpo, hro, hwy, s2⟩
    have f0 := (s2.cell (p := ⟨bv, 0, none⟩) (by dsimp only; omega)).trans e0
    have f1 := (s2.cell (p := ⟨bt, 0, none⟩) (by dsimp only; omega)).trans e1
    have f2 := (s2.cell (p := ⟨bl, 0, none⟩) (by dsimp only; omega)).trans e2
    have z2 := s2.size
    have B2 := bd.trans (s2.mono hzd)
    have HC := hide (HP.out A3 c3 po _ w2 B2 hpo hro (fun p hp => (hwy p hp).to s2))
    clear e0 e1 e2 hpo hro hwy
    dsimp only
    refine hK.out _ _ (⟨f0, f1, f2⟩) (fun hHeld => ?_)
    clear hK K
    try simp only [Act.put, List.getElem_toArray, List.getElem_cons_succ, List.getElem_cons_zero, List.setIfInBounds_toArray, List.set_cons_zero, List.set_cons_succ]
    refine wpAnyH_ready (rs := [5]) (by kernel_rfl) (by simp) ?_
    refine AllReadyH.cons rfl (fun K hK => ?_) AllReadyH.nil
    try simp only [Act.put, List.getElem_toArray, List.getElem_cons_succ, List.getElem_cons_zero, List.setIfInBounds_toArray, List.set_cons_zero, List.set_cons_succ]
    go_simp
    refine HC.out.mono ?_
    rintro e w3 ⟨rfl, s3⟩
    have g0 := (s3.cell (p := ⟨bv, 0, none⟩) (by dsimp only; omega)).trans f0
    have g1 := (s3.cell (p := ⟨bt, 0, none⟩) (by dsimp only; omega)).trans f1
    have g2 := (s3.cell (p := ⟨bl, 0, none⟩) (by dsimp only; omega)).trans f2
    have B3 := B2.trans (s3.mono (by omega))
    clear f0 f1 f2
    dsimp only
    refine hK.out _ _ (⟨g0, g1, g2⟩) (fun hHeld => ?_)
    clear hK K
    try simp only [Act.put, List.getElem_toArray, List.getElem_cons_succ, List.getElem_cons_zero, List.setIfInBounds_toArray, List.set_cons_zero, List.set_cons_succ]
    refine wpAnyH_take (i := 6) (v := ?_) rfl (by kernel_rfl) (by kernel_rfl) (by kernel_rfl) (fun _ _ _ h => h) (Or.inl ⟨by rfl, ?_⟩) (by assumption) ?_
    rotate_left 1
    · (intro w hSw; (try dsimp only at hSw); go_simp; try with_reducible rfl)
    try simp only [Act.put, List.getElem_toArray, List.getElem_cons_succ, List.getElem_cons_zero, List.setIfInBounds_toArray, List.set_cons_zero, List.set_cons_succ]
    refine wpAnyH_done (by kernel_rfl) ?_ _
    clear g0 g1 g2 HC HRP
    have I3 := HI.out.below B3
    obtain ⟨v3, X3, Y3, O3, hz3⟩ := I3
    have y3 : w3.cell? ⟨pb + 1, 0, none⟩ = some (.int .i64 lst) := Y3.cell 0
    have I4 := hide (⟨v3, X3, Y3, O3, hz3⟩ : InvB pb (s0, lst) w3)
    clear X3 Y3 O3 H3
    go_wp2_with fail
    refine bodyPost_end (results_none rfl _ _ _) rfl ?_
    have hs1 := HB2.out (by omega) (by omega)
    subst hs1
    exact ⟨rfl, I4.out, only_of_below B3⟩
end Go.Proofs.Ytfhociekhffjhaa
