/-
  The best order, in the program.
  The way with the fewest turns, in the program.
  Drawn moves.
  The order by ascending numbers; in the reference.
  Drawn stocks of carriers.
  Drawn arguments of SendCarriers.
  Costs between stations, and what moves cost; in the program and in the reference.
  Drawn costs between stations.
-/
import Derived.Test.YtlkccijlbeibjaaQTurns11
import Derived.Test.YtlkccijlbeibjaaQTurns10
import Derived.Test.YtlkccijlbeibjaaQTurns12
import Derived.Test.YtlkccijlbeibjaaQTurns5
import Derived.Test.YtlkccijlbeibjaaQTurns6
import Derived.Test.YtlkccijlbeibjaaQTurns2
namespace Go.Proofs.Ytlkccijlbeibjaa
open Go.RowKit

theorem only_setCell {lo hi : Nat} (w : World) (a : Addr) (v : Value) (h : lo ≤ a.block ∧ a.block < hi) : Only lo hi w (w.setCell a v) :=
  ⟨rfl, rfl, rfl, by simp [World.setCell], fun k _ ho => Below.heap_setCell _ _ _ _ (by omega)⟩
theorem WayAt.to {w w' : World} {p : Value × TN} (h : WayAt w w.heap.size p) (k : Below w.heap.size w w') : WayAt w' w'.heap.size p := by
  obtain ⟨A, c, e, r⟩ := h
  exact ⟨A, c, e, (r.below k).more k.size⟩
/-- The best order so far lies in one box, its value in the next one. -/
def InvB (pb : Nat) (s : List Int × Int) (W : World) : Prop := ∃ v, BoxN W pb #[v] 22 ∧ BoxN W (pb + 1) #[.int .i64 s.2] 2 ∧ O_Int64S W (pb + 2) W.heap.size v s.1 ∧ pb + 2 ≤ W.heap.size
theorem InvB.below {pb : Nat} {s : List Int × Int} {W W' : World} (h : InvB pb s W) (k : Below W.heap.size W W') : InvB pb s W' := by
  obtain ⟨v, h1, h2, h3, h4⟩ := h
  have := k.size
  exact ⟨v, h1.below k (by omega), h2.below k (by omega), own_tob h3 k (Nat.le_refl _) k.size, by omega⟩
end Go.Proofs.Ytlkccijlbeibjaa
namespace Go.Proofs.Ytlkccijlbeibjaa
open Go.RowKit
/-- The best way so far lies in three boxes. -/
def InvT (gb : Nat) (s : List Int × Int × Int) (W : World) : Prop := ∃ v, BoxN W gb #[v] 22 ∧ BoxN W (gb + 1) #[.int .i64 s.2.1] 2 ∧ BoxN W (gb + 2) #[.int .i64 s.2.2] 2 ∧ O_Int64S W (gb + 3) W.heap.size v s.1 ∧ gb + 3 ≤ W.heap.size
theorem InvT.below {gb : Nat} {s : List Int × Int × Int} {W W' : World} (h : InvT gb s W) (k : Below W.heap.size W W') : InvT gb s W' := by
  obtain ⟨v, h1, h2, h3, h4, h5⟩ := h
  have := k.size
  exact ⟨v, h1.below k (by omega), h2.below k (by omega), h3.below k (by omega), own_tob h4 k (Nat.le_refl _) k.size, by omega⟩
/-- What FewestTurns answers. -/
def FewR (tb : List T3) (st : List Int) (v td : Int) (q : List Int) (tn cd : Int) : Prop := (cd = 0 ∧ Simple tb q v td ∧ tn = turnsC tb st q ∧ ∀ p, Simple tb p v td → tn ≤ turnsC tb st p) ∨ (cd = 3 ∧ ¬ ∃ p, Simple tb p v td)
theorem few_law {n : Nat} {tb : List T3} (hok : OkTubes n tb) (st : List Int) {v td : Nat} (hv : v < n) (ht : td < n) :
    let r := (sWays tb (n - 1) [] [] v td).foldl (best3 (turnsC tb st) (lenW tb)) ([], -1, 0)
    (r.2.1 < 0 ∧ ¬ ∃ p, Simple tb p v td) ∨ (¬ r.2.1 < 0 ∧ Simple tb r.1 v td ∧ r.2.1 = turnsC tb st r.1 ∧ ∀ p, Simple tb p v td → r.2.1 ≤ turnsC tb st p) := by
  intro r
  have hc : ∀ p, Simple tb p v td → p ∈ sWays tb (n - 1) [] [] v td := fun p hp => by
    have h1 := simple_len hok hp (by omega)
    have := sWays_complete hok p (n - 1) [] [] v td hp.1 rfl (by rw [List.nil_append]; exact hp.2) (by omega)
    rwa [List.nil_append] at this
  have hs := sWays_sound hok (n - 1) [] [] v v td rfl rfl (by simp)
  rcases best3_law (tn := turnsC tb st) (ln := lenW tb) (fun q => (turnsC_bd tb st q).1) (sWays tb (n - 1) [] [] v td) with ⟨h1, h2⟩ | ⟨h1, h2, h3, h4⟩
  · refine .inl ⟨?_, ?_⟩
    · show ((sWays tb (n - 1) [] [] v td).foldl (best3 (turnsC tb st) (lenW tb)) ([], -1, 0)).2.1 < 0
      rw [h2]; decide
    · rintro ⟨p, hp⟩
      have := hc p hp
      rw [h1] at this; cases this
  · exact .inr ⟨Int.not_lt.2 h1, hs _ h3, h2, fun p hp => h4 p (hc p hp)⟩
set_option maxRecDepth 100000 in
set_option maxHeartbeats 8000000 in
theorem fewCl_any (n : Nat) (tb : List T3) (st : List Int) (A : Option Addr) (c : Nat) (As : Option Addr) (cs gn gs gb v td : Nat) (q : List Int) (s : List Int × Int × Int) (Aq : Option Addr) (cq : Nat) (W : World)
    (hok : OkNet n tb) (hs : OkSet n tb st) (hn : gn < gb) (hg : gs < gb) (htd : td < n) (kn : BoxN W gn #[.int .i64 n, .slice A tb.length c] 44) (ks : BoxN W gs #[.slice As st.length cs] 22)
    (hr : Rd3 W W.heap.size A tb) (hst : RdI W W.heap.size As st) (hq : Simple tb q v td) (hrq : RdI W W.heap.size Aq q) (hI : InvT gb s W) :
    Calls Try.prog 85 #[.slice Aq q.length cq, .pointer (some ⟨gn, 0, none⟩), .pointer (some ⟨gs, 0, none⟩), .pointer (some ⟨gb + 1, 0, none⟩), .pointer (some ⟨gb + 2, 0, none⟩), .pointer (some ⟨gb, 0, none⟩)] W fun e w' => e = .returned (.tuple #[]) ∧ InvT gb (best3 (turnsC tb st) (lenW tb) s q) w' ∧ Only gb (gb + 3) W w' := by
  have hql : q.length < n := simple_len (ok_tubes hok) hq (by omega)
  have hn10 := hok.1.2
  have HT := hide fun W1 (hW : Below W.heap.size W W1) => turns_any n tb st q v td A c W1 hok ((hr.below hW).more hW.size) As cs Aq cq hs hq.1 (by omega) (RdI.more (RdI.below hst hW) hW.size) (RdI.more (RdI.below hrq hW) hW.size)
  have HL := hide fun W1 (hW : Below W.heap.size W W1) => length_any n tb q v td A c W1 hok ((hr.below hW).more hW.size) Aq cq hq.1 (by omega) (RdI.more (RdI.below hrq hW) hW.size)
  have HCL := hide fun W1 (hW : Below W.heap.size W W1) => cloneI_any q Aq cq W1 (by omega) (RdI.more (RdI.below hrq hW) hW.size)
  have HI := hide hI
  have hpz : gb + 3 ≤ W.heap.size := by obtain ⟨_, _, _, _, _, h⟩ := hI; exact h
  have KN := hide kn
  have KS := hide ks
  have HQL := hide hql
  have HN10 := hide hn10
  have hq1 : q.length ≤ 1048576 := by omega
  have hne1 : (gb == gb + 1) = false := by simp
  have hne2 : (gb + 1 == gb + 2) = false := by simp
  have hne3 : (gb == gb + 2) = false := by simp
  clear hok hs htd kn ks hr hst hq hrq hI hql hn10
  have bd : Below W.heap.size W W.drew := (Below.refl _ _).drew
  have BD := hide bd
  have e0 : W.drew.cell? ⟨gn, 0, none⟩ = some (.int .i64 n) := KN.out.cell 0
  have e1 : W.drew.cell? ⟨gn, 1, none⟩ = some (.slice A tb.length c) := KN.out.cell 1
  have e2 : W.drew.cell? ⟨gs, 0, none⟩ = some (.slice As st.length cs) := KS.out.cell 0
  have HB3 := hide (show best3 (turnsC tb st) (lenW tb) s q = if s.2.1 < 0 ∨ turnsC tb st q < s.2.1 ∨ (turnsC tb st q = s.2.1 ∧ lenW tb q < s.2.2) then (q, turnsC tb st q, lenW tb q) else s from rfl)
  generalize hbb : best3 (turnsC tb st) (lenW tb) s q = s1 at *
  clear hbb
  generalize turnsC tb st q = tq at *
  generalize lenW tb q = lq at *
  obtain ⟨sp, stn, sln⟩ := s
  dsimp only at HB3
  clear bd
  go_enter Try.func85, Try.ntmps85
  go_upto_region 0 with fail
  have hzd : W.heap.size ≤ W.drew.heap.size := Nat.le_refl _
  refine wp_region_held_drew (S := fun W => W.cell? ⟨gn, 0, none⟩ = some (.int .i64 n) ∧ W.cell? ⟨gn, 1, none⟩ = some (.slice A tb.length c) ∧ W.cell? ⟨gs, 0, none⟩ = some (.slice As st.length cs)) (by kernel_rfl) (⟨e0, e1, e2⟩) (fun hHeld => ?_)
  generalize W.drew = wd at *
  refine wpAnyH_take (i := 0) (v := ?_) rfl (by kernel_rfl) (by kernel_rfl) (by kernel_rfl) (fun _ _ _ h => h) (Or.inl ⟨by rfl, ?_⟩) (by assumption) ?_
  rotate_left 1
  · (intro w hSw; (try dsimp only at hSw); go_simp; try with_reducible rfl)
  try simp only [Act.put, List.getElem_toArray, List.getElem_cons_succ, List.getElem_cons_zero, List.setIfInBounds_toArray, List.set_cons_zero, List.set_cons_succ]
  refine wpAnyH_take (i := 1) (v := ?_) rfl (by kernel_rfl) (by kernel_rfl) (by kernel_rfl) (fun _ _ _ h => h) (Or.inl ⟨by rfl, ?_⟩) (by assumption) ?_
  rotate_left 1
  · (intro w hSw; (try dsimp only at hSw); go_simp; try with_reducible rfl)
  try simp only [Act.put, List.getElem_toArray, List.getElem_cons_succ, List.getElem_cons_zero, List.setIfInBounds_toArray, List.set_cons_zero, List.set_cons_succ]
  refine wpAnyH_take (i := 2) (v := ?_) rfl (by kernel_rfl) (by kernel_rfl) (by kernel_rfl) (fun _ _ _ h => h) (Or.inl ⟨by rfl, ?_⟩) (by assumption) ?_
  rotate_left 1
  · (intro w hSw; (try dsimp only at hSw); go_simp; try with_reducible rfl)
  try simp only [Act.put, List.getElem_toArray, List.getElem_cons_succ, List.getElem_cons_zero, List.setIfInBounds_toArray, List.set_cons_zero, List.set_cons_succ]
  refine wpAnyH_take (i := 4) (v := ?_) rfl (by kernel_rfl) (by kernel_rfl) (by kernel_rfl) (fun _ _ _ h => h) (Or.inl ⟨by rfl, ?_⟩) (by assumption) ?_
  rotate_left 1
  · (intro w hSw; (try dsimp only at hSw); go_simp; try with_reducible rfl)
  try simp only [Act.put, List.getElem_toArray, List.getElem_cons_succ, List.getElem_cons_zero, List.setIfInBounds_toArray, List.set_cons_zero, List.set_cons_succ]
  refine wpAnyH_take (i := 5) (v := ?_) rfl (by kernel_rfl) (by kernel_rfl) (by kernel_rfl) (fun _ _ _ h => h) (Or.inl ⟨by rfl, ?_⟩) (by assumption) ?_
  rotate_left 1
  · (intro w hSw; (try dsimp only at hSw); go_simp; try with_reducible rfl)
  try simp only [Act.put, List.getElem_toArray, List.getElem_cons_succ, List.getElem_cons_zero, List.setIfInBounds_toArray, List.set_cons_zero, List.set_cons_succ]
  refine wpAnyH_ready (rs := [3]) (by kernel_rfl) (by simp) ?_
  refine AllReadyH.cons rfl (fun K hK => ?_) AllReadyH.nil
  try simp only [Act.put, List.getElem_toArray, List.getElem_cons_succ, List.getElem_cons_zero, List.setIfInBounds_toArray, List.set_cons_zero, List.set_cons_succ]
  go_simp
  go_at_call 86
  refine (HT.out _ BD.out).mono ?_
  rintro e w2 ⟨rfl, s2⟩
  have z2 := s2.size
  have B2 := hide (BD.out.trans (s2.mono hzd))
  have f0 := (s2.cell (p := ⟨gn, 0, none⟩) (by dsimp only; omega)).trans e0
  have f1 := (s2.cell (p := ⟨gn, 1, none⟩) (by dsimp only; omega)).trans e1
  have f2 := (s2.cell (p := ⟨gs, 0, none⟩) (by dsimp only; omega)).trans e2
  clear e0 e1 e2
  dsimp only
  refine hK.out _ _ (⟨f0, f1, f2⟩) (fun hHeld => ?_)
  clear hK K
  try simp only [Act.put, List.getElem_toArray, List.getElem_cons_succ, List.getElem_cons_zero, List.setIfInBounds_toArray, List.set_cons_zero, List.set_cons_succ]
  refine wpAnyH_ready (rs := [6]) (by kernel_rfl) (by simp) ?_
  refine AllReadyH.cons rfl (fun K hK => ?_) AllReadyH.nil
  try simp only [Act.put, List.getElem_toArray, List.getElem_cons_succ, List.getElem_cons_zero, List.setIfInBounds_toArray, List.set_cons_zero, List.set_cons_succ]
  go_simp
  go_at_call 87
  refine (HL.out _ B2.out).mono ?_
  rintro e w3 ⟨rfl, s3⟩
  have z3 := s3.size
  have B3 := hide (B2.out.trans (s3.mono (by omega)))
  have g0 := (s3.cell (p := ⟨gn, 0, none⟩) (by dsimp only; omega)).trans f0
  have g1 := (s3.cell (p := ⟨gn, 1, none⟩) (by dsimp only; omega)).trans f1
  have g2 := (s3.cell (p := ⟨gs, 0, none⟩) (by dsimp only; omega)).trans f2
  clear f0 f1 f2
  dsimp only
  refine hK.out _ _ (⟨g0, g1, g2⟩) (fun hHeld => ?_)
  clear hK K
  try simp only [Act.put, List.getElem_toArray, List.getElem_cons_succ, List.getElem_cons_zero, List.setIfInBounds_toArray, List.set_cons_zero, List.set_cons_succ]
  refine wpAnyH_take (i := 7) (v := ?_) rfl (by kernel_rfl) (by kernel_rfl) (by kernel_rfl) (fun _ _ _ h => h) (Or.inl ⟨by rfl, ?_⟩) (by assumption) ?_
  rotate_left 1
  · (intro w hSw; (try dsimp only at hSw); go_simp; try with_reducible rfl)
  try simp only [Act.put, List.getElem_toArray, List.getElem_cons_succ, List.getElem_cons_zero, List.setIfInBounds_toArray, List.set_cons_zero, List.set_cons_succ]
  refine wpAnyH_take (i := 8) (v := ?_) rfl (by kernel_rfl) (by kernel_rfl) (by kernel_rfl) (fun _ _ _ h => h) (Or.inl ⟨by rfl, ?_⟩) (by assumption) ?_
  rotate_left 1
  · (intro w hSw; (try dsimp only at hSw); go_simp; try with_reducible rfl)
  try simp only [Act.put, List.getElem_toArray, List.getElem_cons_succ, List.getElem_cons_zero, List.setIfInBounds_toArray, List.set_cons_zero, List.set_cons_succ]
  refine wpAnyH_done (by kernel_rfl) ?_ _
  clear g0 g1 g2 HT HL KN KS s2 s3
  have HI3 := hide (HI.out.below B3.out)
  obtain ⟨v3, X3, Y3, Z3, O3, hz3⟩ := HI3.out
  have HX := hide X3
  have HY := hide Y3
  have HZ := hide Z3
  have y3 : w3.cell? ⟨gb + 1, 0, none⟩ = some (.int .i64 stn) := Y3.cell 0
  have zz3 : w3.cell? ⟨gb + 2, 0, none⟩ = some (.int .i64 sln) := Z3.cell 0
  have HC := hide (HCL.out w3 B3.out)
  clear X3 Y3 Z3 O3 HCL HI
  by_cases h1 : stn < 0
  · have hB1 : decide (stn < 0) = true := decide_eq_true h1
    have hs1 := HB3.out
    rw [if_pos (.inl h1)] at hs1
    have HS1 := hide hs1
    clear hs1 HB3
    go_wp2_with (go_at_call 71; refine (HC.out).mono ?_; rintro e w4 ⟨A5, c5, rfl, ho5, hb4⟩; have X4 := HX.out.below hb4 (by omega); have Y4 := HY.out.below hb4 (by omega); have Z4 := HZ.out.below hb4 (by omega); have x4 : w4.cell? ⟨gb, 0, none⟩ = some v3 := X4.cell 0; have x4' := X4.fro 0; have Y5 := Y4.other (b' := gb) (by omega) 0 (.slice A5 q.length c5); have Z5 := Z4.other (b' := gb) (by omega) 0 (.slice A5 q.length c5); have y5 : (w4.setCell ⟨gb, 0, none⟩ (.slice A5 q.length c5)).cell? ⟨gb + 1, 0, none⟩ = some (.int .i64 stn) := Y5.cell 0; have y5' := Y5.fro 0; have Z6 := Z5.other (b' := gb + 1) (by omega) 0 (.int .i64 tq); have z6 : ((w4.setCell ⟨gb, 0, none⟩ (.slice A5 q.length c5)).setCell ⟨gb + 1, 0, none⟩ (.int .i64 tq)).cell? ⟨gb + 2, 0, none⟩ = some (.int .i64 sln) := Z6.cell 0; have z6' := Z6.fro 0)
    refine bodyPost_end (results_none rfl _ _ _) rfl ?_
    rw [HS1.out]
    have hz4 := hb4.size
    have o6 : Only gb (gb + 3) w4 (((w4.setCell ⟨gb, 0, none⟩ (.slice A5 q.length c5)).setCell ⟨gb + 1, 0, none⟩ (.int .i64 tq)).setCell ⟨gb + 2, 0, none⟩ (.int .i64 lq)) := only_trans (only_trans (only_setCell w4 ⟨gb, 0, none⟩ _ ⟨Nat.le_refl gb, Nat.lt_add_of_pos_right (by decide)⟩) (only_setCell _ ⟨gb + 1, 0, none⟩ _ ⟨Nat.le_add_right gb 1, Nat.add_lt_add_left (by decide) gb⟩)) (only_setCell _ ⟨gb + 2, 0, none⟩ _ ⟨Nat.le_add_right gb 2, Nat.add_lt_add_left (by decide) gb⟩)
    have O5 : O_Int64S w4 (gb + 3) w4.heap.size (.slice A5 q.length c5) q := by
      unfold O_Int64S
      exact OwnV.of_row (own_base ho5 (by omega)) (by omega)
    exact ⟨rfl, ⟨_, ((X4.set 0 _).other (by omega) 0 _).other (by omega) 0 _, (Y5.set 0 _).other (by omega) 0 _, Z6.set 0 _, own_to O5 o6 (Nat.le_refl _) o6.size, by have := o6.size; omega⟩, only_trans (only_of_below (B3.out.trans (hb4.mono B3.out.size))) o6⟩
  have hB1 : decide (stn < 0) = false := decide_eq_false h1
  by_cases h2 : tq < stn
  · have hB2 : decide (tq < stn) = true := decide_eq_true h2
    have hs1 := HB3.out
    rw [if_pos (.inr (.inl h2))] at hs1
    have HS1 := hide hs1
    clear hs1 HB3
    go_wp2_with (go_at_call 71; refine (HC.out).mono ?_; rintro e w4 ⟨A5, c5, rfl, ho5, hb4⟩; have X4 := HX.out.below hb4 (by omega); have Y4 := HY.out.below hb4 (by omega); have Z4 := HZ.out.below hb4 (by omega); have x4 : w4.cell? ⟨gb, 0, none⟩ = some v3 := X4.cell 0; have x4' := X4.fro 0; have Y5 := Y4.other (b' := gb) (by omega) 0 (.slice A5 q.length c5); have Z5 := Z4.other (b' := gb) (by omega) 0 (.slice A5 q.length c5); have y5 : (w4.setCell ⟨gb, 0, none⟩ (.slice A5 q.length c5)).cell? ⟨gb + 1, 0, none⟩ = some (.int .i64 stn) := Y5.cell 0; have y5' := Y5.fro 0; have Z6 := Z5.other (b' := gb + 1) (by omega) 0 (.int .i64 tq); have z6 : ((w4.setCell ⟨gb, 0, none⟩ (.slice A5 q.length c5)).setCell ⟨gb + 1, 0, none⟩ (.int .i64 tq)).cell? ⟨gb + 2, 0, none⟩ = some (.int .i64 sln) := Z6.cell 0; have z6' := Z6.fro 0)
    refine bodyPost_end (results_none rfl _ _ _) rfl ?_
    rw [HS1.out]
    have hz4 := hb4.size
    have o6 : Only gb (gb + 3) w4 (((w4.setCell ⟨gb, 0, none⟩ (.slice A5 q.length c5)).setCell ⟨gb + 1, 0, none⟩ (.int .i64 tq)).setCell ⟨gb + 2, 0, none⟩ (.int .i64 lq)) := only_trans (only_trans (only_setCell w4 ⟨gb, 0, none⟩ _ ⟨Nat.le_refl gb, Nat.lt_add_of_pos_right (by decide)⟩) (only_setCell _ ⟨gb + 1, 0, none⟩ _ ⟨Nat.le_add_right gb 1, Nat.add_lt_add_left (by decide) gb⟩)) (only_setCell _ ⟨gb + 2, 0, none⟩ _ ⟨Nat.le_add_right gb 2, Nat.add_lt_add_left (by decide) gb⟩)
    have O5 : O_Int64S w4 (gb + 3) w4.heap.size (.slice A5 q.length c5) q := by
      unfold O_Int64S
      exact OwnV.of_row (own_base ho5 (by omega)) (by omega)
    exact ⟨rfl, ⟨_, ((X4.set 0 _).other (by omega) 0 _).other (by omega) 0 _, (Y5.set 0 _).other (by omega) 0 _, Z6.set 0 _, own_to O5 o6 (Nat.le_refl _) o6.size, by have := o6.size; omega⟩, only_trans (only_of_below (B3.out.trans (hb4.mono B3.out.size))) o6⟩
  have hB2 : decide (tq < stn) = false := decide_eq_false h2
  by_cases h3 : tq = stn
  case neg =>
    have hB3 : (tq == stn) = false := by simpa using h3
    have hs1 := HB3.out
    rw [if_neg (fun e => by rcases e with e | e | e; exact h1 e; exact h2 e; exact h3 e.1)] at hs1
    have HS1 := hide hs1
    clear hs1 HB3
    go_wp2_with fail
    refine bodyPost_end (results_none rfl _ _ _) rfl ?_
    rw [HS1.out]
    exact ⟨rfl, HI3.out, only_of_below B3.out⟩
  have hB3 : (tq == stn) = true := by simpa using h3
  have H3 := hide h3
  by_cases h4 : lq < sln
  · have hB4 : decide (lq < sln) = true := decide_eq_true h4
    clear h3
    have hs1 := HB3.out
    rw [if_pos (.inr (.inr ⟨H3.out, h4⟩))] at hs1
    have HS1 := hide hs1
    clear hs1 HB3
    go_wp2_with (go_at_call 71; refine (HC.out).mono ?_; rintro e w4 ⟨A5, c5, rfl, ho5, hb4⟩; have X4 := HX.out.below hb4 (by omega); have Y4 := HY.out.below hb4 (by omega); have Z4 := HZ.out.below hb4 (by omega); have x4 : w4.cell? ⟨gb, 0, none⟩ = some v3 := X4.cell 0; have x4' := X4.fro 0; have Y5 := Y4.other (b' := gb) (by omega) 0 (.slice A5 q.length c5); have Z5 := Z4.other (b' := gb) (by omega) 0 (.slice A5 q.length c5); have y5 : (w4.setCell ⟨gb, 0, none⟩ (.slice A5 q.length c5)).cell? ⟨gb + 1, 0, none⟩ = some (.int .i64 stn) := Y5.cell 0; have y5' := Y5.fro 0; have Z6 := Z5.other (b' := gb + 1) (by omega) 0 (.int .i64 tq); have z6 : ((w4.setCell ⟨gb, 0, none⟩ (.slice A5 q.length c5)).setCell ⟨gb + 1, 0, none⟩ (.int .i64 tq)).cell? ⟨gb + 2, 0, none⟩ = some (.int .i64 sln) := Z6.cell 0; have z6' := Z6.fro 0)
    refine bodyPost_end (results_none rfl _ _ _) rfl ?_
    rw [HS1.out]
    have hz4 := hb4.size
    have o6 : Only gb (gb + 3) w4 (((w4.setCell ⟨gb, 0, none⟩ (.slice A5 q.length c5)).setCell ⟨gb + 1, 0, none⟩ (.int .i64 tq)).setCell ⟨gb + 2, 0, none⟩ (.int .i64 lq)) := only_trans (only_trans (only_setCell w4 ⟨gb, 0, none⟩ _ ⟨Nat.le_refl gb, Nat.lt_add_of_pos_right (by decide)⟩) (only_setCell _ ⟨gb + 1, 0, none⟩ _ ⟨Nat.le_add_right gb 1, Nat.add_lt_add_left (by decide) gb⟩)) (only_setCell _ ⟨gb + 2, 0, none⟩ _ ⟨Nat.le_add_right gb 2, Nat.add_lt_add_left (by decide) gb⟩)
    have O5 : O_Int64S w4 (gb + 3) w4.heap.size (.slice A5 q.length c5) q := by
      unfold O_Int64S
      exact OwnV.of_row (own_base ho5 (by omega)) (by omega)
    exact ⟨rfl, ⟨_, ((X4.set 0 _).other (by omega) 0 _).other (by omega) 0 _, (Y5.set 0 _).other (by omega) 0 _, Z6.set 0 _, own_to O5 o6 (Nat.le_refl _) o6.size, by have := o6.size; omega⟩, only_trans (only_of_below (B3.out.trans (hb4.mono B3.out.size))) o6⟩
  · have hB4 : decide (lq < sln) = false := decide_eq_false h4
    clear h3
    have hs1 := HB3.out
    rw [if_neg (fun e => by rcases e with e | e | e; exact h1 e; exact h2 e; exact h4 e.2)] at hs1
    have HS1 := hide hs1
    clear hs1 HB3
    go_wp2_with fail
    refine bodyPost_end (results_none rfl _ _ _) rfl ?_
    rw [HS1.out]
    exact ⟨rfl, HI3.out, only_of_below B3.out⟩
set_option maxRecDepth 100000 in
set_option maxHeartbeats 8000000 in
theorem fewest_any (n : Nat) (tb : List T3) (st : List Int) (v td : Nat) (A : Option Addr) (c : Nat) (w : World) (h : OkNet n tb) (hv : v < n) (ht : td < n) (hr : Rd3 w w.heap.size A tb) (As : Option Addr) (cs : Nat) (hs : OkSet n tb st) (hst : RdI w w.heap.size As st) :
    Calls Try.prog 19 #[.agg #[.int .i64 n, .slice A tb.length c], .slice As st.length cs, .int .i64 v, .int .i64 td] w fun e w' => ∃ (q : List Int) (A' : Option Addr) (c' : Nat) (tn cd : Int), e = .returned (.tuple #[.slice A' q.length c', .int .i64 tn, .int .i64 cd]) ∧ RdI w' w'.heap.size A' q ∧ FewR tb st v td q tn cd ∧ Below w.heap.size w w' := by
  have hcf := callFunc_gen (P := Try.prog) (F := 85) Try.func85 (by kernel_rfl) (by kernel_rfl)
  have bx : Below w.heap.size w (((w.alloc (.cells #[.int .i64 n, .slice A tb.length c] 44)).alloc (.cells #[.slice As st.length cs] 22)).alloc (.cells #[.int .i64 v, .int .i64 td] 2)) := (by repeat (first | exact Below.refl _ _ | assumption | (refine Below.alloc ?_ (by simp <;> omega) _) | refine Below.drew ?_ | refine bdn ?_ _))
  have X0 := hide (((BoxN.new w #[.int .i64 n, .slice A tb.length c] 44).alloc (.cells #[.slice As st.length cs] 22)).alloc (.cells #[.int .i64 v, .int .i64 td] 2))
  have Y0 := hide ((BoxN.new (w.alloc (.cells #[.int .i64 n, .slice A tb.length c] 44)) #[.slice As st.length cs] 22).alloc (.cells #[.int .i64 v, .int .i64 td] 2))
  have e1 : (w.alloc (.cells #[.int .i64 n, .slice A tb.length c] 44)).heap.size = w.heap.size + 1 := by simp
  rw [e1] at Y0
  have z0 : w.heap.size + 2 < (((w.alloc (.cells #[.int .i64 n, .slice A tb.length c] 44)).alloc (.cells #[.slice As st.length cs] 22)).alloc (.cells #[.int .i64 v, .int .i64 td] 2)).heap.size := by simp
  have HSC0 := (settingCode_any n tb st [(v : Int), (td : Int)] A c (((w.alloc (.cells #[.int .i64 n, .slice A tb.length c] 44)).alloc (.cells #[.slice As st.length cs] 22)).alloc (.cells #[.int .i64 v, .int .i64 td] 2)) h ((hr.below bx).more bx.size) As cs (some ⟨w.heap.size + 2, 0, none⟩) 2 hs (RdI.more (RdI.below hst bx) bx.size) (fun z hz => by simp at hz; omega) (by simp) (fun _ => ⟨w.heap.size + 2, 0, rfl, by simp, fun j u hj => by
    match j, hj with
    | 0, hj => simp at hj; subst hj; simp [go_sem]
    | 1, hj => simp at hj; subst hj; simp [go_sem]
    | j + 2, hj => simp at hj⟩))
  have e2 : [(v : Int), (td : Int)].length = 2 := rfl
  rw [e2] at HSC0
  have HSC := hide HSC0
  clear HSC0 e2
  have HR := hide hr
  have HST := hide hst
  have HOK := hide h
  have HS := hide hs
  have HLAW := hide (few_law (ok_tubes h) st hv ht)
  have hn1 := h.1.1
  have B0 := hide bx
  clear h hr hst hs bx e1
  go_enter Try.func19, Try.ntmps19
  go_upto_region 1 with fail
  have k0 : ((w.alloc (.cells #[.int .i64 n, .slice A tb.length c] 44)).alloc (.cells #[.slice As st.length cs] 22)).cell? ⟨w.heap.size, 0, none⟩ = some (.int .i64 n) := by simp [go_sem]
  have k1 : ((w.alloc (.cells #[.int .i64 n, .slice A tb.length c] 44)).alloc (.cells #[.slice As st.length cs] 22)).cell? ⟨w.heap.size, 1, none⟩ = some (.slice A tb.length c) := by simp [go_sem]
  have k2 : ((w.alloc (.cells #[.int .i64 n, .slice A tb.length c] 44)).alloc (.cells #[.slice As st.length cs] 22)).cell? ⟨w.heap.size + 1, 0, none⟩ = some (.slice As st.length cs) := by simp [go_sem]
  go_upto_region 4 with (go_at_call 83; (with_reducible refine (HSC.out).mono ?_); rintro e w1 ⟨rfl, b1⟩)
  have X1 := hide (X0.out.below b1 (by have := X0.out.lt; omega))
  have Y1 := hide (Y0.out.below b1 (by have := Y0.out.lt; omega))
  have z1 : w.heap.size + 2 < w1.heap.size := Nat.lt_of_lt_of_le z0 b1.size
  have B1 := hide (B0.out.trans (b1.mono B0.out.size))
  clear k0 k1 k2 b1 z0 X0 Y0 HSC
  go_upto_region 5 with fail
  obtain ⟨gb, hgb⟩ : ∃ g, g = w1.heap.size + 1 := ⟨_, rfl⟩
  have b3 : Below w1.heap.size w1 ((((w1.alloc (.cells #[] 2)).alloc (.cells #[.slice (some ⟨w1.heap.size, 0, none⟩) 0 0] 22)).alloc (.cells #[.int .i64 (-1)] 2)).alloc (.cells #[.int .i64 0] 2)) := (by repeat (first | exact Below.refl _ _ | assumption | (refine Below.alloc ?_ (by simp <;> omega) _) | refine Below.drew ?_ | refine bdn ?_ _))
  have X3 := hide (show BoxN ((((w1.alloc (.cells #[] 2)).alloc (.cells #[.slice (some ⟨w1.heap.size, 0, none⟩) 0 0] 22)).alloc (.cells #[.int .i64 (-1)] 2)).alloc (.cells #[.int .i64 0] 2)) gb #[.slice (some ⟨w1.heap.size, 0, none⟩) 0 0] 22 from by
    have h := ((BoxN.new (w1.alloc (.cells #[] 2)) #[.slice (some ⟨w1.heap.size, 0, none⟩) 0 0] 22).alloc (.cells #[.int .i64 (-1)] 2)).alloc (.cells #[.int .i64 0] 2)
    rw [hgb]; simpa using h)
  have Y3 := hide (show BoxN ((((w1.alloc (.cells #[] 2)).alloc (.cells #[.slice (some ⟨w1.heap.size, 0, none⟩) 0 0] 22)).alloc (.cells #[.int .i64 (-1)] 2)).alloc (.cells #[.int .i64 0] 2)) (gb + 1) #[.int .i64 (-1)] 2 from by
    have h := (BoxN.new ((w1.alloc (.cells #[] 2)).alloc (.cells #[.slice (some ⟨w1.heap.size, 0, none⟩) 0 0] 22)) #[.int .i64 (-1)] 2).alloc (.cells #[.int .i64 0] 2)
    rw [hgb]; simpa using h)
  have Z3 := hide (show BoxN ((((w1.alloc (.cells #[] 2)).alloc (.cells #[.slice (some ⟨w1.heap.size, 0, none⟩) 0 0] 22)).alloc (.cells #[.int .i64 (-1)] 2)).alloc (.cells #[.int .i64 0] 2)) (gb + 2) #[.int .i64 0] 2 from by
    have h := BoxN.new (((w1.alloc (.cells #[] 2)).alloc (.cells #[.slice (some ⟨w1.heap.size, 0, none⟩) 0 0] 22)).alloc (.cells #[.int .i64 (-1)] 2)) #[.int .i64 0] 2
    rw [hgb]; simpa using h)
  have hz3 : gb + 3 ≤ ((((w1.alloc (.cells #[] 2)).alloc (.cells #[.slice (some ⟨w1.heap.size, 0, none⟩) 0 0] 22)).alloc (.cells #[.int .i64 (-1)] 2)).alloc (.cells #[.int .i64 0] 2)).heap.size := by rw [hgb]; simp
  have hzw : ((((w1.alloc (.cells #[] 2)).alloc (.cells #[.slice (some ⟨w1.heap.size, 0, none⟩) 0 0] 22)).alloc (.cells #[.int .i64 (-1)] 2)).alloc (.cells #[.int .i64 0] 2)).heap.size = gb + 3 := by rw [hgb]; simp
  have XN := hide (X1.out.below b3 X1.out.lt)
  have YN := hide (Y1.out.below b3 Y1.out.lt)
  have B3 := hide (B1.out.trans (b3.mono B1.out.size))
  have ha : w1.heap.size + 1 + 1 + 1 = gb + 2 := by omega
  have hb : w1.heap.size + 1 + 1 = gb + 1 := by omega
  have hc : w1.heap.size + 1 = gb := by omega
  rw [ha, hb, hc]
  have hgw : w.heap.size + 3 < gb := by omega
  generalize ((((w1.alloc (.cells #[] 2)).alloc (.cells #[.slice (some ⟨w1.heap.size, 0, none⟩) 0 0] 22)).alloc (.cells #[.int .i64 (-1)] 2)).alloc (.cells #[.int .i64 0] 2)) = w3 at *
  clear ha hb hc b3 X1 Y1 B1 z1
  have I3 : InvT gb ([], -1, 0) w3 := ⟨_, X3.out, Y3.out, Z3.out, O_Int64S.nil _ _ _ _ _, hz3⟩
  have HO := (simpleWays_any n tb A c v td (turnsC tb st) (lenW tb) 85 #[.pointer (some ⟨w.heap.size, 0, none⟩), .pointer (some ⟨w.heap.size + 1, 0, none⟩), .pointer (some ⟨gb + 1, 0, none⟩), .pointer (some ⟨gb + 2, 0, none⟩), .pointer (some ⟨gb, 0, none⟩)] gb w3 HOK.out ((HR.out.below B3.out).more (by omega)) (by omega) (InvT gb) (fun s W W' h k => h.below k)
    (fun q s W Aq cq hq ho hpb hi hrq => by
      have hbw := ho.below (B := gb) (Nat.le_refl _) (by omega)
      have bw := B3.out.trans (hbw.mono (by omega))
      have := fewCl_any n tb st A c As cs w.heap.size (w.heap.size + 1) gb v td q s Aq cq W HOK.out HS.out (by omega) (by omega) ht (XN.out.below hbw (by omega)) (YN.out.below hbw (by omega)) ((HR.out.below bw).more bw.size) (RdI.more (RdI.below HST.out bw) bw.size) hq hrq hi
      exact this) hcf (n - 1) [] [] v ([], -1, 0) w3 none 0 none 0 (by simp; omega) hv rfl rfl (by simp) (only_of_below (Below.refl _ _)) hz3 I3 (O_Int64S.nil _ _ _ _ _) (O_Int64S.nil _ _ _ _ _))
  rw [List.length_nil] at HO
  have HO2 := hide HO
  clear HO
  generalize hfin : (sWays tb (n - 1) [] [] (v : Int) (td : Int)).foldl (best3 (turnsC tb st) (lenW tb)) ([], -1, 0) = fin at *
  have HL := hide (show (fin.2.1 < 0 ∧ ¬ ∃ p, Simple tb p v td) ∨ (¬ fin.2.1 < 0 ∧ Simple tb fin.1 v td ∧ fin.2.1 = turnsC tb st fin.1 ∧ ∀ p, Simple tb p v td → fin.2.1 ≤ turnsC tb st p) from by rcases HLAW.out with h | h; exact .inl h; exact .inr ⟨by have := h.1; omega, h.2⟩)
  have k0 := XN.out.cell 0
  have k1 := XN.out.cell 1
  clear hfin HLAW I3 hgb hzw X3 Y3 Z3
  go_upto_region 6 with (go_at_call 84; refine (HO2.out).mono ?_; rintro e w5 ⟨rfl, hi5, ho5⟩)
  obtain ⟨v5, X5, Y5, Z5, O5, hz5⟩ := hi5
  obtain ⟨fq, ftn, fln⟩ := fin
  obtain ⟨A5, c5, hv5, _⟩ := O5.r
  subst hv5
  have x5 : w5.cell? ⟨gb, 0, none⟩ = some (.slice A5 fq.length c5) := X5.cell 0
  have y5 : w5.cell? ⟨gb + 1, 0, none⟩ = some (.int .i64 ftn) := Y5.cell 0
  have HRQ := hide (own_rdI O5)
  have B5 := hide (B3.out.trans (ho5.below (B := w.heap.size) (by omega) (by have := B3.out.size; omega)))
  have hL := HL.out
  dsimp only at hL
  clear X5 Y5 Z5 O5 k0 k1 ho5 HO2 HL hcf
  by_cases h5 : ftn < 0
  · have hR := hide (show FewR tb st v td [] 0 3 from .inr ⟨rfl, by rcases hL with h | h; exact h.2; exact absurd h5 (by have := h.1; omega)⟩)
    have hB5 : decide (ftn < 0) = true := decide_eq_true h5
    clear hL
    go_wp2_with fail
    refine bodyPost_ret (v := .tuple #[.slice none 0 0, .int .i64 0, .int .i64 3]) (by simp [results, Try.results19, go_sem]) rfl ?_
    exact ⟨[], none, 0, 0, 3, rfl, Rd.nil _ _ _, hR.out, B5.out⟩
  · have hR := hide (show FewR tb st v td fq ftn 0 from .inl ⟨rfl, by rcases hL with h | h; exact absurd h.1 h5; exact h.2⟩)
    have hB5 : decide (ftn < 0) = false := decide_eq_false h5
    clear hL
    go_wp2_with fail
    go_quiet (fail)
    go_wp2_with fail
    refine bodyPost_ret (v := .tuple #[.slice A5 fq.length c5, .int .i64 ftn, .int .i64 0]) (by simp [results, Try.results19, go_sem]) rfl ?_
    exact ⟨fq, A5, c5, ftn, 0, rfl, HRQ.out, hR.out, bdn B5.out nq⟩
end Go.Proofs.Ytlkccijlbeibjaa
namespace Go.Proofs.Ytlkccijlbeibjaa
open Go.RowKit
theorem BoxN.c3 {w : World} {b : Nat} {x y z : Value} {e : TypeId} (h : BoxN w b #[x, y, z] e) : w.cell? ⟨b, 0, none⟩ = some x ∧ w.cell? ⟨b, 1, none⟩ = some y ∧ w.cell? ⟨b, 2, none⟩ = some z := ⟨h.cell 0, h.cell 1, h.cell 2⟩
def MvOk (n : Int) (m : T3) : Prop := (0 ≤ m.a ∧ m.a < n) ∧ (-1 ≤ m.b ∧ m.b ≤ n) ∧ -1 ≤ m.c ∧ m.c ≤ 201
end Go.Proofs.Ytlkccijlbeibjaa
namespace Go.Proofs.Ytlkccijlbeibjaa
open Go.RowKit

def keyOf (ks : List Int) (i : Int) : Int := (ks[i.toNat]?).getD 0
def outAt (out : List Int) (k : Nat) : Int := (out[k]?).getD 0
/-- Where a number is laid, seen from k downward. -/
def posGo (ks out : List Int) (i : Int) : Nat → Nat
  | 0 => 0
  | k + 1 => if keyOf ks i < keyOf ks (outAt out k) then posGo ks out i k else k + 1
def insK (ks out : List Int) (i : Int) : List Int := out.take (posGo ks out i out.length) ++ i :: out.drop (posGo ks out i out.length)
def sortK (ks : List Int) : Nat → List Int
  | 0 => []
  | n + 1 => insK ks (sortK ks n) n
theorem posGo_le (ks out : List Int) (i : Int) : ∀ k, posGo ks out i k ≤ k := by
  intro k
  induction k with
  | zero => exact Nat.le_refl _
  | succ k ih => rw [posGo]; split <;> omega
theorem insK_len (ks out : List Int) (i : Int) : (insK ks out i).length = out.length + 1 := by
  have := posGo_le ks out i out.length
  unfold insK; simp; omega
theorem sortK_len (ks : List Int) : ∀ n, (sortK ks n).length = n := by
  intro n
  induction n with
  | zero => rfl
  | succ n ih => rw [sortK, insK_len, ih]
theorem sortK_in (ks : List Int) : ∀ n, ∀ z ∈ sortK ks n, 0 ≤ z ∧ z < n := by
  intro n
  induction n with
  | zero => intro z hz; cases hz
  | succ n ih =>
    intro z hz
    rw [sortK, insK] at hz
    rcases List.mem_append.1 hz with hz | hz
    · have := ih z (List.mem_of_mem_take hz); omega
    · rcases List.mem_cons.1 hz with rfl | hz
      · omega
      · have := ih z (List.mem_of_mem_drop hz); omega
theorem key_get {ks : List Int} {n : Nat} {z : Int} (h : ks[n]? = some z) : keyOf ks (n : Int) = z := by simp [keyOf, h]
theorem RdI.drop {w : World} {B b o : Nat} {xs : List Int} (h : RdI w B (some ⟨b, o, none⟩) xs) (k : Nat) : RdI w B (some ⟨b, o + k, none⟩) (xs.drop k) := fun hn => by
  obtain ⟨b', o', hA, hb, hc⟩ := h (by intro e; apply hn; rw [List.map_eq_nil_iff] at e; rw [e]; simp)
  cases hA
  refine ⟨_, _, rfl, hb, fun j u hu => ?_⟩
  rw [List.getElem?_map, List.getElem?_drop, ← List.getElem?_map] at hu
  rw [Nat.add_assoc]
  exact hc _ _ hu
end Go.Proofs.Ytlkccijlbeibjaa
namespace Go.Proofs.Ytlkccijlbeibjaa
open Go.RowKit
theorem sum_le {xs : List Int} {B : Int} : (∀ z ∈ xs, 0 ≤ z ∧ z ≤ B) → 0 ≤ xs.sum ∧ xs.sum ≤ B * xs.length := by
  induction xs with
  | nil => intro _; simp
  | cons x xs ih =>
    intro h
    have h1 := h x (List.mem_cons_self ..)
    have h2 := ih fun z hz => h z (List.mem_cons_of_mem _ hz)
    rw [List.sum_cons, List.length_cons]
    have e : B * ((xs.length + 1 : Nat) : Int) = B * xs.length + B := by rw [Int.natCast_add, Int.mul_add]; simp
    omega
end Go.Proofs.Ytlkccijlbeibjaa
namespace Go.Proofs.Ytlkccijlbeibjaa
open Go.RowKit
end Go.Proofs.Ytlkccijlbeibjaa
namespace Go.Proofs.Ytlkccijlbeibjaa
open Go.RowKit

def costRow (n : Int) (z : TN) : Bool := decide ((z.way.length : Int) = n) && z.way.all (inB 0 1000)
def vCosts (n : Int) (l : List TN) : Bool := decide ((l.length : Int) = n) && l.all (costRow n)
theorem costRow_iff {n : Int} {z : TN} : costRow n z = true ↔ (z.way.length : Int) = n ∧ ∀ u ∈ z.way, 0 ≤ u ∧ u ≤ 1000 := by
  unfold costRow
  rw [Bool.and_eq_true, decide_eq_true_eq, List.all_eq_true]
  constructor
  · intro h; exact ⟨h.1, fun u hu => inB_iff.1 (h.2 u hu)⟩
  · intro h; exact ⟨h.1, fun u hu => inB_iff.2 (h.2 u hu)⟩
theorem vCosts_iff {n : Int} {l : List TN} : vCosts n l = true ↔ (l.length : Int) = n ∧ ∀ z ∈ l, (z.way.length : Int) = n ∧ ∀ u ∈ z.way, 0 ≤ u ∧ u ≤ 1000 := by
  unfold vCosts
  rw [Bool.and_eq_true, decide_eq_true_eq, List.all_eq_true]
  constructor
  · intro h; exact ⟨h.1, fun u hu => costRow_iff.1 (h.2 u hu)⟩
  · intro h; exact ⟨h.1, fun u hu => costRow_iff.2 (h.2 u hu)⟩
def costAt (l : List TN) (i j : Int) : Int := (((l[i.toNat]?).map fun e => e.way).getD [])[j.toNat]?.getD 0
def coGo (l : List TN) : List T3 → Int → Int
  | [], s => s
  | m :: r, s => coGo l r (s + m.c * costAt l m.a m.b)
def costOfMoves (ms : List T3) (l : List TN) : Int × Int :=
  if inB 2 10 l.length = true ∧ vCosts l.length l = true then (if vMoves l.length ms = true then (coGo l ms 0, 0) else (0, 2)) else (0, 1)
theorem coGo_drop {l : List TN} {xs : List T3} {k : Nat} {m : T3} (h : xs[k]? = some m) (s : Int) : coGo l (xs.drop k) s = coGo l (xs.drop (k + 1)) (s + m.c * costAt l m.a m.b) := by rw [drop_cons h, coGo]
set_option maxRecDepth 100000 in
set_option maxHeartbeats 4000000 in
theorem indexFuncRowN_any (p : TN → Bool) (F : FuncId) (cap : Array Value) (x : List TN) (A : Option Addr) (c : Nat) (w : World) (hx : x.length ≤ 1048576)
    (hcf : ∀ args w, (callFunc F args).run Try.prog w = .ok (.enter F args) w) (h1 : RN 0 w w.heap.size A x)
    (hp : ∀ z Aw cw W, z ∈ x → Below w.heap.size w W → RdI W W.heap.size Aw z.way → Calls Try.prog F (#[.slice Aw z.way.length cw] ++ cap) W fun e w' => e = .returned (.bool (p z)) ∧ Below W.heap.size W w') :
    Calls Try.prog 153 #[.slice A x.length c, .func (.func F) #[] cap] w fun e w' => e = .returned (.int .i64 (firstI p x 0)) ∧ Below w.heap.size w w' := by
  have HP := hide hp
  have HX := hide h1
  clear hp h1
  go_enter Try.func153, Try.ntmps153
  go_wp2_with fail
  go_loopg [8] x.length (fun g i wr => ∃ k : Nat, k ≤ x.length ∧ Hid (g = x.length - k) ∧ i = .int .i64 k ∧ Below w.heap.size w wr ∧ Hid (firstI p x 0 = firstI p (x.drop k) k))
  case atStart => exact ⟨0, by omega, by simp [Hid], rfl, Below.refl _ _, hide (by simp)⟩
  case round =>
    obtain ⟨k, hk, hg, rfl, hb, HE⟩ := hrel
    by_cases hlt : k < x.length
    · obtain ⟨b1, o1, z, Aw, cw, rfl, _, hz1, hrw, hn0, hc1, hc2⟩ := (HX.out.below hb).at_ (by omega) hlt
      rw [Nat.zero_add, Nat.mul_one] at hn0
      clear hc1 hc2
      have HQ := HP.out z Aw cw wr (List.mem_of_getElem? hz1) hb (hrw.more hb.size)
      have h := HE.out
      rw [drop_cons hz1] at h
      clear hz1 hrw
      cases hpz : p z
      · rw [hpz] at HQ
        have h' := hide (show firstI p x 0 = firstI p (x.drop (k + 1)) (k + 1) by simpa [firstI, hpz] using h)
        have HQ' := hide HQ
        clear h HQ hpz HE
        go_wp2_with fail
        refine HQ'.out.mono ?_
        rintro e w1 ⟨rfl, hb1⟩
        go_wp2_with fail
        go_roundg (x.length - (k + 1))
        case measure => have := hg.out; omega
        case rel => exact ⟨k + 1, by omega, rfl, by go_num, hb.trans (hb1.mono hb.size), h'⟩
      · rw [hpz] at HQ
        have h' := hide (show firstI p x 0 = k by simpa [firstI, hpz] using h)
        have HQ' := hide HQ
        clear h HQ hpz HE
        go_wp2_with fail
        refine HQ'.out.mono ?_
        rintro e w1 ⟨rfl, hb1⟩
        go_wp2_with fail
        go_ret
        exact ⟨ret_i h'.out.symm, hb.trans (hb1.mono hb.size)⟩
    · have h := HE.out
      rw [List.drop_eq_nil_of_le (by omega)] at h
      have HF := hide h
      clear h
      go_wp2_with fail
      go_ret
      exact ⟨ret_i (by rw [HF.out]; rfl), hb⟩
set_option maxRecDepth 100000 in
set_option maxHeartbeats 4000000 in
theorem containsFuncRowN_any (p : TN → Bool) (F : FuncId) (cap : Array Value) (x : List TN) (A : Option Addr) (c : Nat) (w : World) (hx : x.length ≤ 1048576)
    (hcf : ∀ args w, (callFunc F args).run Try.prog w = .ok (.enter F args) w) (h1 : RN 0 w w.heap.size A x)
    (hp : ∀ z Aw cw W, z ∈ x → Below w.heap.size w W → RdI W W.heap.size Aw z.way → Calls Try.prog F (#[.slice Aw z.way.length cw] ++ cap) W fun e w' => e = .returned (.bool (p z)) ∧ Below W.heap.size W w') :
    Calls Try.prog 99 #[.slice A x.length c, .func (.func F) #[] cap] w fun e w' => e = .returned (.bool (x.any p)) ∧ Below w.heap.size w w' := by
  have HC := hide (indexFuncRowN_any p F cap x A c w hx hcf h1 hp)
  clear hp h1
  have HE := hide (firstI_ge p x 0)
  go_enter Try.func99, Try.ntmps99
  go_wp2_with fail
  refine HC.out.mono ?_
  rintro e w1 ⟨rfl, hb⟩
  go_wp2_with fail
  go_ret
  exact ⟨ret_b HE.out, hb⟩
end Go.Proofs.Ytlkccijlbeibjaa
namespace Go.Proofs.Ytlkccijlbeibjaa
open Go.RowKit
theorem own_posN' {w : World} {base : Nat} {e : TypeId} {size n c : Nat} {A : Option Addr} {xs : List Value} (h : w.ownsRow base e size (.slice A n c) n xs) (hn : 0 < n) : ∃ g, A = some ⟨g, 0, none⟩ ∧ base ≤ g ∧ g < w.heap.size := by
  rcases own_block h with ⟨_, h0, _⟩ | ⟨g, hA, h1, h2⟩
  · omega
  · exact ⟨g, hA, h1, h2⟩
theorem Rd.drop' {w : World} {B b o : Nat} {xs : List Value} (h : Rd w B (some ⟨b, o, none⟩) xs) (k : Nat) : Rd w B (some ⟨b, o + k, none⟩) (xs.drop k) := fun hn => by
  have hl : k < xs.length := by
    rcases Nat.lt_or_ge k xs.length with h | h
    · exact h
    · rw [List.drop_eq_nil_of_le h] at hn; exact (hn rfl).elim
  obtain ⟨b', o', hA, hb, hc⟩ := h (by intro e; rw [e] at hl; simp at hl)
  cases hA
  refine ⟨b, o + k, rfl, hb, fun j v hj => ?_⟩
  rw [List.getElem?_drop] at hj
  rw [Nat.add_assoc]
  exact hc (k + j) v hj
/-- Rows of costs as they are drawn. -/
def CoRow (n : Nat) (e : TN) : Prop := e.way.length ≤ n ∧ (∀ z ∈ e.way, -1 ≤ z ∧ z ≤ 1001) ∧ e.p = 0 ∧ e.q = 0
theorem CoRow.fits {n : Nat} {e : TN} (h : CoRow n e) : e.Fits := ⟨fun z hz => by have := h.2.1 z hz; omega, by rw [h.2.2.1]; omega, by rw [h.2.2.2]; omega⟩
theorem co_small {n : Nat} (hn : n ≤ 11) : ∀ {l : List TN}, (∀ e ∈ l, CoRow n e) → (l.map fun e => e.way.length).sum ≤ 11 * l.length := by
  intro l
  induction l with
  | nil => intro _; simp
  | cons e l ih =>
    intro h
    rw [List.map_cons, List.sum_cons, List.length_cons]
    have h1 := (h e (List.mem_cons_self ..)).1
    have h2 := ih fun x hx => h x (List.mem_cons_of_mem _ hx)
    omega
theorem rss_of {w : World} {A : Option Addr} {base n c : Nat} {ps : List (Value × TN)} (h : w.ownsRow base 22 1 (.slice A n c) n (ps.flatMap (Nc 0))) (hl : ps.length = n) (hw : ∀ p ∈ ps, WayAt w w.heap.size p) : R_Int64SS w w.heap.size (.slice A n c) (ps.map (·.2)) :=
  ⟨A, c, by rw [List.length_map, hl], ps, rfl, Rd.of_own h, hw⟩
end Go.Proofs.Ytlkccijlbeibjaa
