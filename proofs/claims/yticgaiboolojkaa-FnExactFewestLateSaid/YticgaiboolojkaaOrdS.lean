/-
  All orders and the best one; in the reference.
-/
import Derived.Test.YticgaiboolojkaaOrdD
namespace Go.Proofs.Yticgaiboolojkaa
open Go.RowKit

/-- The walker: what it reads, the best order so far, and its value. -/
def InvS (late : Bool) (ts : List Int) (l : List TN) (A0 : Option Addr) (c0 : Nat) (A : Option Addr) (c : Nat) (pb : Nat) (s : List Int × Int) (W : World) : Prop :=
  ∃ v, BoxN W pb #[.slice A0 ts.length c0, .slice A l.length c, .bool late, v, .int .i64 s.2] 126 ∧ O_Int64S W (pb + 1) W.heap.size v s.1 ∧ pb + 1 ≤ W.heap.size
theorem InvS.below {late : Bool} {ts : List Int} {l : List TN} {A0 : Option Addr} {c0 : Nat} {A : Option Addr} {c : Nat} {pb : Nat} {s : List Int × Int} {W W' : World} (h : InvS late ts l A0 c0 A c pb s W) (k : Below W.heap.size W W') : InvS late ts l A0 c0 A c pb s W' := by
  obtain ⟨v, h1, h2, h3⟩ := h
  have := k.size
  exact ⟨v, h1.below k (by omega), own_tob h2 k (Nat.le_refl _) k.size, by omega⟩
set_option maxRecDepth 100000 in
set_option maxHeartbeats 16000000 in
theorem walkLeaf_any (late : Bool) (ts : List Int) (l : List TN) (A0 : Option Addr) (c0 : Nat) (A : Option Addr) (c : Nat) (pb : Nat) (order : List Int) (s : List Int × Int) (A2 : Option Addr) (c2 : Nat) (W : World)
    (h1 : RdI W W.heap.size A0 ts) (h2 : RN 2 W W.heap.size A l) (ho : codeO ts l order = 0) (h3 : O_Int64S W (pb + 1) W.heap.size (.slice A2 l.length c2) order) (hI : InvS late ts l A0 c0 A c pb s W) :
    Calls Try.prog 126 #[.pointer (some ⟨pb, 0, none⟩), .slice A2 l.length c2] W fun e w' => e = .returned (.tuple #[]) ∧ InvS late ts l A0 c0 A c pb (best1 (valO late ts l) s order) w' ∧ Only pb (pb + 1) W w' := by
  obtain ⟨⟨hts, hl6, hlo⟩, hol, hoi⟩ := codeO_ok ho
  have bd : Below W.heap.size W W.drew := (Below.refl _ _).drew
  have HPL := hide (l08Plan_any ts l order A0 c0 A c A2 c2 W.drew ho (h1.below bd) (h2.below bd) ((own_rdI h3).below bd))
  rw [hol] at HPL
  have hpl := plan_len ts l order
  have HD := hide fun A3 c3 W1 (hW1 : Below W.heap.size W W1) (hr : RdI W1 W1.heap.size A3 (plan ts l order)) => l08Delays_any l (plan ts l order) A c A3 c3 W1 hl6 hpl (plan_bd ho) (fun e he => (hlo e he).2.1) ((h2.below hW1).more hW1.size) hr
  have HLT := hide fun A3 c3 W1 (hW1 : Below W.heap.size W W1) (hr : RdI W1 W1.heap.size A3 (plan ts l order)) => l08Late_any ts l (plan ts l order) A0 c0 A c A3 c3 W1 hts hl6 hlo hpl (plan_bd ho) ((h1.below hW1).more hW1.size) ((h2.below hW1).more hW1.size) hr
  rw [hpl] at HD HLT
  have HVF := hide (show valO false ts l order = dlGo l (plan ts l order) 0 by unfold valO; exact if_neg (by simp))
  have HVT := hide (show valO true ts l order = ((laGo ts l (plan ts l order) 0).length : Int) by unfold valO; exact if_pos rfl)
  have HB1 := hide (fun h => best1_y (v := valO late ts l) (s := s) (o := order) h)
  have HB2 := hide (fun h1 h2 => best1_n (v := valO late ts l) (s := s) (o := order) h1 h2)
  have HO3 := hide h3
  obtain ⟨v0, X0, O0, hpz⟩ := hI
  have HX := hide X0
  have HO0 := hide O0
  have hpb : pb < W.heap.size := by omega
  have x1 : W.cell? ⟨pb, 1, none⟩ = some (.slice A l.length c) := X0.cell 1
  have e0 : W.drew.cell? ⟨pb, 0, none⟩ = some (.slice A0 ts.length c0) := X0.cell 0
  have e1 : W.drew.cell? ⟨pb, 1, none⟩ = some (.slice A l.length c) := X0.cell 1
  obtain ⟨s0, lst⟩ := s
  dsimp only at HB1 HB2 HO0 HX
  clear h1 h2 h3 ho X0 O0 hts hlo hoi hpl
  generalize hbb : best1 (valO late ts l) (s0, lst) order = s1 at *
  clear hbb
  generalize plan ts l order = pn at *
  generalize dlGo l pn 0 = dl at *
  generalize laGo ts l pn 0 = la at *
  go_enter Try.func126, Try.ntmps126
  go_wp2_with fail
  have hzd : W.heap.size ≤ W.drew.heap.size := Nat.le_refl _
  refine wp_region_held_drew (S := fun W => W.cell? ⟨pb, 0, none⟩ = some (.slice A0 ts.length c0) ∧ W.cell? ⟨pb, 1, none⟩ = some (.slice A l.length c)) (by kernel_rfl) (⟨e0, e1⟩) (fun hHeld => ?_)
  generalize W.drew = wd at *
  refine wpAnyH_take (i := 0) (v := ?_) rfl (by kernel_rfl) (by kernel_rfl) (by kernel_rfl) (fun _ _ _ h => h) (Or.inl ⟨by rfl, ?_⟩) (by assumption) ?_
  rotate_left 1
  · (intro w hSw; (try dsimp only at hSw); go_simp; try with_reducible rfl)
  try simp only [Act.put, List.getElem_toArray, List.getElem_cons_succ, List.getElem_cons_zero, List.setIfInBounds_toArray, List.set_cons_zero, List.set_cons_succ]
  refine wpAnyH_take (i := 1) (v := ?_) rfl (by kernel_rfl) (by kernel_rfl) (by kernel_rfl) (fun _ _ _ h => h) (Or.inl ⟨by rfl, ?_⟩) (by assumption) ?_
  rotate_left 1
  · (intro w hSw; (try dsimp only at hSw); go_simp; try with_reducible rfl)
  try simp only [Act.put, List.getElem_toArray, List.getElem_cons_succ, List.getElem_cons_zero, List.setIfInBounds_toArray, List.set_cons_zero, List.set_cons_succ]
  refine wpAnyH_take (i := 2) (v := ?_) rfl (by kernel_rfl) (by kernel_rfl) (by kernel_rfl) (fun _ _ _ h => h) (Or.inl ⟨by rfl, ?_⟩) (by assumption) ?_
  rotate_left 1
  · (intro w hSw; (try dsimp only at hSw); go_simp; try with_reducible rfl)
  try simp only [Act.put, List.getElem_toArray, List.getElem_cons_succ, List.getElem_cons_zero, List.setIfInBounds_toArray, List.set_cons_zero, List.set_cons_succ]
  refine wpAnyH_take (i := 3) (v := ?_) rfl (by kernel_rfl) (by kernel_rfl) (by kernel_rfl) (fun _ _ _ h => h) (Or.inl ⟨by rfl, ?_⟩) (by assumption) ?_
  rotate_left 1
  · (intro w hSw; (try dsimp only at hSw); go_simp; try with_reducible rfl)
  try simp only [Act.put, List.getElem_toArray, List.getElem_cons_succ, List.getElem_cons_zero, List.setIfInBounds_toArray, List.set_cons_zero, List.set_cons_succ]
  refine wpAnyH_take (i := 4) (v := ?_) rfl (by kernel_rfl) (by kernel_rfl) (by kernel_rfl) (fun _ _ _ h => h) (Or.inl ⟨by rfl, ?_⟩) (by assumption) ?_
  rotate_left 1
  · (intro w hSw; (try dsimp only at hSw); go_simp; try with_reducible rfl)
  try simp only [Act.put, List.getElem_toArray, List.getElem_cons_succ, List.getElem_cons_zero, List.setIfInBounds_toArray, List.set_cons_zero, List.set_cons_succ]
  refine wpAnyH_take (i := 5) (v := ?_) rfl (by kernel_rfl) (by kernel_rfl) (by kernel_rfl) (fun _ _ _ h => h) (Or.inl ⟨by rfl, ?_⟩) (by assumption) ?_
  rotate_left 1
  · (intro w hSw; (try dsimp only at hSw); go_simp; try with_reducible rfl)
  try simp only [Act.put, List.getElem_toArray, List.getElem_cons_succ, List.getElem_cons_zero, List.setIfInBounds_toArray, List.set_cons_zero, List.set_cons_succ]
  refine wpAnyH_take (i := 6) (v := ?_) rfl (by kernel_rfl) (by kernel_rfl) (by kernel_rfl) (fun _ _ _ h => h) (Or.inl ⟨by rfl, ?_⟩) (by assumption) ?_
  rotate_left 1
  · (intro w hSw; (try dsimp only at hSw); go_simp; try with_reducible rfl)
  try simp only [Act.put, List.getElem_toArray, List.getElem_cons_succ, List.getElem_cons_zero, List.setIfInBounds_toArray, List.set_cons_zero, List.set_cons_succ]
  refine wpAnyH_take (i := 7) (v := ?_) rfl (by kernel_rfl) (by kernel_rfl) (by kernel_rfl) (fun _ _ _ h => h) (Or.inl ⟨by rfl, ?_⟩) (by assumption) ?_
  rotate_left 1
  · (intro w hSw; (try dsimp only at hSw); go_simp; try with_reducible rfl)
  try simp only [Act.put, List.getElem_toArray, List.getElem_cons_succ, List.getElem_cons_zero, List.setIfInBounds_toArray, List.set_cons_zero, List.set_cons_succ]
  refine wpAnyH_take (i := 8) (v := ?_) rfl (by kernel_rfl) (by kernel_rfl) (by kernel_rfl) (fun _ _ _ h => h) (Or.inl ⟨by rfl, ?_⟩) (by assumption) ?_
  rotate_left 1
  · (intro w hSw; (try dsimp only at hSw); go_simp; try with_reducible rfl)
  try simp only [Act.put, List.getElem_toArray, List.getElem_cons_succ, List.getElem_cons_zero, List.setIfInBounds_toArray, List.set_cons_zero, List.set_cons_succ]
  refine wpAnyH_ready (rs := [9]) (by kernel_rfl) (by simp) ?_
  refine AllReadyH.cons rfl (fun K hK => ?_) AllReadyH.nil
  try simp only [Act.put, List.getElem_toArray, List.getElem_cons_succ, List.getElem_cons_zero, List.setIfInBounds_toArray, List.set_cons_zero, List.set_cons_succ]
  go_simp
  go_at_call 86
  refine HPL.out.mono ?_
  rintro e w2 ⟨A3, c3, rfl, ho3, s2⟩
  have f0 := (s2.cell (p := ⟨pb, 0, none⟩) (by dsimp only; omega)).trans e0
  have f1 := (s2.cell (p := ⟨pb, 1, none⟩) (by dsimp only; omega)).trans e1
  have z2 := s2.size
  have B2 := bd.trans (s2.mono hzd)
  have hr2 := RdI.of_own ho3
  have HC := hide (HD.out A3 c3 w2 B2 hr2)
  clear e0 e1
  dsimp only
  refine hK.out _ _ (⟨f0, f1⟩) (fun hHeld => ?_)
  clear hK K
  try simp only [Act.put, List.getElem_toArray, List.getElem_cons_succ, List.getElem_cons_zero, List.setIfInBounds_toArray, List.set_cons_zero, List.set_cons_succ]
  refine wpAnyH_take (i := 10) (v := ?_) rfl (by kernel_rfl) (by kernel_rfl) (by kernel_rfl) (fun _ _ _ h => h) (Or.inl ⟨by rfl, ?_⟩) (by assumption) ?_
  rotate_left 1
  · (intro w hSw; (try dsimp only at hSw); go_simp; try with_reducible rfl)
  try simp only [Act.put, List.getElem_toArray, List.getElem_cons_succ, List.getElem_cons_zero, List.setIfInBounds_toArray, List.set_cons_zero, List.set_cons_succ]
  refine wpAnyH_done (by kernel_rfl) ?_ _
  clear HD HPL f0
  have HR2 := hide hr2
  clear hr2 ho3 x1
  have HLT2 := hide fun W1 (hW1 : Below w2.heap.size w2 W1) => HLT.out A3 c3 W1 (B2.trans (hW1.mono B2.size)) ((HR2.out.below hW1).more hW1.size)
  have HX2 := hide (HX.out.below B2 hpb)
  clear HLT
  cases late
  · have HV := HVF
    clear HVF HVT HLT2
    by_cases hneg : lst < 0
    · have hB1 : decide (lst < 0) = true := decide_eq_true hneg
      go_wp2_with (go_at_call 85; refine (HC.out).mono ?_; rintro e w3 ⟨rfl, hb3⟩; have hz3 := hb3.size; have X4 := HX2.out.below hb3 (by omega); have x2 : w3.cell? ⟨pb, 2, none⟩ = some (.bool false) := X4.cell 2; have y4 : w3.cell? ⟨pb, 4, none⟩ = some (.int .i64 lst) := X4.cell 4; have y3 : w3.cell? ⟨pb, 3, none⟩ = some v0 := X4.cell 3; have y3f := X4.fro 3; have X5 := X4.set 3 (.slice A2 l.length c2); have y5 : (w3.setCell ⟨pb, 3, none⟩ (.slice A2 l.length c2)).cell? ⟨pb, 4, none⟩ = some (.int .i64 lst) := X5.cell 4; have y5f := X5.fro 4)
      have hs1 := HB1.out (by exact .inl hneg)
      subst hs1
      have X6 : BoxN ((w3.setCell ⟨pb, 3, none⟩ (.slice A2 l.length c2)).setCell ⟨pb, 4, none⟩ (.int .i64 dl)) pb #[.slice A0 ts.length c0, .slice A l.length c, .bool false, .slice A2 l.length c2, .int .i64 (valO false ts l order)] 126 := by rw [HV.out]; exact X5.set 4 (.int .i64 dl)
      have B4 := B2.trans (hb3.mono B2.size)
      have o6 : Only pb (pb + 1) w3 ((w3.setCell ⟨pb, 3, none⟩ (.slice A2 l.length c2)).setCell ⟨pb, 4, none⟩ (.int .i64 dl)) := only_trans (only_setCell w3 ⟨pb, 3, none⟩ _ ⟨Nat.le_refl pb, Nat.lt_succ_self pb⟩) (only_setCell _ ⟨pb, 4, none⟩ _ ⟨Nat.le_refl pb, Nat.lt_succ_self pb⟩)
      have O6 := own_to (own_tob HO3.out B4 (Nat.le_refl _) B4.size) o6 (Nat.le_refl _) o6.size
      have hz6 := o6.size
      have hz5 := B4.size
      exact bodyPost_ret (v := .tuple #[]) (results_none rfl _ _ _) rfl ⟨rfl, ⟨_, X6, O6, by omega⟩, only_trans (only_of_below B4) o6⟩
    have hB1 : decide (lst < 0) = false := decide_eq_false hneg
    by_cases hlt : dl < lst
    · have hB2 : decide (dl < lst) = true := decide_eq_true hlt
      go_wp2_with (go_at_call 85; refine (HC.out).mono ?_; rintro e w3 ⟨rfl, hb3⟩; have hz3 := hb3.size; have X4 := HX2.out.below hb3 (by omega); have x2 : w3.cell? ⟨pb, 2, none⟩ = some (.bool false) := X4.cell 2; have y4 : w3.cell? ⟨pb, 4, none⟩ = some (.int .i64 lst) := X4.cell 4; have y3 : w3.cell? ⟨pb, 3, none⟩ = some v0 := X4.cell 3; have y3f := X4.fro 3; have X5 := X4.set 3 (.slice A2 l.length c2); have y5 : (w3.setCell ⟨pb, 3, none⟩ (.slice A2 l.length c2)).cell? ⟨pb, 4, none⟩ = some (.int .i64 lst) := X5.cell 4; have y5f := X5.fro 4)
      have hs1 := HB1.out (by right; rw [HV.out]; exact hlt)
      subst hs1
      have X6 : BoxN ((w3.setCell ⟨pb, 3, none⟩ (.slice A2 l.length c2)).setCell ⟨pb, 4, none⟩ (.int .i64 dl)) pb #[.slice A0 ts.length c0, .slice A l.length c, .bool false, .slice A2 l.length c2, .int .i64 (valO false ts l order)] 126 := by rw [HV.out]; exact X5.set 4 (.int .i64 dl)
      have B4 := B2.trans (hb3.mono B2.size)
      have o6 : Only pb (pb + 1) w3 ((w3.setCell ⟨pb, 3, none⟩ (.slice A2 l.length c2)).setCell ⟨pb, 4, none⟩ (.int .i64 dl)) := only_trans (only_setCell w3 ⟨pb, 3, none⟩ _ ⟨Nat.le_refl pb, Nat.lt_succ_self pb⟩) (only_setCell _ ⟨pb, 4, none⟩ _ ⟨Nat.le_refl pb, Nat.lt_succ_self pb⟩)
      have O6 := own_to (own_tob HO3.out B4 (Nat.le_refl _) B4.size) o6 (Nat.le_refl _) o6.size
      have hz6 := o6.size
      have hz5 := B4.size
      exact bodyPost_ret (v := .tuple #[]) (results_none rfl _ _ _) rfl ⟨rfl, ⟨_, X6, O6, by omega⟩, only_trans (only_of_below B4) o6⟩
    · have hB2 : decide (dl < lst) = false := decide_eq_false hlt
      go_wp2_with (go_at_call 85; refine (HC.out).mono ?_; rintro e w3 ⟨rfl, hb3⟩; have hz3 := hb3.size; have X4 := HX2.out.below hb3 (by omega); have x2 : w3.cell? ⟨pb, 2, none⟩ = some (.bool false) := X4.cell 2; have y4 : w3.cell? ⟨pb, 4, none⟩ = some (.int .i64 lst) := X4.cell 4)
      have hs1 := HB2.out hneg (by rw [HV.out]; exact hlt)
      subst hs1
      have B4 := B2.trans (hb3.mono B2.size)
      have hz5 := B4.size
      exact bodyPost_ret (v := .tuple #[]) (results_none rfl _ _ _) rfl ⟨rfl, ⟨_, X4, own_tob HO0.out B4 (Nat.le_refl _) B4.size, by omega⟩, only_of_below B4⟩
  · have HV := HVT
    clear HVF HVT
    by_cases hneg : lst < 0
    · have hB1 : decide (lst < 0) = true := decide_eq_true hneg
      go_wp2_with (go_at_call 85; refine (HC.out).mono ?_; rintro e w3 ⟨rfl, hb3⟩; have hz3 := hb3.size; have x2 : w3.cell? ⟨pb, 2, none⟩ = some (.bool true) := (HX2.out.below hb3 (by omega)).cell 2)
      have hb3d : Below w2.heap.size w2 w3.drew := hb3.drew
      have HL3 := hide (HLT2.out _ hb3d)
      have hz3d : w3.heap.size ≤ w3.drew.heap.size := Nat.le_refl _
      have e0 : w3.drew.cell? ⟨pb, 0, none⟩ = some (.slice A0 ts.length c0) := (HX2.out.below hb3 (by omega)).cell 0
      have e1 : w3.drew.cell? ⟨pb, 1, none⟩ = some (.slice A l.length c) := (HX2.out.below hb3 (by omega)).cell 1
      refine wp_region_held_drew (S := fun W => W.cell? ⟨pb, 0, none⟩ = some (.slice A0 ts.length c0) ∧ W.cell? ⟨pb, 1, none⟩ = some (.slice A l.length c)) (by kernel_rfl) (⟨e0, e1⟩) (fun hHeld => ?_)
      generalize w3.drew = wd3 at *
      refine wpAnyH_take (i := 0) (v := ?_) rfl (by kernel_rfl) (by kernel_rfl) (by kernel_rfl) (fun _ _ _ h => h) (Or.inl ⟨by rfl, ?_⟩) (by assumption) ?_
      rotate_left 1
      · (intro w hSw; (try dsimp only at hSw); go_simp; try with_reducible rfl)
      try simp only [Act.put, List.getElem_toArray, List.getElem_cons_succ, List.getElem_cons_zero, List.setIfInBounds_toArray, List.set_cons_zero, List.set_cons_succ]
      refine wpAnyH_take (i := 1) (v := ?_) rfl (by kernel_rfl) (by kernel_rfl) (by kernel_rfl) (fun _ _ _ h => h) (Or.inl ⟨by rfl, ?_⟩) (by assumption) ?_
      rotate_left 1
      · (intro w hSw; (try dsimp only at hSw); go_simp; try with_reducible rfl)
      try simp only [Act.put, List.getElem_toArray, List.getElem_cons_succ, List.getElem_cons_zero, List.setIfInBounds_toArray, List.set_cons_zero, List.set_cons_succ]
      refine wpAnyH_take (i := 2) (v := ?_) rfl (by kernel_rfl) (by kernel_rfl) (by kernel_rfl) (fun _ _ _ h => h) (Or.inl ⟨by rfl, ?_⟩) (by assumption) ?_
      rotate_left 1
      · (intro w hSw; (try dsimp only at hSw); go_simp; try with_reducible rfl)
      try simp only [Act.put, List.getElem_toArray, List.getElem_cons_succ, List.getElem_cons_zero, List.setIfInBounds_toArray, List.set_cons_zero, List.set_cons_succ]
      refine wpAnyH_take (i := 3) (v := ?_) rfl (by kernel_rfl) (by kernel_rfl) (by kernel_rfl) (fun _ _ _ h => h) (Or.inl ⟨by rfl, ?_⟩) (by assumption) ?_
      rotate_left 1
      · (intro w hSw; (try dsimp only at hSw); go_simp; try with_reducible rfl)
      try simp only [Act.put, List.getElem_toArray, List.getElem_cons_succ, List.getElem_cons_zero, List.setIfInBounds_toArray, List.set_cons_zero, List.set_cons_succ]
      refine wpAnyH_take (i := 4) (v := ?_) rfl (by kernel_rfl) (by kernel_rfl) (by kernel_rfl) (fun _ _ _ h => h) (Or.inl ⟨by rfl, ?_⟩) (by assumption) ?_
      rotate_left 1
      · (intro w hSw; (try dsimp only at hSw); go_simp; try with_reducible rfl)
      try simp only [Act.put, List.getElem_toArray, List.getElem_cons_succ, List.getElem_cons_zero, List.setIfInBounds_toArray, List.set_cons_zero, List.set_cons_succ]
      refine wpAnyH_take (i := 5) (v := ?_) rfl (by kernel_rfl) (by kernel_rfl) (by kernel_rfl) (fun _ _ _ h => h) (Or.inl ⟨by rfl, ?_⟩) (by assumption) ?_
      rotate_left 1
      · (intro w hSw; (try dsimp only at hSw); go_simp; try with_reducible rfl)
      try simp only [Act.put, List.getElem_toArray, List.getElem_cons_succ, List.getElem_cons_zero, List.setIfInBounds_toArray, List.set_cons_zero, List.set_cons_succ]
      refine wpAnyH_take (i := 6) (v := ?_) rfl (by kernel_rfl) (by kernel_rfl) (by kernel_rfl) (fun _ _ _ h => h) (Or.inl ⟨by rfl, ?_⟩) (by assumption) ?_
      rotate_left 1
      · (intro w hSw; (try dsimp only at hSw); go_simp; try with_reducible rfl)
      try simp only [Act.put, List.getElem_toArray, List.getElem_cons_succ, List.getElem_cons_zero, List.setIfInBounds_toArray, List.set_cons_zero, List.set_cons_succ]
      refine wpAnyH_take (i := 7) (v := ?_) rfl (by kernel_rfl) (by kernel_rfl) (by kernel_rfl) (fun _ _ _ h => h) (Or.inl ⟨by rfl, ?_⟩) (by assumption) ?_
      rotate_left 1
      · (intro w hSw; (try dsimp only at hSw); go_simp; try with_reducible rfl)
      try simp only [Act.put, List.getElem_toArray, List.getElem_cons_succ, List.getElem_cons_zero, List.setIfInBounds_toArray, List.set_cons_zero, List.set_cons_succ]
      refine wpAnyH_take (i := 8) (v := ?_) rfl (by kernel_rfl) (by kernel_rfl) (by kernel_rfl) (fun _ _ _ h => h) (Or.inl ⟨by rfl, ?_⟩) (by assumption) ?_
      rotate_left 1
      · (intro w hSw; (try dsimp only at hSw); go_simp; try with_reducible rfl)
      try simp only [Act.put, List.getElem_toArray, List.getElem_cons_succ, List.getElem_cons_zero, List.setIfInBounds_toArray, List.set_cons_zero, List.set_cons_succ]
      refine wpAnyH_ready (rs := [9]) (by kernel_rfl) (by simp) ?_
      refine AllReadyH.cons rfl (fun K hK => ?_) AllReadyH.nil
      try simp only [Act.put, List.getElem_toArray, List.getElem_cons_succ, List.getElem_cons_zero, List.setIfInBounds_toArray, List.set_cons_zero, List.set_cons_succ]
      go_simp
      go_at_call 97
      refine HL3.out.mono ?_
      rintro e w4 ⟨rv, rfl, hO4, s4⟩
      obtain ⟨Ar, cr, rfl⟩ := hO4.1
      have hsm := hO4.small
      clear hO4
      have f0 := (s4.cell (p := ⟨pb, 0, none⟩) (by dsimp only; omega)).trans e0
      have f1 := (s4.cell (p := ⟨pb, 1, none⟩) (by dsimp only; omega)).trans e1
      have b24 := hb3d.trans (s4.mono hb3d.size)
      have hz4 := b24.size
      clear e0 e1
      dsimp only
      refine hK.out _ _ (⟨f0, f1⟩) (fun hHeld => ?_)
      clear hK K
      try simp only [Act.put, List.getElem_toArray, List.getElem_cons_succ, List.getElem_cons_zero, List.setIfInBounds_toArray, List.set_cons_zero, List.set_cons_succ]
      refine wpAnyH_take (i := 10) (v := ?_) rfl (by kernel_rfl) (by kernel_rfl) (by kernel_rfl) (fun _ _ _ h => h) (Or.inl ⟨by rfl, ?_⟩) (by assumption) ?_
      rotate_left 1
      · (intro w hSw; (try dsimp only at hSw); go_simp; try with_reducible rfl)
      try simp only [Act.put, List.getElem_toArray, List.getElem_cons_succ, List.getElem_cons_zero, List.setIfInBounds_toArray, List.set_cons_zero, List.set_cons_succ]
      refine wpAnyH_take (i := 11) (v := ?_) rfl (by kernel_rfl) (by kernel_rfl) (by kernel_rfl) (fun _ _ _ h => h) (Or.inl ⟨by rfl, ?_⟩) (by assumption) ?_
      rotate_left 1
      · (intro w hSw; (try dsimp only at hSw); go_simp; try with_reducible rfl)
      try simp only [Act.put, List.getElem_toArray, List.getElem_cons_succ, List.getElem_cons_zero, List.setIfInBounds_toArray, List.set_cons_zero, List.set_cons_succ]
      refine wpAnyH_done (by kernel_rfl) ?_ _
      clear f0 f1
      have X4 := HX2.out.below b24 (by omega)
      have x2 : w4.cell? ⟨pb, 2, none⟩ = some (.bool true) := X4.cell 2
      have y4 : w4.cell? ⟨pb, 4, none⟩ = some (.int .i64 lst) := X4.cell 4
      have y3 : w4.cell? ⟨pb, 3, none⟩ = some v0 := X4.cell 3
      have y3f := X4.fro 3
      have X5 := X4.set 3 (.slice A2 l.length c2)
      have y5 : (w4.setCell ⟨pb, 3, none⟩ (.slice A2 l.length c2)).cell? ⟨pb, 4, none⟩ = some (.int .i64 lst) := X5.cell 4
      have y5f := X5.fro 4
      go_wp2_with fail
      have hs1 := HB1.out (by exact .inl hneg)
      subst hs1
      have X6 : BoxN ((w4.setCell ⟨pb, 3, none⟩ (.slice A2 l.length c2)).setCell ⟨pb, 4, none⟩ (.int .i64 la.length)) pb #[.slice A0 ts.length c0, .slice A l.length c, .bool true, .slice A2 l.length c2, .int .i64 (valO true ts l order)] 126 := by rw [HV.out]; exact X5.set 4 (.int .i64 la.length)
      have B4 := B2.trans (b24.mono B2.size)
      have o6 : Only pb (pb + 1) w4 ((w4.setCell ⟨pb, 3, none⟩ (.slice A2 l.length c2)).setCell ⟨pb, 4, none⟩ (.int .i64 la.length)) := only_trans (only_setCell w4 ⟨pb, 3, none⟩ _ ⟨Nat.le_refl pb, Nat.lt_succ_self pb⟩) (only_setCell _ ⟨pb, 4, none⟩ _ ⟨Nat.le_refl pb, Nat.lt_succ_self pb⟩)
      have O6 := own_to (own_tob HO3.out B4 (Nat.le_refl _) B4.size) o6 (Nat.le_refl _) o6.size
      have hz6 := o6.size
      have hz5 := B4.size
      exact bodyPost_ret (v := .tuple #[]) (results_none rfl _ _ _) rfl ⟨rfl, ⟨_, X6, O6, by omega⟩, only_trans (only_of_below B4) o6⟩
    have hB1 : decide (lst < 0) = false := decide_eq_false hneg
    by_cases hlt : (la.length : Int) < lst
    · have hB2 : decide ((la.length : Int) < lst) = true := decide_eq_true hlt
      go_wp2_with (go_at_call 85; refine (HC.out).mono ?_; rintro e w3 ⟨rfl, hb3⟩; have hz3 := hb3.size; have x2 : w3.cell? ⟨pb, 2, none⟩ = some (.bool true) := (HX2.out.below hb3 (by omega)).cell 2)
      have hb3d : Below w2.heap.size w2 w3.drew := hb3.drew
      have HL3 := hide (HLT2.out _ hb3d)
      have hz3d : w3.heap.size ≤ w3.drew.heap.size := Nat.le_refl _
      have e0 : w3.drew.cell? ⟨pb, 0, none⟩ = some (.slice A0 ts.length c0) := (HX2.out.below hb3 (by omega)).cell 0
      have e1 : w3.drew.cell? ⟨pb, 1, none⟩ = some (.slice A l.length c) := (HX2.out.below hb3 (by omega)).cell 1
      refine wp_region_held_drew (S := fun W => W.cell? ⟨pb, 0, none⟩ = some (.slice A0 ts.length c0) ∧ W.cell? ⟨pb, 1, none⟩ = some (.slice A l.length c)) (by kernel_rfl) (⟨e0, e1⟩) (fun hHeld => ?_)
      generalize w3.drew = wd3 at *
      refine wpAnyH_take (i := 0) (v := ?_) rfl (by kernel_rfl) (by kernel_rfl) (by kernel_rfl) (fun _ _ _ h => h) (Or.inl ⟨by rfl, ?_⟩) (by assumption) ?_
      rotate_left 1
      · (intro w hSw; (try dsimp only at hSw); go_simp; try with_reducible rfl)
      try simp only [Act.put, List.getElem_toArray, List.getElem_cons_succ, List.getElem_cons_zero, List.setIfInBounds_toArray, List.set_cons_zero, List.set_cons_succ]
      refine wpAnyH_take (i := 1) (v := ?_) rfl (by kernel_rfl) (by kernel_rfl) (by kernel_rfl) (fun _ _ _ h => h) (Or.inl ⟨by rfl, ?_⟩) (by assumption) ?_
      rotate_left 1
      · (intro w hSw; (try dsimp only at hSw); go_simp; try with_reducible rfl)
      try simp only [Act.put, List.getElem_toArray, List.getElem_cons_succ, List.getElem_cons_zero, List.setIfInBounds_toArray, List.set_cons_zero, List.set_cons_succ]
      refine wpAnyH_take (i := 2) (v := ?_) rfl (by kernel_rfl) (by kernel_rfl) (by kernel_rfl) (fun _ _ _ h => h) (Or.inl ⟨by rfl, ?_⟩) (by assumption) ?_
      rotate_left 1
      · (intro w hSw; (try dsimp only at hSw); go_simp; try with_reducible rfl)
      try simp only [Act.put, List.getElem_toArray, List.getElem_cons_succ, List.getElem_cons_zero, List.setIfInBounds_toArray, List.set_cons_zero, List.set_cons_succ]
      refine wpAnyH_take (i := 3) (v := ?_) rfl (by kernel_rfl) (by kernel_rfl) (by kernel_rfl) (fun _ _ _ h => h) (Or.inl ⟨by rfl, ?_⟩) (by assumption) ?_
      rotate_left 1
      · (intro w hSw; (try dsimp only at hSw); go_simp; try with_reducible rfl)
      try simp only [Act.put, List.getElem_toArray, List.getElem_cons_succ, List.getElem_cons_zero, List.setIfInBounds_toArray, List.set_cons_zero, List.set_cons_succ]
      refine wpAnyH_take (i := 4) (v := ?_) rfl (by kernel_rfl) (by kernel_rfl) (by kernel_rfl) (fun _ _ _ h => h) (Or.inl ⟨by rfl, ?_⟩) (by assumption) ?_
      rotate_left 1
      · (intro w hSw; (try dsimp only at hSw); go_simp; try with_reducible rfl)
      try simp only [Act.put, List.getElem_toArray, List.getElem_cons_succ, List.getElem_cons_zero, List.setIfInBounds_toArray, List.set_cons_zero, List.set_cons_succ]
      refine wpAnyH_take (i := 5) (v := ?_) rfl (by kernel_rfl) (by kernel_rfl) (by kernel_rfl) (fun _ _ _ h => h) (Or.inl ⟨by rfl, ?_⟩) (by assumption) ?_
      rotate_left 1
      · (intro w hSw; (try dsimp only at hSw); go_simp; try with_reducible rfl)
      try simp only [Act.put, List.getElem_toArray, List.getElem_cons_succ, List.getElem_cons_zero, List.setIfInBounds_toArray, List.set_cons_zero, List.set_cons_succ]
      refine wpAnyH_take (i := 6) (v := ?_) rfl (by kernel_rfl) (by kernel_rfl) (by kernel_rfl) (fun _ _ _ h => h) (Or.inl ⟨by rfl, ?_⟩) (by assumption) ?_
      rotate_left 1
      · (intro w hSw; (try dsimp only at hSw); go_simp; try with_reducible rfl)
      try simp only [Act.put, List.getElem_toArray, List.getElem_cons_succ, List.getElem_cons_zero, List.setIfInBounds_toArray, List.set_cons_zero, List.set_cons_succ]
      refine wpAnyH_take (i := 7) (v := ?_) rfl (by kernel_rfl) (by kernel_rfl) (by kernel_rfl) (fun _ _ _ h => h) (Or.inl ⟨by rfl, ?_⟩) (by assumption) ?_
      rotate_left 1
      · (intro w hSw; (try dsimp only at hSw); go_simp; try with_reducible rfl)
      try simp only [Act.put, List.getElem_toArray, List.getElem_cons_succ, List.getElem_cons_zero, List.setIfInBounds_toArray, List.set_cons_zero, List.set_cons_succ]
      refine wpAnyH_take (i := 8) (v := ?_) rfl (by kernel_rfl) (by kernel_rfl) (by kernel_rfl) (fun _ _ _ h => h) (Or.inl ⟨by rfl, ?_⟩) (by assumption) ?_
      rotate_left 1
      · (intro w hSw; (try dsimp only at hSw); go_simp; try with_reducible rfl)
      try simp only [Act.put, List.getElem_toArray, List.getElem_cons_succ, List.getElem_cons_zero, List.setIfInBounds_toArray, List.set_cons_zero, List.set_cons_succ]
      refine wpAnyH_ready (rs := [9]) (by kernel_rfl) (by simp) ?_
      refine AllReadyH.cons rfl (fun K hK => ?_) AllReadyH.nil
      try simp only [Act.put, List.getElem_toArray, List.getElem_cons_succ, List.getElem_cons_zero, List.setIfInBounds_toArray, List.set_cons_zero, List.set_cons_succ]
      go_simp
      go_at_call 97
      refine HL3.out.mono ?_
      rintro e w4 ⟨rv, rfl, hO4, s4⟩
      obtain ⟨Ar, cr, rfl⟩ := hO4.1
      have hsm := hO4.small
      clear hO4
      have f0 := (s4.cell (p := ⟨pb, 0, none⟩) (by dsimp only; omega)).trans e0
      have f1 := (s4.cell (p := ⟨pb, 1, none⟩) (by dsimp only; omega)).trans e1
      have b24 := hb3d.trans (s4.mono hb3d.size)
      have hz4 := b24.size
      clear e0 e1
      dsimp only
      refine hK.out _ _ (⟨f0, f1⟩) (fun hHeld => ?_)
      clear hK K
      try simp only [Act.put, List.getElem_toArray, List.getElem_cons_succ, List.getElem_cons_zero, List.setIfInBounds_toArray, List.set_cons_zero, List.set_cons_succ]
      refine wpAnyH_take (i := 10) (v := ?_) rfl (by kernel_rfl) (by kernel_rfl) (by kernel_rfl) (fun _ _ _ h => h) (Or.inl ⟨by rfl, ?_⟩) (by assumption) ?_
      rotate_left 1
      · (intro w hSw; (try dsimp only at hSw); go_simp; try with_reducible rfl)
      try simp only [Act.put, List.getElem_toArray, List.getElem_cons_succ, List.getElem_cons_zero, List.setIfInBounds_toArray, List.set_cons_zero, List.set_cons_succ]
      refine wpAnyH_take (i := 11) (v := ?_) rfl (by kernel_rfl) (by kernel_rfl) (by kernel_rfl) (fun _ _ _ h => h) (Or.inl ⟨by rfl, ?_⟩) (by assumption) ?_
      rotate_left 1
      · (intro w hSw; (try dsimp only at hSw); go_simp; try with_reducible rfl)
      try simp only [Act.put, List.getElem_toArray, List.getElem_cons_succ, List.getElem_cons_zero, List.setIfInBounds_toArray, List.set_cons_zero, List.set_cons_succ]
      refine wpAnyH_done (by kernel_rfl) ?_ _
      clear f0 f1
      have X4 := HX2.out.below b24 (by omega)
      have x2 : w4.cell? ⟨pb, 2, none⟩ = some (.bool true) := X4.cell 2
      have y4 : w4.cell? ⟨pb, 4, none⟩ = some (.int .i64 lst) := X4.cell 4
      have y3 : w4.cell? ⟨pb, 3, none⟩ = some v0 := X4.cell 3
      have y3f := X4.fro 3
      have X5 := X4.set 3 (.slice A2 l.length c2)
      have y5 : (w4.setCell ⟨pb, 3, none⟩ (.slice A2 l.length c2)).cell? ⟨pb, 4, none⟩ = some (.int .i64 lst) := X5.cell 4
      have y5f := X5.fro 4
      go_wp2_with fail
      have hs1 := HB1.out (by right; rw [HV.out]; exact hlt)
      subst hs1
      have X6 : BoxN ((w4.setCell ⟨pb, 3, none⟩ (.slice A2 l.length c2)).setCell ⟨pb, 4, none⟩ (.int .i64 la.length)) pb #[.slice A0 ts.length c0, .slice A l.length c, .bool true, .slice A2 l.length c2, .int .i64 (valO true ts l order)] 126 := by rw [HV.out]; exact X5.set 4 (.int .i64 la.length)
      have B4 := B2.trans (b24.mono B2.size)
      have o6 : Only pb (pb + 1) w4 ((w4.setCell ⟨pb, 3, none⟩ (.slice A2 l.length c2)).setCell ⟨pb, 4, none⟩ (.int .i64 la.length)) := only_trans (only_setCell w4 ⟨pb, 3, none⟩ _ ⟨Nat.le_refl pb, Nat.lt_succ_self pb⟩) (only_setCell _ ⟨pb, 4, none⟩ _ ⟨Nat.le_refl pb, Nat.lt_succ_self pb⟩)
      have O6 := own_to (own_tob HO3.out B4 (Nat.le_refl _) B4.size) o6 (Nat.le_refl _) o6.size
      have hz6 := o6.size
      have hz5 := B4.size
      exact bodyPost_ret (v := .tuple #[]) (results_none rfl _ _ _) rfl ⟨rfl, ⟨_, X6, O6, by omega⟩, only_trans (only_of_below B4) o6⟩
    · have hB2 : decide ((la.length : Int) < lst) = false := decide_eq_false hlt
      go_wp2_with (go_at_call 85; refine (HC.out).mono ?_; rintro e w3 ⟨rfl, hb3⟩; have hz3 := hb3.size; have x2 : w3.cell? ⟨pb, 2, none⟩ = some (.bool true) := (HX2.out.below hb3 (by omega)).cell 2)
      have hb3d : Below w2.heap.size w2 w3.drew := hb3.drew
      have HL3 := hide (HLT2.out _ hb3d)
      have hz3d : w3.heap.size ≤ w3.drew.heap.size := Nat.le_refl _
      have e0 : w3.drew.cell? ⟨pb, 0, none⟩ = some (.slice A0 ts.length c0) := (HX2.out.below hb3 (by omega)).cell 0
      have e1 : w3.drew.cell? ⟨pb, 1, none⟩ = some (.slice A l.length c) := (HX2.out.below hb3 (by omega)).cell 1
      refine wp_region_held_drew (S := fun W => W.cell? ⟨pb, 0, none⟩ = some (.slice A0 ts.length c0) ∧ W.cell? ⟨pb, 1, none⟩ = some (.slice A l.length c)) (by kernel_rfl) (⟨e0, e1⟩) (fun hHeld => ?_)
      generalize w3.drew = wd3 at *
      refine wpAnyH_take (i := 0) (v := ?_) rfl (by kernel_rfl) (by kernel_rfl) (by kernel_rfl) (fun _ _ _ h => h) (Or.inl ⟨by rfl, ?_⟩) (by assumption) ?_
      rotate_left 1
      · (intro w hSw; (try dsimp only at hSw); go_simp; try with_reducible rfl)
      try simp only [Act.put, List.getElem_toArray, List.getElem_cons_succ, List.getElem_cons_zero, List.setIfInBounds_toArray, List.set_cons_zero, List.set_cons_succ]
      refine wpAnyH_take (i := 1) (v := ?_) rfl (by kernel_rfl) (by kernel_rfl) (by kernel_rfl) (fun _ _ _ h => h) (Or.inl ⟨by rfl, ?_⟩) (by assumption) ?_
      rotate_left 1
      · (intro w hSw; (try dsimp only at hSw); go_simp; try with_reducible rfl)
      try simp only [Act.put, List.getElem_toArray, List.getElem_cons_succ, List.getElem_cons_zero, List.setIfInBounds_toArray, List.set_cons_zero, List.set_cons_succ]
      refine wpAnyH_take (i := 2) (v := ?_) rfl (by kernel_rfl) (by kernel_rfl) (by kernel_rfl) (fun _ _ _ h => h) (Or.inl ⟨by rfl, ?_⟩) (by assumption) ?_
      rotate_left 1
      · (intro w hSw; (try dsimp only at hSw); go_simp; try with_reducible rfl)
      try simp only [Act.put, List.getElem_toArray, List.getElem_cons_succ, List.getElem_cons_zero, List.setIfInBounds_toArray, List.set_cons_zero, List.set_cons_succ]
      refine wpAnyH_take (i := 3) (v := ?_) rfl (by kernel_rfl) (by kernel_rfl) (by kernel_rfl) (fun _ _ _ h => h) (Or.inl ⟨by rfl, ?_⟩) (by assumption) ?_
      rotate_left 1
      · (intro w hSw; (try dsimp only at hSw); go_simp; try with_reducible rfl)
      try simp only [Act.put, List.getElem_toArray, List.getElem_cons_succ, List.getElem_cons_zero, List.setIfInBounds_toArray, List.set_cons_zero, List.set_cons_succ]
      refine wpAnyH_take (i := 4) (v := ?_) rfl (by kernel_rfl) (by kernel_rfl) (by kernel_rfl) (fun _ _ _ h => h) (Or.inl ⟨by rfl, ?_⟩) (by assumption) ?_
      rotate_left 1
      · (intro w hSw; (try dsimp only at hSw); go_simp; try with_reducible rfl)
      try simp only [Act.put, List.getElem_toArray, List.getElem_cons_succ, List.getElem_cons_zero, List.setIfInBounds_toArray, List.set_cons_zero, List.set_cons_succ]
      refine wpAnyH_take (i := 5) (v := ?_) rfl (by kernel_rfl) (by kernel_rfl) (by kernel_rfl) (fun _ _ _ h => h) (Or.inl ⟨by rfl, ?_⟩) (by assumption) ?_
      rotate_left 1
      · (intro w hSw; (try dsimp only at hSw); go_simp; try with_reducible rfl)
      try simp only [Act.put, List.getElem_toArray, List.getElem_cons_succ, List.getElem_cons_zero, List.setIfInBounds_toArray, List.set_cons_zero, List.set_cons_succ]
      refine wpAnyH_take (i := 6) (v := ?_) rfl (by kernel_rfl) (by kernel_rfl) (by kernel_rfl) (fun _ _ _ h => h) (Or.inl ⟨by rfl, ?_⟩) (by assumption) ?_
      rotate_left 1
      · (intro w hSw; (try dsimp only at hSw); go_simp; try with_reducible rfl)
      try simp only [Act.put, List.getElem_toArray, List.getElem_cons_succ, List.getElem_cons_zero, List.setIfInBounds_toArray, List.set_cons_zero, List.set_cons_succ]
      refine wpAnyH_take (i := 7) (v := ?_) rfl (by kernel_rfl) (by kernel_rfl) (by kernel_rfl) (fun _ _ _ h => h) (Or.inl ⟨by rfl, ?_⟩) (by assumption) ?_
      rotate_left 1
      · (intro w hSw; (try dsimp only at hSw); go_simp; try with_reducible rfl)
      try simp only [Act.put, List.getElem_toArray, List.getElem_cons_succ, List.getElem_cons_zero, List.setIfInBounds_toArray, List.set_cons_zero, List.set_cons_succ]
      refine wpAnyH_take (i := 8) (v := ?_) rfl (by kernel_rfl) (by kernel_rfl) (by kernel_rfl) (fun _ _ _ h => h) (Or.inl ⟨by rfl, ?_⟩) (by assumption) ?_
      rotate_left 1
      · (intro w hSw; (try dsimp only at hSw); go_simp; try with_reducible rfl)
      try simp only [Act.put, List.getElem_toArray, List.getElem_cons_succ, List.getElem_cons_zero, List.setIfInBounds_toArray, List.set_cons_zero, List.set_cons_succ]
      refine wpAnyH_ready (rs := [9]) (by kernel_rfl) (by simp) ?_
      refine AllReadyH.cons rfl (fun K hK => ?_) AllReadyH.nil
      try simp only [Act.put, List.getElem_toArray, List.getElem_cons_succ, List.getElem_cons_zero, List.setIfInBounds_toArray, List.set_cons_zero, List.set_cons_succ]
      go_simp
      go_at_call 97
      refine HL3.out.mono ?_
      rintro e w4 ⟨rv, rfl, hO4, s4⟩
      obtain ⟨Ar, cr, rfl⟩ := hO4.1
      have hsm := hO4.small
      clear hO4
      have f0 := (s4.cell (p := ⟨pb, 0, none⟩) (by dsimp only; omega)).trans e0
      have f1 := (s4.cell (p := ⟨pb, 1, none⟩) (by dsimp only; omega)).trans e1
      have b24 := hb3d.trans (s4.mono hb3d.size)
      have hz4 := b24.size
      clear e0 e1
      dsimp only
      refine hK.out _ _ (⟨f0, f1⟩) (fun hHeld => ?_)
      clear hK K
      try simp only [Act.put, List.getElem_toArray, List.getElem_cons_succ, List.getElem_cons_zero, List.setIfInBounds_toArray, List.set_cons_zero, List.set_cons_succ]
      refine wpAnyH_take (i := 10) (v := ?_) rfl (by kernel_rfl) (by kernel_rfl) (by kernel_rfl) (fun _ _ _ h => h) (Or.inl ⟨by rfl, ?_⟩) (by assumption) ?_
      rotate_left 1
      · (intro w hSw; (try dsimp only at hSw); go_simp; try with_reducible rfl)
      try simp only [Act.put, List.getElem_toArray, List.getElem_cons_succ, List.getElem_cons_zero, List.setIfInBounds_toArray, List.set_cons_zero, List.set_cons_succ]
      refine wpAnyH_take (i := 11) (v := ?_) rfl (by kernel_rfl) (by kernel_rfl) (by kernel_rfl) (fun _ _ _ h => h) (Or.inl ⟨by rfl, ?_⟩) (by assumption) ?_
      rotate_left 1
      · (intro w hSw; (try dsimp only at hSw); go_simp; try with_reducible rfl)
      try simp only [Act.put, List.getElem_toArray, List.getElem_cons_succ, List.getElem_cons_zero, List.setIfInBounds_toArray, List.set_cons_zero, List.set_cons_succ]
      refine wpAnyH_done (by kernel_rfl) ?_ _
      clear f0 f1
      have X4 := HX2.out.below b24 (by omega)
      have x2 : w4.cell? ⟨pb, 2, none⟩ = some (.bool true) := X4.cell 2
      have y4 : w4.cell? ⟨pb, 4, none⟩ = some (.int .i64 lst) := X4.cell 4
      go_wp2_with fail
      have hs1 := HB2.out hneg (by rw [HV.out]; exact hlt)
      subst hs1
      have B4 := B2.trans (b24.mono B2.size)
      have hz5 := B4.size
      exact bodyPost_ret (v := .tuple #[]) (results_none rfl _ _ _) rfl ⟨rfl, ⟨_, X4, own_tob HO0.out B4 (Nat.le_refl _) B4.size, by omega⟩, only_of_below B4⟩
end Go.Proofs.Yticgaiboolojkaa
