/-
  The runs of a plan; in the program and in the reference.
-/
import Derived.Test.YticgaiboolojkaaRunK2
namespace Go.Proofs.Yticgaiboolojkaa
open Go.RowKit

/-- The runs of these starts, from a wish on. -/
def rpGo (l : List TN) : List Int → Nat → List TN
  | [], _ => []
  | s :: r, i => ⟨(wishAt l i).way, s, 0⟩ :: rpGo l r (i + 1)
theorem rpGo_len (l : List TN) : ∀ (xs : List Int) (k : Nat), (rpGo l xs k).length = xs.length := by
  intro xs
  induction xs with
  | nil => intro k; rfl
  | cons s r ih => intro k; rw [rpGo, List.length_cons, List.length_cons, ih]
theorem rpGo_get (l : List TN) : ∀ (xs : List Int) (k i : Nat) (z : Int), xs[i]? = some z → (rpGo l xs k)[i]? = some ⟨(wishAt l ((k + i : Nat) : Int)).way, z, 0⟩ := by
  intro xs
  induction xs with
  | nil => intro k i z h; simp at h
  | cons s r ih =>
    intro k i z h
    rw [rpGo]
    cases i with
    | zero => simp at h; subst h; rfl
    | succ i =>
      rw [List.getElem?_cons_succ, ih (k + 1) i z (by simpa using h)]
      rw [show k + 1 + i = k + (i + 1) by omega]
theorem rpGo_drop {l : List TN} {xs : List Int} {k : Nat} {z : Int} (h : xs[k]? = some z) : rpGo l (xs.drop k) k = ⟨(wishAt l k).way, z, 0⟩ :: rpGo l (xs.drop (k + 1)) (k + 1) := by rw [drop_cons h, rpGo]
def planQ0 (ts : List Int) (l : List TN) (order : List Int) : List TN := (planR ts l order).map fun e => ⟨e.way, e.p, 0⟩
theorem planRGo_q (ts : List Int) (l : List TN) : ∀ (order : List Int) (done out : List TN), (∀ e ∈ out, e.q = 0) → ∀ e ∈ planRGo ts l order done out, e.q = 0 := by
  intro order
  induction order with
  | nil => intro done out h; exact h
  | cons k r ih =>
    intro done out h
    rw [planRGo]
    refine ih _ _ fun e he => ?_
    rcases List.mem_or_eq_of_mem_set he with he | he
    · exact h e he
    · subst he; rfl
theorem planR_rp {ts : List Int} {l : List TN} {order : List Int} (h : codeO ts l order = 0) : planR ts l order = rpGo l (plan ts l order) 0 := by
  refine List.ext_getElem? fun i => ?_
  by_cases hi : i < l.length
  · obtain ⟨e, he⟩ : ∃ e, (planR ts l order)[i]? = some e := ⟨_, List.getElem?_eq_getElem (by rw [planR_len]; exact hi)⟩
    have h1 := planR_way h he
    have h2 := planR_get he
    have h3 := planRGo_q ts l order [] _ (fun e he => by obtain ⟨_, rfl⟩ := List.mem_replicate.1 he; rfl) e (List.mem_of_getElem? he)
    rw [he, rpGo_get l _ 0 i _ h2, Nat.zero_add, ← h1, ← h3]
  · rw [List.getElem?_eq_none (by rw [planR_len]; omega), List.getElem?_eq_none (by rw [rpGo_len, plan_len]; omega)]
def runsOfPlan (ts : List Int) (l : List TN) (order : List Int) : List TN × Int := if codeO ts l order = 0 then (rpGo l (plan ts l order) 0, 0) else ([], codeO ts l order)
theorem rp_small {l : List TN} (hw : ∀ e ∈ l, e.way.length ≤ 12) : ∀ {xs : List Int} {k : Nat}, k + xs.length ≤ l.length → xs.length ≤ 6 → SmallN (rpGo l xs k) := by
  have key : ∀ {xs : List Int} {k : Nat}, k + xs.length ≤ l.length → ((rpGo l xs k).map fun e => e.way.length).sum ≤ 12 * xs.length := by
    intro xs
    induction xs with
    | nil => intro k _; simp [rpGo]
    | cons s r ih =>
      intro k hk
      rw [List.length_cons] at hk
      rw [rpGo, List.map_cons, List.sum_cons, List.length_cons]
      have h1 := ih (k := k + 1) (by omega)
      have h2 : (wishAt l (k : Int)).way.length ≤ 12 := by
        rw [wishAt_get (List.getElem?_eq_getElem (show k < l.length by omega))]
        exact hw _ (List.getElem_mem _)
      dsimp only
      omega
  intro xs k h1 h2
  have := key h1
  unfold SmallN
  rw [rpGo_len]; omega
set_option maxRecDepth 100000 in
set_option maxHeartbeats 8000000 in
theorem P_RunsOfPlan (ts : List Int) (v : Value) (l : List TN) (u : Value) (order : List Int) (y : Value) (w : World) (h0 : ts.length ≤ 1048576) (_ : ∀ z ∈ ts, -9223372036854775808 ≤ z ∧ z ≤ 9223372036854775807) (h : R_Int64S w w.heap.size v ts) (hs : SmallN l) (_ : ∀ e ∈ l, e.Fits) (k : R_WishS w w.heap.size u l) (ho : order.length ≤ 1048576) (_ : ∀ z ∈ order, -9223372036854775808 ≤ z ∧ z ≤ 9223372036854775807) (q : R_Int64S w w.heap.size y order) (hcap : ∀ A m c, y = .slice A m c → m ≤ c) :
    Calls Try.prog 54 #[v, u, y] w fun e w' => ∃ r, e = .returned (.tuple #[r, .int .i64 (runsOfPlan ts l order).2]) ∧ O_RunS w' w.heap.size w'.heap.size r (runsOfPlan ts l order).1 ∧ Below w.heap.size w w' := by
  obtain ⟨A0, c0, rfl, h1⟩ := h
  obtain ⟨A, c, rfl, h2⟩ := k
  obtain ⟨A2, c2, rfl, h3⟩ := q
  have hc2 := hcap _ _ _ rfl
  have HC := hide (wishesCode_any ts l order A0 c0 A c A2 c2 w h0 hs ho hc2 h1 h2 h3)
  have HPL := hide fun (hcd : codeO ts l order = 0) W (hW : Below w.heap.size w W) => runsOfPlan_any ts l order A0 c0 A c A2 c2 W hcd ((h1.below hW).more hW.size) ((h2.below hW).more hW.size) ((h3.below hW).more hW.size)
  have HX := hide h2
  have HTR := hide h1
  clear h1 h2 h3
  by_cases hcd : codeO ts l order = 0
  case neg =>
    have HR := hide (show runsOfPlan ts l order = ([], codeO ts l order) by unfold runsOfPlan; exact if_neg hcd)
    have hne : (codeO ts l order != 0) = true := by simp [hcd]
    generalize codeO ts l order = cd at *
    go_enter Try.func54, Try.ntmps54
    go_wp2_with (go_at_call 87; refine (HC.out).mono ?_; rintro e w1 ⟨rfl, hb1⟩)
    go_ret2
    exact ⟨_, by rw [HR.out]; rfl, by rw [HR.out]; exact O_RunS.nil _ _ _ _ _, hb1⟩
  have HOK := hide (codeO_ok hcd)
  have HPQ := hide (HPL.out hcd)
  rw [hcd] at HC
  have HR := hide (show runsOfPlan ts l order = (planR ts l order, 0) by unfold runsOfPlan; rw [if_pos hcd, planR_rp hcd])
  have hl6 := HOK.out.1.2.1
  have HSM := hide (show SmallN (planR ts l order) by rw [planR_rp hcd]; exact rp_small (fun e he => (HOK.out.1.2.2 e he).1.1.2) (by rw [plan_len]; omega) (by rw [plan_len]; omega))
  have HCP := hide fun (A3 : Option Addr) (c3 : Nat) W (r : RN 1 W W.heap.size A3 (planR ts l order)) => copyRuns_any (planR ts l order) A3 c3 W HSM.out r
  rw [planR_len] at HCP
  clear hcd HPL
  go_enter Try.func54, Try.ntmps54
  go_wp2_with (first | (go_at_call 87; refine (HC.out).mono ?_; rintro e w1 ⟨rfl, hb1⟩) | (go_at_call 89; refine (HPQ.out _ hb1).mono ?_; rintro e w2 ⟨A3, c3, po, rfl, hpo, hro, hwy, hb2⟩; have hb3 := hb1.trans (hb2.mono hb1.size); have hrn : RN 1 w2 w2.heap.size A3 (planR ts l order) := ⟨po, hpo, Rd.of_own hro, fun p hp => by obtain ⟨A', c', h5, h6⟩ := hwy p hp; exact ⟨A', c', h5, (h6.below hb2).more hb2.size⟩⟩) | (go_at_call 71; refine (HCP.out _ _ _ hrn).mono ?_; rintro e w3 ⟨r, rfl, or, hb4⟩))
  go_ret2
  exact ⟨_, by rw [HR.out]; rfl, by rw [HR.out]; exact O_RunS.widen or hb3.size (Nat.le_refl _), hb3.trans (hb4.mono hb3.size)⟩
set_option maxRecDepth 100000 in
set_option maxHeartbeats 8000000 in
theorem S_RunsOfPlan (ts : List Int) (v : Value) (l : List TN) (u : Value) (order : List Int) (y : Value) (w : World) (h0 : ts.length ≤ 1048576) (_ : ∀ z ∈ ts, -9223372036854775808 ≤ z ∧ z ≤ 9223372036854775807) (h : R_Int64S w w.heap.size v ts) (hs : SmallN l) (_ : ∀ e ∈ l, e.Fits) (k : R_WishS w w.heap.size u l) (ho : order.length ≤ 1048576) (_ : ∀ z ∈ order, -9223372036854775808 ≤ z ∧ z ≤ 9223372036854775807) (q : R_Int64S w w.heap.size y order) (hcap : ∀ A m c, y = .slice A m c → m ≤ c) :
    Calls Try.prog 53 #[v, u, y] w fun e w' => ∃ r, e = .returned (.tuple #[r, .int .i64 (runsOfPlan ts l order).2]) ∧ O_RunS w' w.heap.size w'.heap.size r (runsOfPlan ts l order).1 ∧ Below w.heap.size w w' := by
  obtain ⟨A0, c0, rfl, h1⟩ := h
  obtain ⟨A, c, rfl, h2⟩ := k
  obtain ⟨A2, c2, rfl, h3⟩ := q
  have hc2 := hcap _ _ _ rfl
  have HC := hide (l08Code_any ts l order A0 c0 A c A2 c2 w h0 hs ho hc2 h1 h2 h3)
  have HPL := hide fun (hcd : codeO ts l order = 0) W (hW : Below w.heap.size w W) => l08Plan_any ts l order A0 c0 A c A2 c2 W hcd ((h1.below hW).more hW.size) ((h2.below hW).more hW.size) ((h3.below hW).more hW.size)
  have HX := hide h2
  have HTR := hide h1
  clear h1 h2 h3
  by_cases hcd : codeO ts l order = 0
  case neg =>
    have HR := hide (show runsOfPlan ts l order = ([], codeO ts l order) by unfold runsOfPlan; exact if_neg hcd)
    have hne : (codeO ts l order != 0) = true := by simp [hcd]
    generalize codeO ts l order = cd at *
    go_enter Try.func53, Try.ntmps53
    go_wp2_with (go_at_call 84; refine (HC.out).mono ?_; rintro e w1 ⟨rfl, hb1⟩)
    go_ret2
    exact ⟨_, by rw [HR.out]; rfl, by rw [HR.out]; exact O_RunS.nil _ _ _ _ _, hb1⟩
  have HOK := hide (codeO_ok hcd)
  have HPQ := hide (HPL.out hcd)
  rw [hcd] at HC
  have HR := hide (show runsOfPlan ts l order = (rpGo l (plan ts l order) 0, 0) by unfold runsOfPlan; exact if_pos hcd)
  have hl6 := HOK.out.1.2.1
  obtain ⟨i0, hi0, hz0, hs0, hb0⟩ := info_parts RunS_info
  have HPLL := hide (plan_len ts l order)
  have HSM := hide (show SmallN (rpGo l (plan ts l order) 0) from rp_small (fun e he => (HOK.out.1.2.2 e he).1.1.2) (by rw [plan_len]; omega) (by rw [plan_len]; omega))
  have HLO := hide HOK.out.1.2.2
  clear hcd HPL
  go_enter Try.func53, Try.ntmps53
  go_wp2_with (first | (go_at_call 84; refine (HC.out).mono ?_; rintro e w1 ⟨rfl, hb1⟩) | (go_at_call 86; refine (HPQ.out _ hb1).mono ?_; rintro e w2 ⟨A3, c3, rfl, ho3, hb2⟩))
  have hb3 := hb1.trans (hb2.mono hb1.size)
  have HRD := hide (RdI.of_own (zs := plan ts l order) ho3)
  have ho1 := own_new0 w2 w2.heap.size 78 2 (Nat.le_refl _)
  have hb4 : Below w2.heap.size w2 (w2.alloc (.cells #[] 78)) := (Below.refl _ _).alloc (Nat.le_refl _) _
  clear hb2 ho3
  go_loopg [10, 11] l.length (fun g s i wr => ∃ (k : Nat) (ps : List (Value × TN)) (acc : List TN), k ≤ l.length ∧ Hid (g = l.length - k) ∧ i = .int .i64 k ∧ Hid (ps.map (·.2) = acc) ∧ Hid (rpGo l (plan ts l order) 0 = acc ++ rpGo l ((plan ts l order).drop k) k) ∧ wr.ownsRow w2.heap.size 78 2 s k (ps.flatMap (Nc 1)) ∧ Hid (FamO wr s.ownBlock w2.heap.size wr.heap.size ps) ∧ Below w2.heap.size w2 wr)
  case atStart => exact ⟨0, [], [], by omega, by simp [Hid], rfl, rfl, by simp [Hid], ho1, trivial, hb4⟩
  case round =>
    obtain ⟨k, ps, acc, hk, hg, rfl, HP, HS, hown, HF, hb⟩ := hrel
    clear ho1 hb4
    have hbw := hb3.trans (hb.mono hb3.size)
    by_cases hlt : k < l.length
    · obtain ⟨b3, o3, z, rfl, hbb3, hz, hca⟩ := (HRD.out.below hb).at_ (show k < (plan ts l order).length by rw [HPLL.out]; exact hlt)
      obtain ⟨b1, o1, e, Aw, cw, rfl, hbb1, he, hrw, hn0, _, _⟩ := (HX.out.below hbw).at_ (by omega) hlt
      have hwk := (HLO.out e (List.mem_of_getElem? he)).1
      have hw12 := hwk.1.2
      have HS' := HS.out
      rw [rpGo_drop hz, wishAt_get he] at HS'
      have HQ := hide (show rpGo l (plan ts l order) 0 = (acc ++ [⟨e.way, z, 0⟩]) ++ rpGo l ((plan ts l order).drop (k + 1)) (k + 1) by rw [HS', List.append_assoc]; rfl)
      have hszb := hb.size
      have hszw := hb3.size
      have e0 : wr.drew.cell? ⟨b1, o1 + k * 3, none⟩ = some (.slice Aw e.way.length cw) := hn0
      have e1 : wr.drew.cell? ⟨b3, o3 + k, none⟩ = some (.int .i64 z) := hca
      have bd : Below w2.heap.size w2 wr.drew := hb.drew
      have bre : Below wr.heap.size wr wr.drew := (Below.refl _ _).drew
      have hod : wr.drew.ownsRow w2.heap.size 78 2 u10 k (ps.flatMap (Nc 1)) := hown
      have hrd : RdI wr.drew wr.drew.heap.size Aw e.way := RdI.more (w := wr.drew) (show RdI wr.drew w.heap.size Aw e.way from hrw) hbw.size
      have HC2 := hide (l00OwnN_any e.way Aw cw wr.drew (by omega) hrd)
      have hkl : (k : Int) < l.length := by omega
      clear HS HS' hz he hwk hrw hn0 hca hrd
      go_wp2_with fail
      refine wp_region_held_drew (S := fun W => W.cell? ⟨b1, o1 + k * 3, none⟩ = some (.slice Aw e.way.length cw) ∧ W.cell? ⟨b3, o3 + k, none⟩ = some (.int .i64 z)) (by kernel_rfl) (⟨e0, e1⟩) (fun hHeld => ?_)
      have hsd : wr.heap.size ≤ wr.drew.heap.size := Nat.le_refl _
      generalize wr.drew = wd at *
      refine wpAnyH_take (i := 0) (v := ?_) rfl (by kernel_rfl) (by kernel_rfl) (by kernel_rfl) (fun _ _ _ h => h) (Or.inl ⟨by rfl, ?_⟩) (by assumption) ?_
      rotate_left 1
      · (intro w hSw; (try dsimp only at hSw); go_simp; try with_reducible rfl)
      try simp only [Act.put, List.getElem_toArray, List.getElem_cons_succ, List.getElem_cons_zero, List.setIfInBounds_toArray, List.set_cons_zero, List.set_cons_succ]
      refine wpAnyH_take (i := 1) (v := ?_) rfl (by kernel_rfl) (by kernel_rfl) (by kernel_rfl) (fun _ _ _ h => h) (Or.inl ⟨by rfl, ?_⟩) (by assumption) ?_
      rotate_left 1
      · (intro w hSw; (try dsimp only at hSw); go_simp; try with_reducible rfl)
      try simp only [Act.put, List.getElem_toArray, List.getElem_cons_succ, List.getElem_cons_zero, List.setIfInBounds_toArray, List.set_cons_zero, List.set_cons_succ]
      refine wpAnyH_take (i := 2) (v := ?_) rfl (by kernel_rfl) (by kernel_rfl) (by kernel_rfl) (fun _ _ _ h => h) (Or.inl ⟨by rfl, ?_⟩) (by assumption) ?_
      rotate_left 1
      · (intro w hSw; (try dsimp only at hSw); go_simp; try with_reducible rfl)
      try simp only [Act.put, List.getElem_toArray, List.getElem_cons_succ, List.getElem_cons_zero, List.setIfInBounds_toArray, List.set_cons_zero, List.set_cons_succ]
      refine wpAnyH_take (i := 3) (v := ?_) rfl (by kernel_rfl) (by kernel_rfl) (by kernel_rfl) (fun _ _ _ h => h) (Or.inl ⟨by rfl, ?_⟩) (by assumption) ?_
      rotate_left 1
      · (intro w hSw; (try dsimp only at hSw); go_simp; try with_reducible rfl)
      try simp only [Act.put, List.getElem_toArray, List.getElem_cons_succ, List.getElem_cons_zero, List.setIfInBounds_toArray, List.set_cons_zero, List.set_cons_succ]
      refine wpAnyH_take (i := 4) (v := ?_) rfl (by kernel_rfl) (by kernel_rfl) (by kernel_rfl) (fun _ _ _ h => h) (Or.inl ⟨by rfl, ?_⟩) (by assumption) ?_
      rotate_left 1
      · (intro w hSw; (try dsimp only at hSw); go_simp; try with_reducible rfl)
      try simp only [Act.put, List.getElem_toArray, List.getElem_cons_succ, List.getElem_cons_zero, List.setIfInBounds_toArray, List.set_cons_zero, List.set_cons_succ]
      refine wpAnyH_take (i := 5) (v := ?_) rfl (by kernel_rfl) (by kernel_rfl) (by kernel_rfl) (fun _ _ _ h => h) (Or.inl ⟨by rfl, ?_⟩) (by assumption) ?_
      rotate_left 1
      · (intro w hSw; (try dsimp only at hSw); go_simp; try with_reducible rfl)
      try simp only [Act.put, List.getElem_toArray, List.getElem_cons_succ, List.getElem_cons_zero, List.setIfInBounds_toArray, List.set_cons_zero, List.set_cons_succ]
      refine wpAnyH_take (i := 7) (v := ?_) rfl (by kernel_rfl) (by kernel_rfl) (by kernel_rfl) (fun _ _ _ h => h) (Or.inl ⟨by rfl, ?_⟩) (by assumption) ?_
      rotate_left 1
      · (intro w hSw; (try dsimp only at hSw); go_simp; try with_reducible rfl)
      try simp only [Act.put, List.getElem_toArray, List.getElem_cons_succ, List.getElem_cons_zero, List.setIfInBounds_toArray, List.set_cons_zero, List.set_cons_succ]
      refine wpAnyH_take (i := 8) (v := ?_) rfl (by kernel_rfl) (by kernel_rfl) (by kernel_rfl) (fun _ _ _ h => h) (Or.inl ⟨by rfl, ?_⟩) (by assumption) ?_
      rotate_left 1
      · (intro w hSw; (try dsimp only at hSw); go_simp; try with_reducible rfl)
      try simp only [Act.put, List.getElem_toArray, List.getElem_cons_succ, List.getElem_cons_zero, List.setIfInBounds_toArray, List.set_cons_zero, List.set_cons_succ]
      refine wpAnyH_take (i := 9) (v := ?_) rfl (by kernel_rfl) (by kernel_rfl) (by kernel_rfl) (fun _ _ _ h => h) (Or.inl ⟨by rfl, ?_⟩) (by assumption) ?_
      rotate_left 1
      · (intro w hSw; (try dsimp only at hSw); go_simp; try with_reducible rfl)
      try simp only [Act.put, List.getElem_toArray, List.getElem_cons_succ, List.getElem_cons_zero, List.setIfInBounds_toArray, List.set_cons_zero, List.set_cons_succ]
      refine wpAnyH_take (i := 10) (v := ?_) rfl (by kernel_rfl) (by kernel_rfl) (by kernel_rfl) (fun _ _ _ h => h) (Or.inl ⟨by rfl, ?_⟩) (by assumption) ?_
      rotate_left 1
      · (intro w hSw; (try dsimp only at hSw); go_simp; try with_reducible rfl)
      try simp only [Act.put, List.getElem_toArray, List.getElem_cons_succ, List.getElem_cons_zero, List.setIfInBounds_toArray, List.set_cons_zero, List.set_cons_succ]
      refine wpAnyH_ready (rs := [6]) (by kernel_rfl) (by simp) ?_
      refine AllReadyH.cons rfl (fun K hK => ?_) AllReadyH.nil
      try simp only [Act.put, List.getElem_toArray, List.getElem_cons_succ, List.getElem_cons_zero, List.setIfInBounds_toArray, List.set_cons_zero, List.set_cons_succ]
      go_simp
      go_at_call 103
      refine HC2.out.mono ?_
      rintro e' w5 ⟨A5, c5, rfl, ho5, s5⟩
      have hsz5 := s5.size
      have f0 := (s5.cell (p := ⟨b1, o1 + k * 3, none⟩) (by dsimp only; omega)).trans e0
      have f1 := (s5.cell (p := ⟨b3, o3 + k, none⟩) (by dsimp only; omega)).trans e1
      dsimp only
      refine hK.out _ _ (⟨f0, f1⟩) (fun hHeld => ?_)
      clear hK K
      try simp only [Act.put, List.getElem_toArray, List.getElem_cons_succ, List.getElem_cons_zero, List.setIfInBounds_toArray, List.set_cons_zero, List.set_cons_succ]
      refine wpAnyH_take (i := 11) (v := ?_) rfl (by kernel_rfl) (by kernel_rfl) (by kernel_rfl) (fun _ _ _ h => h) (Or.inl ⟨by rfl, ?_⟩) (by assumption) ?_
      rotate_left 1
      · (intro w hSw; (try dsimp only at hSw); go_simp; try with_reducible rfl)
      try simp only [Act.put, List.getElem_toArray, List.getElem_cons_succ, List.getElem_cons_zero, List.setIfInBounds_toArray, List.set_cons_zero, List.set_cons_succ]
      refine wpAnyH_ready (rs := [12]) (by kernel_rfl) (by simp) ?_
      refine AllReadyH.cons rfl (fun K hK => ?_) AllReadyH.nil
      try simp only [Act.put, List.getElem_toArray, List.getElem_cons_succ, List.getElem_cons_zero, List.setIfInBounds_toArray, List.set_cons_zero, List.set_cons_succ]
      go_simp
      have g0 : (w5.alloc (.cells #[.slice A5 e.way.length c5, .int .i64 z] 78)).cell? ⟨b1, o1 + k * 3, none⟩ = some (.slice Aw e.way.length cw) := (World.cell?_alloc_old _ _ _ (by dsimp only; omega)).trans f0
      have g1 : (w5.alloc (.cells #[.slice A5 e.way.length c5, .int .i64 z] 78)).cell? ⟨b3, o3 + k, none⟩ = some (.int .i64 z) := (World.cell?_alloc_old _ _ _ (by dsimp only; omega)).trans f1
      refine hK.out _ _ (⟨g0, g1⟩) (fun hHeld => ?_)
      clear hK K
      try simp only [Act.put, List.getElem_toArray, List.getElem_cons_succ, List.getElem_cons_zero, List.setIfInBounds_toArray, List.set_cons_zero, List.set_cons_succ]
      have hown2 := own_below hod s5 (Nat.le_refl _)
      have hown3 := hown2.alloc (.cells #[.slice A5 e.way.length c5, .int .i64 z] 78)
      have hb5 := bd.trans (s5.mono bd.size)
      have hb6 := hb5.alloc hb5.size (.cells #[.slice A5 e.way.length c5, .int .i64 z] 78)
      have o5 : O_Int64S w5 wd.heap.size w5.heap.size (.slice A5 e.way.length c5) e.way := OwnV.of_row ho5 (by omega)
      have hlg := hide fun g h => (hown.lt g h)
      have F2 : FamO w5 u10.ownBlock w2.heap.size w5.heap.size (ps ++ [(.slice A5 e.way.length c5, ⟨e.way, z, 0⟩)]) :=
        (HF.out.below (bre.trans (s5.mono (by omega))) (Nat.le_refl _)).snoc (hi := w5.heap.size) (p := (.slice A5 e.way.length c5, ⟨e.way, z, 0⟩)) hsd hsz5 (Nat.le_refl _) (fun g hg => by have := (hlg.out g hg).2; omega) o5 hb.size
      have hsa : w5.heap.size + 1 ≤ (w5.alloc (.cells #[.slice A5 e.way.length c5, .int .i64 z] 78)).heap.size := by simp
      have F3 := (F2.below ((Below.refl _ w5).alloc (Nat.le_refl _) (.cells #[.slice A5 e.way.length c5, .int .i64 z] 78)) (Nat.le_refl _)).widen (hi' := (w5.alloc (.cells #[.slice A5 e.way.length c5, .int .i64 z] 78)).heap.size) (by omega) (Nat.le_refl _)
      have hrd2 := rd_new w5 [.slice A5 e.way.length c5, .int .i64 z] 78 _ rfl
      refine wpAnyH_ready (rs := [13]) (by kernel_rfl) (by simp) ?_
      refine AllReadyH.cons rfl (fun K hK => ?_) AllReadyH.nil
      try simp only [Act.put, List.getElem_toArray, List.getElem_cons_succ, List.getElem_cons_zero, List.setIfInBounds_toArray, List.set_cons_zero, List.set_cons_succ]
      rw [if_pos (by rfl)]
      refine op_app _ _ _ 34 rfl w2.heap.size 78 i0 (.agg #[.slice none 0 0, .int .i64 0]) 2 32 Try.underlying34 hi0 hz0 hs0 hb0 rfl (by decide) _ _ _ rfl hown3 _ _ 1 1 [.slice A5 e.way.length c5, .int .i64 z] rfl rfl hrd2 (by intro u hu; simp at hu; rcases hu with rfl | rfl <;> rfl) (by omega) (by decide) hb6.size ?_
      intro v' w6 hown' hgrow hat
      have hb7 := app_below hb6 hown3 hgrow (Nat.le_refl _) hb6.size
      have F4 := famO_grown F3 hown3 hgrow hat
      have hg3 : (b3 : Nat) < w2.heap.size := hbb3
      have j0 : w6.cell? ⟨b1, o1 + k * 3, none⟩ = some (.slice Aw e.way.length cw) := (World.cell?_of_block (a := ⟨b1, o1 + k * 3, none⟩) (hgrow.block b1 (by omega) fun h => by have := (hlg.out _ h.symm).1; omega)).trans g0
      have j1 : w6.cell? ⟨b3, o3 + k, none⟩ = some (.int .i64 z) := (World.cell?_of_block (a := ⟨b3, o3 + k, none⟩) (hgrow.block b3 (by omega) fun h => by have := (hlg.out _ h.symm).1; omega)).trans g1
      dsimp only
      refine hK.out _ _ (⟨j0, j1⟩) (fun hHeld => ?_)
      clear hK K
      try simp only [Act.put, List.getElem_toArray, List.getElem_cons_succ, List.getElem_cons_zero, List.setIfInBounds_toArray, List.set_cons_zero, List.set_cons_succ]
      refine wpAnyH_take (i := 14) (v := ?_) rfl (by kernel_rfl) (by kernel_rfl) (by kernel_rfl) (fun _ _ _ h => h) (Or.inl ⟨by rfl, ?_⟩) (by assumption) ?_
      rotate_left 1
      · (intro w hSw; (try dsimp only at hSw); go_simp; try with_reducible rfl)
      try simp only [Act.put, List.getElem_toArray, List.getElem_cons_succ, List.getElem_cons_zero, List.setIfInBounds_toArray, List.set_cons_zero, List.set_cons_succ]
      refine wpAnyH_done (by kernel_rfl) ?_ _
      go_wp2_with fail
      go_roundg (l.length - (k + 1))
      case measure => have := hg.out; omega
      case rel =>
        refine ⟨k + 1, ps ++ [(.slice A5 e.way.length c5, ⟨e.way, z, 0⟩)], acc ++ [⟨e.way, z, 0⟩], by omega, rfl, by go_num, ?_, HQ, by rw [List.flatMap_append]; exact hown', hide F4, hb7⟩
        unfold Hid; rw [List.map_append, HP.out]; rfl
    · obtain rfl : k = l.length := by omega
      have hE : rpGo l (plan ts l order) 0 = acc := by rw [HS.out, List.drop_eq_nil_of_le (by rw [HPLL.out]; omega), rpGo, List.append_nil]
      have HE := hide hE
      have hal : acc.length = l.length := by rw [← hE, rpGo_len, HPLL.out]
      clear hE
      go_wp2_with fail
      go_ret2
      refine ⟨_, by rw [HR.out]; rfl, ?_, hbw⟩
      rw [HR.out, HE.out]
      refine O_RunS.widen (lo := w2.heap.size) (hi := wr.heap.size) ?_ hb3.size (Nat.le_refl _)
      exact ⟨ps, HP.out, by rw [hal]; exact OwnV.of_row hown (by omega), HF.out, by rw [← HE.out]; exact HSM.out⟩
end Go.Proofs.Yticgaiboolojkaa
