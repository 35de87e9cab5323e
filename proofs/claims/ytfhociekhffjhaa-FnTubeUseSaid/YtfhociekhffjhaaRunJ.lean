/-
  The plan by an order, and the sum of delays; in the program and in the reference.
-/
import Derived.Test.YtfhociekhffjhaaRunI
namespace Go.Proofs.Ytfhociekhffjhaa
open Go.RowKit

theorem own_posN {w : World} {base : Nat} {e : TypeId} {size n c : Nat} {A : Option Addr} {xs : List Value} (h : w.ownsRow base e size (.slice A n c) n xs) (hn : 0 < n) : ∃ g, A = some ⟨g, 0, none⟩ ∧ base ≤ g ∧ g < w.heap.size := by
  rcases own_block h with ⟨_, h0, _⟩ | ⟨g, hA, h1, h2⟩
  · omega
  · exact ⟨g, hA, h1, h2⟩
theorem planGo_bd {ts : List Int} {l : List TN} (hts : OkTimes ts) (hlo : ∀ e ∈ l, OkWish ts e) : ∀ (order : List Int) (n : Nat) (done : List TN) (out : List Int), (∀ k ∈ order, 0 ≤ k ∧ k ≤ (l.length : Int) - 1) → n + order.length ≤ 6 → DoneOk ts n done → (∀ z ∈ out, 0 ≤ z ∧ z ≤ 100000) → ∀ z ∈ planGo ts l order done out, 0 ≤ z ∧ z ≤ 100000 := by
  intro order
  induction order with
  | nil => intro n done out _ _ _ h; exact h
  | cons k r ih =>
    intro n done out hk hn hd h
    rw [List.length_cons] at hn
    obtain ⟨m, rfl⟩ := Int.eq_ofNat_of_zero_le (hk k (List.mem_cons_self ..)).1
    have hml : m < l.length := by have := (hk _ (List.mem_cons_self ..)).2; omega
    have he : l[m]? = some l[m] := List.getElem?_eq_getElem hml
    obtain ⟨hw, hp, _⟩ := hlo l[m] (List.getElem_mem _)
    have hb := start_bd hts hd hw hp.1 hp.2
    rw [planGo, startOf, wishAt_get he]
    refine ih (n + 1) _ _ (fun k' hk' => hk k' (List.mem_cons_of_mem _ hk')) (by omega) (hd.next hts hw hp.1 hp.2) fun z hz => ?_
    rcases List.mem_or_eq_of_mem_set hz with hz | hz
    · exact h z hz
    · subst hz; omega
theorem plan_bd {ts : List Int} {l : List TN} {order : List Int} (h : codeO ts l order = 0) : ∀ z ∈ plan ts l order, 0 ≤ z ∧ z ≤ 100000 := by
  obtain ⟨⟨hts, hl6, hlo⟩, hol, hoi⟩ := codeO_ok h
  exact planGo_bd hts hlo order 0 [] _ hoi (by omega) ⟨rfl, fun e he => by cases he⟩ fun z hz => by obtain ⟨_, rfl⟩ := List.mem_replicate.1 hz; omega
theorem planR_get {ts : List Int} {l : List TN} {order : List Int} {i : Nat} {e : TN} (h : (planR ts l order)[i]? = some e) : (plan ts l order)[i]? = some e.p := by
  rw [← plan_p, List.getElem?_map, h]; rfl
theorem planR_len (ts : List Int) (l : List TN) (order : List Int) : (planR ts l order).length = l.length := by
  rw [← plan_len ts l order, ← plan_p, List.length_map]
def planByOrder (ts : List Int) (l : List TN) (order : List Int) : List Int × Int := if codeO ts l order = 0 then (plan ts l order, 0) else ([], codeO ts l order)
/-- The sum of what is later than ready. -/
def dlGo (l : List TN) : List Int → Nat → Int
  | [], _ => 0
  | s :: r, i => s - (wishAt l i).p + dlGo l r (i + 1)
def sumOfDelays (ts : List Int) (l : List TN) (order : List Int) : Int × Int := if codeO ts l order = 0 then (dlGo l (plan ts l order) 0, 0) else (0, codeO ts l order)
set_option maxRecDepth 100000 in
set_option maxHeartbeats 8000000 in
theorem P_PlanByOrder (ts : List Int) (v : Value) (l : List TN) (u : Value) (order : List Int) (y : Value) (w : World) (h0 : ts.length ≤ 1048576) (_ : ∀ z ∈ ts, -9223372036854775808 ≤ z ∧ z ≤ 9223372036854775807) (h : R_Int64S w w.heap.size v ts) (hs : SmallN l) (_ : ∀ e ∈ l, e.Fits) (k : R_WishS w w.heap.size u l) (ho : order.length ≤ 1048576) (_ : ∀ z ∈ order, -9223372036854775808 ≤ z ∧ z ≤ 9223372036854775807) (q : R_Int64S w w.heap.size y order) (hcap : ∀ A m c, y = .slice A m c → m ≤ c) :
    Calls Try.prog 64 #[v, u, y] w fun e w' => ∃ r, e = .returned (.tuple #[r, .int .i64 (planByOrder ts l order).2]) ∧ O_Int64S w' w.heap.size w'.heap.size r (planByOrder ts l order).1 ∧ Below w.heap.size w w' := by
  obtain ⟨A0, c0, rfl, h1⟩ := h
  obtain ⟨A, c, rfl, h2⟩ := k
  obtain ⟨A2, c2, rfl, h3⟩ := q
  have hc2 := hcap _ _ _ rfl
  have HC := hide (wishesCode_any ts l order A0 c0 A c A2 c2 w h0 hs ho hc2 h1 h2 h3)
  have HPL := hide fun (hcd : codeO ts l order = 0) W (hW : Below w.heap.size w W) => runsOfPlan_any ts l order A0 c0 A c A2 c2 W hcd ((h1.below hW).more hW.size) ((h2.below hW).more hW.size) ((h3.below hW).more hW.size)
  have HX := hide h2
  have HTR := hide h1
  clear h1 h2 h3
  by_cases hcd : codeO ts l order = 0
  case neg =>
    have HR := hide (show planByOrder ts l order = ([], codeO ts l order) by unfold planByOrder; exact if_neg hcd)
    have hne : (codeO ts l order != 0) = true := by simp [hcd]
    generalize codeO ts l order = cd at *
    go_enter Try.func64, Try.ntmps64
    go_wp2_with (go_at_call 113; refine (HC.out).mono ?_; rintro e w1 ⟨rfl, hb1⟩)
    go_ret2
    exact ⟨_, by rw [HR.out]; rfl, by rw [HR.out]; exact O_Int64S.nil _ _ _ _ _, hb1⟩
  have HOK := hide (codeO_ok hcd)
  have HPQ := hide (HPL.out hcd)
  rw [hcd] at HC
  have HR := hide (show planByOrder ts l order = (plan ts l order, 0) by unfold planByOrder; exact if_pos hcd)
  obtain ⟨i0, hi0, hz0, hs0, hb0⟩ := info_parts int64_info
  have hl6 := HOK.out.1.2.1
  have HPRL := hide (planR_len ts l order)
  have HPG := hide fun i e h => planR_get (ts := ts) (l := l) (order := order) (i := i) (e := e) h
  have HPLL := hide (plan_len ts l order)
  clear hcd HPL
  go_enter Try.func64, Try.ntmps64
  go_wp2_with (first | (go_at_call 113; refine (HC.out).mono ?_; rintro e w1 ⟨rfl, hb1⟩) | (go_at_call 114; refine (HPQ.out _ (hb1.alloc hb1.size _)).mono ?_; rintro e w2 ⟨A3, c3, po, rfl, hpo, hro, hwy, hb2⟩))
  have ho1 := own_new0 w1 w.heap.size 2 1 hb1.size
  have hba := hb1.alloc hb1.size (.cells #[] 2)
  have ho2 := own_below ho1 hb2 (Nat.le_refl _)
  have hb3 := hba.trans (hb2.mono hba.size)
  have hlg : ∀ g, (Value.slice A3 l.length c3).ownBlock = some g → w1.heap.size < g := fun g h => by have := (hro.lt g h).1; simp at this; omega
  have hne0 : (Value.slice A3 l.length c3).ownBlock = none ∨ (Value.slice A3 l.length c3).ownBlock ≠ (Value.slice (some ⟨w1.heap.size, 0, none⟩) 0 0).ownBlock := by
    cases hA : (Value.slice A3 l.length c3).ownBlock with
    | none => exact .inl rfl
    | some g => right; simp [Value.ownBlock]; have := hlg g hA; omega
  have HPO := hide hpo
  have HWO := hide hwy
  clear ho1 hba hb2 hpo hlg hwy
  go_loopg [9, 25] l.length (fun g s i wr => ∃ (k : Nat) (acc : List Int), k ≤ l.length ∧ Hid (g = l.length - k) ∧ i = .int .i64 k ∧ acc.length = k ∧ wr.ownsRow w.heap.size 2 1 s k (acc.map (Value.int .i64)) ∧ Hid (acc = (plan ts l order).take k) ∧ ((Value.slice A3 l.length c3).ownBlock = none ∨ (Value.slice A3 l.length c3).ownBlock ≠ s.ownBlock) ∧
    Hid (∃ base, wr.ownsRow base 34 2 (.slice A3 l.length c3) l.length (po.flatMap (Nc 1))) ∧ Below w.heap.size w wr)
  case atStart => exact ⟨0, [], by omega, by simp [Hid], rfl, rfl, ho2, by simp [Hid], hne0, ⟨_, hro⟩, hb3⟩
  case round =>
    obtain ⟨k, acc, hk, hg, rfl, hal, hown, HS, hne, HRO, hb⟩ := hrel
    clear ho2 hb3 hne0 hro
    obtain ⟨base, hro⟩ := HRO.out
    by_cases hlt : k < l.length
    · obtain ⟨g, hA, _, hgl⟩ := own_posN hro (by omega)
      subst hA
      have hpl : po.length = l.length := by have := congrArg List.length HPO.out; rw [List.length_map, HPRL.out] at this; exact this
      obtain ⟨y, hy⟩ : ∃ y, po[k]? = some y := ⟨_, List.getElem?_eq_getElem (by omega)⟩
      obtain ⟨yv, ye⟩ := y
      obtain ⟨Ay, cy, hyv, _⟩ := HWO.out _ (List.mem_of_getElem? hy)
      dsimp only at hyv
      subst hyv
      have hk0 : wr.cell? ⟨g, k * 2, none⟩ = some (.slice Ay ye.way.length cy) := (hro.cellAt (k * 2) (by omega)).trans (flatMap_get (Nc 1) 2 (fun _ => rfl) po k 0 _ hy (by omega))
      have hk1 : wr.cell? ⟨g, k * 2 + 1, none⟩ = some (.int .i64 ye.p) := (hro.cellAt (k * 2 + 1) (by omega)).trans (flatMap_get (Nc 1) 2 (fun _ => rfl) po k 1 _ hy (by omega))
      have HG := hide (HPG.out k ye (by rw [← HPO.out, List.getElem?_map, hy]; rfl))
      have HN := hide hne
      have hsz := hb.size
      have R2 := hide (hro.alloc (.cells #[.slice Ay ye.way.length cy, .int .i64 ye.p] 34))
      have O2 := hide (hown.alloc (.cells #[.slice Ay ye.way.length cy, .int .i64 ye.p] 34))
      have B2 := hide (hb.alloc hsz (.cells #[.slice Ay ye.way.length cy, .int .i64 ye.p] 34))
      have hsa : wr.heap.size < (wr.alloc (.cells #[.slice Ay ye.way.length cy, .int .i64 ye.p] 34)).heap.size := by simp
      clear hy hne
      go_wp2_with (at_builtin; go_must (refine wp_app _ rfl _ _ 24 rfl (w.heap.size) 2 i0 (.int .i64 0) 1 8 Try.underlying24 hi0 hz0 hs0 hb0 rfl (by decide) _ _ _ rfl (O2.out.alloc _) _ _ 1 1 [.int .i64 ye.p] rfl rfl (rd_new _ _ _ _ (by simp)) (int_one _) (by omega) (by decide) (by simp <;> omega) ?_); intro v' w4 hown' hgrow hat)
      have hb4 := app_below (B2.out.alloc B2.out.size _) (O2.out.alloc _) hgrow (Nat.le_refl _) (by simp <;> omega)
      have hne4 : (Value.slice (some ⟨g, 0, none⟩) l.length c3).ownBlock = none ∨ (Value.slice (some ⟨g, 0, none⟩) l.length c3).ownBlock ≠ v'.ownBlock := by
        right
        rcases hat with h | h
        · rw [h]; rcases HN.out with h2 | h2
          · simp [Value.ownBlock] at h2
          · exact h2
        · rw [h]; simp [Value.ownBlock]; omega
      go_roundg (l.length - (k + 1))
      case measure => have := hg.out; omega
      case rel => exact ⟨k + 1, acc ++ [ye.p], by omega, rfl, by go_num, by simp; omega, by simpa using hown', by unfold Hid; rw [take_next HG.out, ← HS.out], hne4, ⟨base, (R2.out.alloc _).kept hgrow (by rcases HN.out with h2 | h2; exact .inl h2; exact .inr h2)⟩, hb4⟩
    · have HE := hide (show acc = plan ts l order by rw [HS.out, List.take_of_length_le (by rw [HPLL.out]; omega)])
      have hkl : k = l.length := by omega
      go_wp2_with fail
      go_ret2
      refine ⟨_, by rw [HR.out]; rfl, ?_, hb⟩
      rw [HR.out]
      unfold O_Int64S
      dsimp only
      rw [HPLL.out, ← HE.out, ← hkl]
      exact OwnV.of_row hown (by omega)
end Go.Proofs.Ytfhociekhffjhaa
