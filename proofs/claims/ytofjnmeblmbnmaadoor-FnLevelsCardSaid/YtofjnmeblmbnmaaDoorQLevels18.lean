/-
  Where a change belongs: slices.BinarySearchFunc at changes.
-/
import Derived.Test.YtofjnmeblmbnmaaDoorQLevels5
import Derived.Test.YtofjnmeblmbnmaaDoorQLevels2
import Derived.Deep.DeepCutAuto
namespace Go.Proofs.YtofjnmeblmbnmaaDoor
open Go.RowKit
theorem ltC_iff3 (a b : T3) : ltC a b = true ↔ (a.a < b.a ∨ (a.a = b.a ∧ a.b < b.b)) := by unfold ltC; simp
theorem cmpC_neg (a b : T3) : decide (cmpC a b < 0) = ltC a b := by
  have h := cmpC_lt a b
  by_cases hq : 0 ≤ cmpC a b
  · rw [decide_eq_true hq] at h
    have e : ltC a b = false := by simpa using h.symm
    rw [e]; exact decide_eq_false (by omega)
  · rw [decide_eq_false hq] at h
    have e : ltC a b = true := by simpa using h.symm
    rw [e]; exact decide_eq_true (by omega)
theorem cmp3_zero {a b : Int} : cmp3 a b = 0 ↔ a = b := by
  unfold cmp3; split
  · constructor <;> intro h <;> omega
  · split
    · constructor <;> intro h <;> omega
    · constructor <;> intro h <;> omega
theorem cmpC_zero (a b : T3) : cmpC a b = 0 ↔ (a.a = b.a ∧ a.b = b.b) := by
  unfold cmpC
  by_cases h : cmp3 a.a b.a = 0
  · have h1 := cmp3_zero.1 h
    simp only [firstNZ, if_pos h]
    by_cases h2 : cmp3 a.b b.b = 0
    · rw [if_pos h2]; exact ⟨fun _ => ⟨h1, cmp3_zero.1 h2⟩, fun _ => rfl⟩
    · rw [if_neg h2]; exact ⟨fun e => absurd e h2, fun e => absurd (cmp3_zero.2 e.2) h2⟩
  · simp only [firstNZ, if_neg h]
    exact ⟨fun e => absurd e h, fun e => absurd (cmp3_zero.2 e.1) h⟩
/-- Sorted changes: those ahead of the place are less, none behind it is one's own. -/
theorem hasC_at {cs : List T3} {y : T3} {i : Nat} (h1 : ∀ k x, k < i → cs[k]? = some x → ltC x y = true) (h2 : ∀ k x, i ≤ k → cs[k]? = some x → ltC x y = false) (hp : cs.Pairwise fun a b => ltC a b = true) :
    hasC cs y = (match cs[i]? with | some x => decide (cmpC x y = 0) | none => false) := by
  rw [Bool.eq_iff_iff]
  unfold hasC
  rw [List.any_eq_true]
  constructor
  · rintro ⟨x, hx, he⟩
    have he := of_decide_eq_true he
    obtain ⟨k, hk⟩ := List.getElem?_of_mem hx
    by_cases hki : k < i
    · have := (ltC_iff3 _ _).1 (h1 k x hki hk); omega
    · have hil : i < cs.length := by have := lt_of_get hk; omega
      obtain ⟨z, hz⟩ : ∃ z, cs[i]? = some z := ⟨_, List.getElem?_eq_getElem hil⟩
      rw [hz]
      by_cases hik : i = k
      · subst hik; rw [hz] at hk; cases hk
        exact decide_eq_true ((cmpC_zero _ _).2 he)
      · exfalso
        have hzx : ltC z x = true := by
          obtain ⟨h3, rfl⟩ := List.getElem?_eq_some_iff.1 hz
          obtain ⟨h4, rfl⟩ := List.getElem?_eq_some_iff.1 hk
          exact List.pairwise_iff_getElem.1 hp i k h3 h4 (by omega)
        have hzy := h2 i z (Nat.le_refl _) hz
        have h5 := (ltC_iff3 _ _).1 hzx
        have h6 : ¬ (z.a < y.a ∨ (z.a = y.a ∧ z.b < y.b)) := by rw [← ltC_iff3, hzy]; simp
        omega
  · intro h
    cases hz : cs[i]? with
    | none => rw [hz] at h; cases h
    | some z =>
      rw [hz] at h
      exact ⟨z, List.mem_of_getElem? hz, decide_eq_true ((cmpC_zero _ _).1 (of_decide_eq_true h))⟩
theorem ltC_mono {a b y : T3} (h : ltC a b = true) (h2 : ltC b y = true) : ltC a y = true := by
  rw [ltC_iff3] at *; omega
set_option maxRecDepth 100000 in
set_option maxHeartbeats 4000000 in
theorem bsC_any (cs : List T3) (y : T3) (A : Option Addr) (c : Nat) (w : World) (hs : cs.length ≤ 1048576) (hp : cs.Pairwise fun a b => ltC a b = true) (h1 : Rd3 w w.heap.size A cs) :
    Calls Tryd.prog 83 #[.slice A cs.length c, .agg #[.int .i64 y.a, .int .i64 y.b, .int .i64 y.c], .func (.func 84) #[] #[]] w fun e w' => e = .returned (.tuple #[.int .i64 (posC cs y : Nat), .bool (hasC cs y)]) ∧ Below w.heap.size w w' := by
  have hb0 : Below w.heap.size w (w.alloc (.cells #[.int .i64 y.a, .int .i64 y.b, .int .i64 y.c] 41)) := (Below.refl _ _).alloc (Nat.le_refl _) _
  have X0 := hide (BoxN.new w #[.int .i64 y.a, .int .i64 y.b, .int .i64 y.c] 41)
  have HX := hide h1
  have HP := hide hp
  have HB0 := hide hb0
  have hlt0 := X0.out.lt
  clear h1 hp hb0
  go_enter Tryd.func83, Tryd.ntmps83
  go_upto_region 1 with fail
  generalize w.alloc (.cells #[.int .i64 y.a, .int .i64 y.b, .int .i64 y.c] 41) = w1 at *
  go_wp2_with fail
  go_loopg [9, 10] cs.length (fun g iv jv wr => ∃ i j : Nat, i ≤ j ∧ j ≤ cs.length ∧ Hid (g = j - i) ∧ iv = .int .i64 i ∧ jv = .int .i64 j ∧ Hid (∀ k x, k < i → cs[k]? = some x → ltC x y = true) ∧ Hid (∀ k x, j ≤ k → cs[k]? = some x → ltC x y = false) ∧ Hid (Below w1.heap.size w1 wr))
  case atStart => exact ⟨0, cs.length, Nat.zero_le _, Nat.le_refl _, by simp [Hid], rfl, rfl, hide (fun k x hk => absurd hk (Nat.not_lt_zero _)), hide (fun k x hk hx => by have := lt_of_get hx; omega), hide (Below.refl _ _)⟩
  case round =>
    obtain ⟨i, j, hij, hj, hg, rfl, rfl, HL, HG, HB⟩ := hrel
    by_cases hlt : i < j
    · have hlt' : (i : Int) < (j : Int) := by omega
      have hml : (i + j) / 2 < cs.length := by omega
      have hmi : i ≤ (i + j) / 2 := by omega
      have hmj : (i + j) / 2 < j := by omega
      go_upto_region 5 with fail
      have hm : ((i : Int) + (j : Int)) / 2 = (((i + j) / 2 : Nat) : Int) := by omega
      rw [hm]
      clear hm
      generalize (i + j) / 2 = m at *
      obtain ⟨b1, o1, z1, rfl, hb1, hz1, hca, hcb, hcc⟩ := (HX.out.below (HB0.out.trans (HB.out.mono HB0.out.size))).at_ hml
      have hca' : wr.drew.cell? ⟨b1, o1 + m * 3, none⟩ = some (.int .i64 z1.a) := hca
      have hcb' : wr.drew.cell? ⟨b1, o1 + m * 3 + 1, none⟩ = some (.int .i64 z1.b) := hcb
      have hcc' : wr.drew.cell? ⟨b1, o1 + m * 3 + 2, none⟩ = some (.int .i64 z1.c) := hcc
      have XR := hide (X0.out.below HB.out hlt0)
      have hy0 : wr.drew.cell? ⟨w.heap.size, 0, none⟩ = some (.int .i64 y.a) := XR.out.cell 0
      have hy1 : wr.drew.cell? ⟨w.heap.size, 1, none⟩ = some (.int .i64 y.b) := XR.out.cell 1
      have hy2 : wr.drew.cell? ⟨w.heap.size, 2, none⟩ = some (.int .i64 y.c) := XR.out.cell 2
      have BD : Hid (Below w1.heap.size w1 wr.drew) := HB.out.drew
      have hml2 : (m : Int) < (cs.length : Int) := by omega
      have hw1s := HB0.out.size
      have hwrs := BD.out.size
      clear hca hcb hcc XR
      have hcz := cmpC_neg z1 y
      generalize hcm : cmpC z1 y = cz at *
      have HCM := hide hcm
      clear hcm
      have HZ1 := hide hz1
      clear hz1
      refine wp_region_held_drew (S := fun W => W.cell? ⟨b1, o1 + m * 3, none⟩ = some (.int .i64 z1.a) ∧ W.cell? ⟨b1, o1 + m * 3 + 1, none⟩ = some (.int .i64 z1.b) ∧ W.cell? ⟨b1, o1 + m * 3 + 2, none⟩ = some (.int .i64 z1.c) ∧ W.cell? ⟨w.heap.size, 0, none⟩ = some (.int .i64 y.a) ∧ W.cell? ⟨w.heap.size, 1, none⟩ = some (.int .i64 y.b) ∧ W.cell? ⟨w.heap.size, 2, none⟩ = some (.int .i64 y.c)) (by kernel_rfl) (⟨hca', hcb', hcc', hy0, hy1, hy2⟩) (fun hHeld => ?_)
      generalize wr.drew = wd at *
      refine wpAnyH_take (i := 0) (v := ?_) rfl (by kernel_rfl) (by kernel_rfl) (by kernel_rfl) (fun _ _ _ h => h) (Or.inl ⟨by rfl, ?_⟩) (by assumption) ?_
      rotate_left 1
      · (intro w hSw; (try dsimp only at hSw); go_simp; try with_reducible rfl)
      try simp only [Act.put, List.getElem_toArray, List.getElem_cons_succ, List.getElem_cons_zero, List.setIfInBounds_toArray, List.set_cons_zero, List.set_cons_succ]
      refine wpAnyH_take (i := 1) (v := ?_) rfl (by kernel_rfl) (by kernel_rfl) (by kernel_rfl) (fun _ _ _ h => h) (Or.inl ⟨by rfl, ?_⟩) (by assumption) ?_
      rotate_left 1
      · (intro w hSw; (try dsimp only at hSw); go_simp; try with_reducible rfl)
      try simp only [Act.put, List.getElem_toArray, List.getElem_cons_succ, List.getElem_cons_zero, List.setIfInBounds_toArray, List.set_cons_zero, List.set_cons_succ]
      refine wpAnyH_take (i := 2) (v := ?_) rfl (by kernel_rfl) (by kernel_rfl) (by kernel_rfl) (fun _ _ _ h => h) (Or.inl ⟨by rfl, ?_⟩) (by assumption) ?_
      rotate_left 1
      · (intro w hSw; (try dsimp only at hSw); go_simp; try with_reducible rfl)
      try simp only [Act.put, List.getElem_toArray, List.getElem_cons_succ, List.getElem_cons_zero, List.setIfInBounds_toArray, List.set_cons_zero, List.set_cons_succ]
      refine wpAnyH_take (i := 3) (v := ?_) rfl (by kernel_rfl) (by kernel_rfl) (by kernel_rfl) (fun _ _ _ h => h) (Or.inl ⟨by rfl, ?_⟩) (by assumption) ?_
      rotate_left 1
      · (intro w hSw; (try dsimp only at hSw); go_simp; try with_reducible rfl)
      try simp only [Act.put, List.getElem_toArray, List.getElem_cons_succ, List.getElem_cons_zero, List.setIfInBounds_toArray, List.set_cons_zero, List.set_cons_succ]
      refine wpAnyH_take (i := 4) (v := ?_) rfl (by kernel_rfl) (by kernel_rfl) (by kernel_rfl) (fun _ _ _ h => h) (Or.inl ⟨by rfl, ?_⟩) (by assumption) ?_
      rotate_left 1
      · (intro w hSw; (try dsimp only at hSw); go_simp; try with_reducible rfl)
      try simp only [Act.put, List.getElem_toArray, List.getElem_cons_succ, List.getElem_cons_zero, List.setIfInBounds_toArray, List.set_cons_zero, List.set_cons_succ]
      refine wpAnyH_take (i := 5) (v := ?_) rfl (by kernel_rfl) (by kernel_rfl) (by kernel_rfl) (fun _ _ _ h => h) (Or.inl ⟨by rfl, ?_⟩) (by assumption) ?_
      rotate_left 1
      · (intro w hSw; (try dsimp only at hSw); go_simp; try with_reducible rfl)
      try simp only [Act.put, List.getElem_toArray, List.getElem_cons_succ, List.getElem_cons_zero, List.setIfInBounds_toArray, List.set_cons_zero, List.set_cons_succ]
      refine wpAnyH_ready (rs := [6]) (by kernel_rfl) (by simp) ?_
      refine AllReadyH.cons rfl (fun K hK => ?_) AllReadyH.nil
      try simp only [Act.put, List.getElem_toArray, List.getElem_cons_succ, List.getElem_cons_zero, List.setIfInBounds_toArray, List.set_cons_zero, List.set_cons_succ]
      go_simp
      go_at_call 84
      refine (compareChanges_any z1 y wd).mono ?_
      rw [HCM.out]
      rintro e w2 ⟨rfl, s2⟩
      have f0 := (s2.cell (p := ⟨b1, o1 + m * 3, none⟩) (by dsimp only; omega)).trans hca'
      have f1 := (s2.cell (p := ⟨b1, o1 + m * 3 + 1, none⟩) (by dsimp only; omega)).trans hcb'
      have f2 := (s2.cell (p := ⟨b1, o1 + m * 3 + 2, none⟩) (by dsimp only; omega)).trans hcc'
      have f3 := (s2.cell (p := ⟨w.heap.size, 0, none⟩) (by dsimp only; omega)).trans hy0
      have f4 := (s2.cell (p := ⟨w.heap.size, 1, none⟩) (by dsimp only; omega)).trans hy1
      have f5 := (s2.cell (p := ⟨w.heap.size, 2, none⟩) (by dsimp only; omega)).trans hy2
      have B2 := hide (BD.out.trans (s2.mono BD.out.size))
      dsimp only
      clear hca' hcb' hcc' hy0 hy1 hy2
      refine hK.out _ _ (⟨f0, f1, f2, f3, f4, f5⟩) (fun hHeld => ?_)
      clear hK K
      try simp only [Act.put, List.getElem_toArray, List.getElem_cons_succ, List.getElem_cons_zero, List.setIfInBounds_toArray, List.set_cons_zero, List.set_cons_succ]
      refine wpAnyH_take (i := 7) (v := ?_) rfl (by kernel_rfl) (by kernel_rfl) (by kernel_rfl) (fun _ _ _ h => h) (Or.inl ⟨by rfl, ?_⟩) (by assumption) ?_
      rotate_left 1
      · (intro w hSw; (try dsimp only at hSw); go_simp; try with_reducible rfl)
      try simp only [Act.put, List.getElem_toArray, List.getElem_cons_succ, List.getElem_cons_zero, List.setIfInBounds_toArray, List.set_cons_zero, List.set_cons_succ]
      refine wpAnyH_done (by kernel_rfl) ?_ _
      clear f0 f1 f2 f3 f4 f5
      cases hl : ltC z1 y
      · rw [hl] at hcz
        have HG2 : Hid (∀ k x, m ≤ k → cs[k]? = some x → ltC x y = false) := hide fun k x hk hx => (by
          by_cases hkm : k = m
          · subst hkm; rw [HZ1.out] at hx; cases hx; exact hl
          · rw [Bool.eq_false_iff]
            intro hxy
            have hmx : ltC z1 x = true := by
              obtain ⟨h3, e3⟩ := List.getElem?_eq_some_iff.1 HZ1.out
              obtain ⟨h4, e4⟩ := List.getElem?_eq_some_iff.1 hx
              have := List.pairwise_iff_getElem.1 HP.out m k h3 h4 (by omega)
              rw [e3, e4] at this; exact this
            have := ltC_mono hmx hxy
            rw [hl] at this; cases this)
        clear hl
        go_wp2_with fail
        go_roundg (m - i)
        case measure => have := hg.out; omega
        case rel => exact ⟨i, m, hmi, by omega, rfl, rfl, rfl, HL, HG2, B2⟩
      · rw [hl] at hcz
        have HL2 : Hid (∀ k x, k < m + 1 → cs[k]? = some x → ltC x y = true) := hide fun k x hk hx => (by
          by_cases hkm : k = m
          · subst hkm; rw [HZ1.out] at hx; cases hx; exact hl
          · have hxm : ltC x z1 = true := by
              obtain ⟨h3, e3⟩ := List.getElem?_eq_some_iff.1 HZ1.out
              obtain ⟨h4, e4⟩ := List.getElem?_eq_some_iff.1 hx
              have := List.pairwise_iff_getElem.1 HP.out k m h4 h3 (by omega)
              rw [e3, e4] at this; exact this
            exact ltC_mono hxm hl)
        clear hl
        go_wp2_with fail
        go_roundg (j - (m + 1))
        case measure => have := hg.out; omega
        case rel => exact ⟨m + 1, j, by omega, hj, rfl, by go_num, rfl, HL2, HG, B2⟩
    · obtain rfl : i = j := by omega
      have hpos := pos_eq (c := y) hj HL.out (fun x hx => HG.out i x (Nat.le_refl _) hx)
      have hhas := hasC_at HL.out HG.out HP.out
      by_cases hin : i < cs.length
      · have hml : i < cs.length := hin
        obtain ⟨b1, o1, z1, rfl, hb1, hz1, hca, hcb, hcc⟩ := (HX.out.below (HB0.out.trans (HB.out.mono HB0.out.size))).at_ hml
        have hca' : wr.drew.cell? ⟨b1, o1 + i * 3, none⟩ = some (.int .i64 z1.a) := hca
        have hcb' : wr.drew.cell? ⟨b1, o1 + i * 3 + 1, none⟩ = some (.int .i64 z1.b) := hcb
        have hcc' : wr.drew.cell? ⟨b1, o1 + i * 3 + 2, none⟩ = some (.int .i64 z1.c) := hcc
        have XR := hide (X0.out.below HB.out hlt0)
        have hy0 : wr.drew.cell? ⟨w.heap.size, 0, none⟩ = some (.int .i64 y.a) := XR.out.cell 0
        have hy1 : wr.drew.cell? ⟨w.heap.size, 1, none⟩ = some (.int .i64 y.b) := XR.out.cell 1
        have hy2 : wr.drew.cell? ⟨w.heap.size, 2, none⟩ = some (.int .i64 y.c) := XR.out.cell 2
        have BD : Hid (Below w1.heap.size w1 wr.drew) := HB.out.drew
        have hml2 : (i : Int) < (cs.length : Int) := by omega
        have hw1s := HB0.out.size
        have hwrs := BD.out.size
        clear hca hcb hcc XR
        rw [hz1] at hhas
        replace hhas : hasC cs y = (cmpC z1 y == 0) := by rw [hhas, Bool.eq_iff_iff]; simp
        have HPO := hide hpos
        have HHA := hide hhas
        clear hhas hpos hz1
        go_upto_region 8 with fail
        refine wp_region_held_drew (S := fun W => W.cell? ⟨b1, o1 + i * 3, none⟩ = some (.int .i64 z1.a) ∧ W.cell? ⟨b1, o1 + i * 3 + 1, none⟩ = some (.int .i64 z1.b) ∧ W.cell? ⟨b1, o1 + i * 3 + 2, none⟩ = some (.int .i64 z1.c) ∧ W.cell? ⟨w.heap.size, 0, none⟩ = some (.int .i64 y.a) ∧ W.cell? ⟨w.heap.size, 1, none⟩ = some (.int .i64 y.b) ∧ W.cell? ⟨w.heap.size, 2, none⟩ = some (.int .i64 y.c)) (by kernel_rfl) (⟨hca', hcb', hcc', hy0, hy1, hy2⟩) (fun hHeld => ?_)
        generalize wr.drew = wd at *
        refine wpAnyH_take (i := 0) (v := ?_) rfl (by kernel_rfl) (by kernel_rfl) (by kernel_rfl) (fun _ _ _ h => h) (Or.inl ⟨by rfl, ?_⟩) (by assumption) ?_
        rotate_left 1
        · (intro w hSw; (try dsimp only at hSw); go_simp; try with_reducible rfl)
        try simp only [Act.put, List.getElem_toArray, List.getElem_cons_succ, List.getElem_cons_zero, List.setIfInBounds_toArray, List.set_cons_zero, List.set_cons_succ]
        refine wpAnyH_take (i := 1) (v := ?_) rfl (by kernel_rfl) (by kernel_rfl) (by kernel_rfl) (fun _ _ _ h => h) (Or.inl ⟨by rfl, ?_⟩) (by assumption) ?_
        rotate_left 1
        · (intro w hSw; (try dsimp only at hSw); go_simp; try with_reducible rfl)
        try simp only [Act.put, List.getElem_toArray, List.getElem_cons_succ, List.getElem_cons_zero, List.setIfInBounds_toArray, List.set_cons_zero, List.set_cons_succ]
        refine wpAnyH_take (i := 2) (v := ?_) rfl (by kernel_rfl) (by kernel_rfl) (by kernel_rfl) (fun _ _ _ h => h) (Or.inl ⟨by rfl, ?_⟩) (by assumption) ?_
        rotate_left 1
        · (intro w hSw; (try dsimp only at hSw); go_simp; try with_reducible rfl)
        try simp only [Act.put, List.getElem_toArray, List.getElem_cons_succ, List.getElem_cons_zero, List.setIfInBounds_toArray, List.set_cons_zero, List.set_cons_succ]
        refine wpAnyH_take (i := 3) (v := ?_) rfl (by kernel_rfl) (by kernel_rfl) (by kernel_rfl) (fun _ _ _ h => h) (Or.inl ⟨by rfl, ?_⟩) (by assumption) ?_
        rotate_left 1
        · (intro w hSw; (try dsimp only at hSw); go_simp; try with_reducible rfl)
        try simp only [Act.put, List.getElem_toArray, List.getElem_cons_succ, List.getElem_cons_zero, List.setIfInBounds_toArray, List.set_cons_zero, List.set_cons_succ]
        refine wpAnyH_take (i := 4) (v := ?_) rfl (by kernel_rfl) (by kernel_rfl) (by kernel_rfl) (fun _ _ _ h => h) (Or.inl ⟨by rfl, ?_⟩) (by assumption) ?_
        rotate_left 1
        · (intro w hSw; (try dsimp only at hSw); go_simp; try with_reducible rfl)
        try simp only [Act.put, List.getElem_toArray, List.getElem_cons_succ, List.getElem_cons_zero, List.setIfInBounds_toArray, List.set_cons_zero, List.set_cons_succ]
        refine wpAnyH_take (i := 5) (v := ?_) rfl (by kernel_rfl) (by kernel_rfl) (by kernel_rfl) (fun _ _ _ h => h) (Or.inl ⟨by rfl, ?_⟩) (by assumption) ?_
        rotate_left 1
        · (intro w hSw; (try dsimp only at hSw); go_simp; try with_reducible rfl)
        try simp only [Act.put, List.getElem_toArray, List.getElem_cons_succ, List.getElem_cons_zero, List.setIfInBounds_toArray, List.set_cons_zero, List.set_cons_succ]
        refine wpAnyH_take (i := 6) (v := ?_) rfl (by kernel_rfl) (by kernel_rfl) (by kernel_rfl) (fun _ _ _ h => h) (Or.inl ⟨by rfl, ?_⟩) (by assumption) ?_
        rotate_left 1
        · (intro w hSw; (try dsimp only at hSw); go_simp; try with_reducible rfl)
        try simp only [Act.put, List.getElem_toArray, List.getElem_cons_succ, List.getElem_cons_zero, List.setIfInBounds_toArray, List.set_cons_zero, List.set_cons_succ]
        refine wpAnyH_take (i := 7) (v := ?_) rfl (by kernel_rfl) (by kernel_rfl) (by kernel_rfl) (fun _ _ _ h => h) (Or.inl ⟨by rfl, ?_⟩) (by assumption) ?_
        rotate_left 1
        · (intro w hSw; (try dsimp only at hSw); go_simp; try with_reducible rfl)
        try simp only [Act.put, List.getElem_toArray, List.getElem_cons_succ, List.getElem_cons_zero, List.setIfInBounds_toArray, List.set_cons_zero, List.set_cons_succ]
        refine wpAnyH_take (i := 8) (v := ?_) rfl (by kernel_rfl) (by kernel_rfl) (by kernel_rfl) (fun _ _ _ h => h) (Or.inl ⟨by rfl, ?_⟩) (by assumption) ?_
        rotate_left 1
        · (intro w hSw; (try dsimp only at hSw); go_simp; try with_reducible rfl)
        try simp only [Act.put, List.getElem_toArray, List.getElem_cons_succ, List.getElem_cons_zero, List.setIfInBounds_toArray, List.set_cons_zero, List.set_cons_succ]
        refine wpAnyH_take (i := 9) (v := ?_) rfl (by kernel_rfl) (by kernel_rfl) (by kernel_rfl) (fun _ _ _ h => h) (Or.inl ⟨by rfl, ?_⟩) (by assumption) ?_
        rotate_left 1
        · (intro w hSw; (try dsimp only at hSw); go_simp; try with_reducible rfl)
        try simp only [Act.put, List.getElem_toArray, List.getElem_cons_succ, List.getElem_cons_zero, List.setIfInBounds_toArray, List.set_cons_zero, List.set_cons_succ]
        refine wpAnyH_take (i := 10) (v := ?_) rfl (by kernel_rfl) (by kernel_rfl) (by kernel_rfl) (fun _ _ _ h => h) (Or.inl ⟨by rfl, ?_⟩) (by assumption) ?_
        rotate_left 1
        · (intro w hSw; (try dsimp only at hSw); go_simp; try with_reducible rfl)
        try simp only [Act.put, List.getElem_toArray, List.getElem_cons_succ, List.getElem_cons_zero, List.setIfInBounds_toArray, List.set_cons_zero, List.set_cons_succ]
        refine wpAnyH_ready (rs := [11]) (by kernel_rfl) (by simp) ?_
        refine AllReadyH.cons rfl (fun K hK => ?_) AllReadyH.nil
        try simp only [Act.put, List.getElem_toArray, List.getElem_cons_succ, List.getElem_cons_zero, List.setIfInBounds_toArray, List.set_cons_zero, List.set_cons_succ]
        go_simp
        go_at_call 84
        refine (compareChanges_any z1 y wd).mono ?_
        rintro e w2 ⟨rfl, s2⟩
        have f0 := (s2.cell (p := ⟨b1, o1 + i * 3, none⟩) (by dsimp only; omega)).trans hca'
        have f1 := (s2.cell (p := ⟨b1, o1 + i * 3 + 1, none⟩) (by dsimp only; omega)).trans hcb'
        have f2 := (s2.cell (p := ⟨b1, o1 + i * 3 + 2, none⟩) (by dsimp only; omega)).trans hcc'
        have f3 := (s2.cell (p := ⟨w.heap.size, 0, none⟩) (by dsimp only; omega)).trans hy0
        have f4 := (s2.cell (p := ⟨w.heap.size, 1, none⟩) (by dsimp only; omega)).trans hy1
        have f5 := (s2.cell (p := ⟨w.heap.size, 2, none⟩) (by dsimp only; omega)).trans hy2
        have B2 := hide (BD.out.trans (s2.mono BD.out.size))
        dsimp only
        refine hK.out _ _ (⟨f0, f1, f2, f3, f4, f5⟩) (fun hHeld => ?_)
        clear hK K
        try simp only [Act.put, List.getElem_toArray, List.getElem_cons_succ, List.getElem_cons_zero, List.setIfInBounds_toArray, List.set_cons_zero, List.set_cons_succ]
        refine wpAnyH_take (i := 12) (v := ?_) rfl (by kernel_rfl) (by kernel_rfl) (by kernel_rfl) (fun _ _ _ h => h) (Or.inl ⟨by rfl, ?_⟩) (by assumption) ?_
        rotate_left 1
        · (intro w hSw; (try dsimp only at hSw); go_simp; try with_reducible rfl)
        try simp only [Act.put, List.getElem_toArray, List.getElem_cons_succ, List.getElem_cons_zero, List.setIfInBounds_toArray, List.set_cons_zero, List.set_cons_succ]
        refine wpAnyH_take (i := 13) (v := ?_) rfl (by kernel_rfl) (by kernel_rfl) (by kernel_rfl) (fun _ _ _ h => h) (Or.inl ⟨by rfl, ?_⟩) (by assumption) ?_
        rotate_left 1
        · (intro w hSw; (try dsimp only at hSw); go_simp; try with_reducible rfl)
        try simp only [Act.put, List.getElem_toArray, List.getElem_cons_succ, List.getElem_cons_zero, List.setIfInBounds_toArray, List.set_cons_zero, List.set_cons_succ]
        refine wpAnyH_take (i := 14) (v := ?_) rfl (by kernel_rfl) (by kernel_rfl) (by kernel_rfl) (fun _ _ _ h => h) (Or.inl ⟨by rfl, ?_⟩) (by assumption) ?_
        rotate_left 1
        · (intro w hSw; (try dsimp only at hSw); go_simp; try with_reducible rfl)
        try simp only [Act.put, List.getElem_toArray, List.getElem_cons_succ, List.getElem_cons_zero, List.setIfInBounds_toArray, List.set_cons_zero, List.set_cons_succ]
        refine wpAnyH_take (i := 15) (v := ?_) rfl (by kernel_rfl) (by kernel_rfl) (by kernel_rfl) (fun _ _ _ h => h) (Or.inl ⟨by rfl, ?_⟩) (by assumption) ?_
        rotate_left 1
        · (intro w hSw; (try dsimp only at hSw); go_simp; try with_reducible rfl)
        try simp only [Act.put, List.getElem_toArray, List.getElem_cons_succ, List.getElem_cons_zero, List.setIfInBounds_toArray, List.set_cons_zero, List.set_cons_succ]
        refine wpAnyH_done (by kernel_rfl) ?_ _
        go_wp2_with fail
        exact bodyPost_ret (v := .tuple #[.int .i64 i, .bool (cmpC z1 y == 0)]) (by simp [results, Tryd.results83, go_sem]) rfl ⟨by rw [HPO.out, HHA.out], HB0.out.trans (B2.out.mono HB0.out.size)⟩
      · replace hhas : hasC cs y = false := by rw [hhas, List.getElem?_eq_none (by omega)]
        obtain rfl : i = cs.length := by omega
        have HPO := hide hpos
        have HHA := hide hhas
        clear hhas hpos
        go_wp2_with fail
        go_quiet (fail)
        go_wp2_with fail
        exact bodyPost_ret (v := .tuple #[.int .i64 cs.length, .bool false]) (by simp [results, Tryd.results83, go_sem]) rfl ⟨by rw [HPO.out, HHA.out], HB0.out.trans ((bdn HB.out _).mono HB0.out.size)⟩
end Go.Proofs.YtofjnmeblmbnmaaDoor
