/-
  Runs: copies of their own, and a run delayed; in the program and in the reference.
-/
import Derived.Test.YtfhociekhffjhaaRunV
import Derived.Test.YtfhociekhffjhaaNestM
import Derived.Test.YtfhociekhffjhaaLib
import Derived.Deep.RegionHeld3
namespace Go.Proofs.Ytfhociekhffjhaa
open Go.RowKit

section
variable {P : Program}
theorem op_app {o : Oper} {a : Act} {K : Act → World → Prop} {Q : Exit → Act → World → Prop} (w : World) (s x : Operand) (t : TypeId)
    (ho : o.op = .call { callee := .builtin .append, args := #[s, x], argTypes := #[t, t] })
    (base : Nat) (e : TypeId) (i : TypeInfo) (z : Value) (size bytes : Nat) (ht : P.underlying t = some (.slice e)) (hi : P.info? e = some i) (hz : i.zero = some z)
    (hsize : i.size = size) (hby : i.bytes = bytes) (hzs : z.cells.size = size) (hsz : 0 < size)
    (v : Value) (n : Nat) (xs : List Value) (hs : a.eval s = v) (hown : w.ownsRow base e size v n xs)
    (B : Nat) (A : Option Addr) (m c : Nat) (news : List Value) (hx : a.eval x = .slice A m c) (hl : news.length = m * size) (hr : Rd w B A news) (h1 : ∀ u ∈ news, u.oneCell' = true)
    (hn : n + m ≤ 1099511627776) (hb : bytes ≤ 64) (hbase : base ≤ w.heap.size)
    (h : ∀ v' w', w'.ownsRow base e size v' (n + m) (xs ++ news) → w.grownBy w' v.ownBlock → (v'.ownBlock = v.ownBlock ∨ v'.ownBlock = some w.heap.size) → K (a.put o.dst v') w') :
    o.wp P a w K Q := by
  obtain ⟨v', w', hrun, h2, h3, h4⟩ := run_app (P := P) w base t o.type e i z size bytes ht hi hz hsize hby hzs hsz v n xs hown B A m c news hl hr h1 (by unfold maxLen; omega)
    (Nat.le_trans (Nat.mul_le_mul hn hb) (by omega)) hbase
  unfold Oper.wp execOp
  simp only [ho, resolve, invoke, builtin, Sem.run_bind, Sem.run_pure, Result.andThen_ok, List.map_toArray, List.map_cons, List.map_nil, hs, hx, hrun]
  exact h v' w' h2 h3 h4
end
theorem famO_grown {w w' : World} {v v' : Value} {lo : Nat} {ps : List (Value × TN)} {T : TypeId} {s n : Nat} {xs : List Value} (h : FamO w v.ownBlock lo w.heap.size ps) (ho : w.ownsRow lo T s v n xs) (hg : w.grownBy w' v.ownBlock) (hb : v'.ownBlock = v.ownBlock ∨ v'.ownBlock = some w.heap.size) : FamO w' v'.ownBlock lo w'.heap.size ps := by
  have key : ∀ {ps : List (Value × TN)} {lo' : Nat}, FamO w v.ownBlock lo' w.heap.size ps → FamO w' v'.ownBlock lo' w'.heap.size ps := by
    intro ps
    induction ps with
    | nil => intro lo' _; trivial
    | cons p ps ih =>
      intro lo' h
      obtain ⟨a, b, h1, h2, h3, h4, h5, h6⟩ := h
      refine ⟨a, b, h1, h2, Nat.le_trans h3 hg.size, fun g hgg => ?_, ?_, ih h6⟩
      · rcases hb with h | h
        · exact h4 g (by rw [← h]; exact hgg)
        · rw [h] at hgg; cases hgg; exact .inl h3
      · cases hv : v.ownBlock with
        | none =>
          rw [hv] at hg
          exact h5.below (B := w.heap.size) ⟨hg.os, hg.tape, hg.output, hg.size, fun k hk => hg.block k hk (by simp)⟩ h3
        | some g0 =>
          have hg0 := (ho.lt g0 hv).2
          rw [hv] at hg
          exact h5.kept (lo' := g0) (hi' := g0 + 1) ⟨hg.os, hg.tape, hg.output, hg.size, fun k hk ho' => hg.block k hk (by simp; omega)⟩ (by have := h4 g0 hv; omega)
  exact key h
set_option maxRecDepth 100000 in
set_option maxHeartbeats 4000000 in
theorem copyRuns_any (x : List TN) (A : Option Addr) (c : Nat) (w : World) (hs : SmallN x) (h1 : RN 1 w w.heap.size A x) :
    Calls Try.prog 160 #[.slice A x.length c] w fun e w' => ∃ v', e = .returned v' ∧ O_RunS w' w.heap.size w'.heap.size v' x ∧ Below w.heap.size w w' := by
  have hxl : x.length ≤ 1048576 := by unfold SmallN at hs; omega
  obtain ⟨i0, hi0, hz0, hs0, hb0⟩ := info_parts RunS_info
  have HX := hide h1
  have HS := hide hs
  clear h1 hs
  go_enter Try.func160, Try.ntmps160
  go_wp2_with fail
  have ho1 := own_new0 w w.heap.size 34 2 (Nat.le_refl _)
  have hb1 : Below w.heap.size w (w.alloc (.cells #[] 34)) := (Below.refl _ _).alloc (Nat.le_refl _) _
  go_loopg [3, 9] x.length (fun g s i wr => ∃ (k : Nat) (ps : List (Value × TN)), k ≤ x.length ∧ Hid (g = x.length - k) ∧ i = .int .i64 k ∧ Hid (ps.map (·.2) = x.take k) ∧ wr.ownsRow w.heap.size 34 2 s k (ps.flatMap (Nc 1)) ∧ Hid (FamO wr s.ownBlock w.heap.size wr.heap.size ps) ∧ Below w.heap.size w wr)
  case atStart => exact ⟨0, [], by omega, by simp [Hid], rfl, by simp [Hid], ho1, trivial, hb1⟩
  case round =>
    obtain ⟨k, ps, hk, hg, rfl, HP, hown, HF, hb⟩ := hrel
    clear ho1 hb1
    by_cases hlt : k < x.length
    · obtain ⟨b1, o1, z1, Aw, cw, rfl, hbb, hz1, hrw, hn0, hc1, hc2⟩ := (HX.out.below hb).at_ (by omega) hlt
      have hn1 := hc1 (by omega)
      clear hc1 hc2
      have hwl := HS.out.way hz1
      have Z1 := hide hz1
      clear hz1
      have C0 := hide (BoxN.new wr #[.slice Aw z1.way.length cw, .int .i64 z1.p] 34)
      have hba := hb.alloc hb.size (.cells #[.slice Aw z1.way.length cw, .int .i64 z1.p] 34)
      have hoa := hown.alloc (.cells #[.slice Aw z1.way.length cw, .int .i64 z1.p] 34)
      have hsw : wr.heap.size + 1 ≤ (wr.alloc (.cells #[.slice Aw z1.way.length cw, .int .i64 z1.p] 34)).heap.size := by simp
      have bra : Below wr.heap.size wr (wr.alloc (.cells #[.slice Aw z1.way.length cw, .int .i64 z1.p] 34)) := (Below.refl _ _).alloc (Nat.le_refl _) _
      go_wp2_with fail
      generalize (wr.alloc (.cells #[.slice Aw z1.way.length cw, .int .i64 z1.p] 34)) = wb at *
      have e0 : wb.drew.cell? ⟨wr.heap.size, 0, none⟩ = some (.slice Aw z1.way.length cw) := by have := C0.out.cell 0; simpa using this
      have e1 : wb.drew.cell? ⟨wr.heap.size, 1, none⟩ = some (.int .i64 z1.p) := by have := C0.out.cell 1; simpa using this
      have bd := hba.drew
      have bre : Below wr.heap.size wr wb.drew := bra.drew
      have hsd : wr.heap.size + 1 ≤ wb.drew.heap.size := hsw
      have hod : wb.drew.ownsRow w.heap.size 34 2 u3 k (ps.flatMap (Nc 1)) := hoa
      have HC := hide (cloneI_any z1.way Aw cw wb.drew hwl ((hrw.below (bre.mono hb.size)).more (Nat.le_trans hb.size bre.size)))
      clear hrw hn0 hn1 hba hoa bra
      refine wp_region_held_drew (S := fun W => W.cell? ⟨wr.heap.size, 0, none⟩ = some (.slice Aw z1.way.length cw) ∧ W.cell? ⟨wr.heap.size, 1, none⟩ = some (.int .i64 z1.p)) (by kernel_rfl) (⟨e0, e1⟩) (fun hHeld => ?_)
      refine wpAnyH_take (i := 0) (v := ?_) rfl (by kernel_rfl) (by kernel_rfl) (by kernel_rfl) (fun _ _ _ h => h) (Or.inl ⟨by rfl, ?_⟩) (by assumption) ?_
      rotate_left 1
      · (intro w hSw; (try dsimp only at hSw); go_simp; try with_reducible rfl)
      try simp only [Act.put, List.getElem_toArray, List.getElem_cons_succ, List.getElem_cons_zero, List.setIfInBounds_toArray, List.set_cons_zero, List.set_cons_succ]
      refine wpAnyH_take (i := 1) (v := ?_) rfl (by kernel_rfl) (by kernel_rfl) (by kernel_rfl) (fun _ _ _ h => h) (Or.inl ⟨by rfl, ?_⟩) (by assumption) ?_
      rotate_left 1
      · (intro w hSw; (try dsimp only at hSw); go_simp; try with_reducible rfl)
      try simp only [Act.put, List.getElem_toArray, List.getElem_cons_succ, List.getElem_cons_zero, List.setIfInBounds_toArray, List.set_cons_zero, List.set_cons_succ]
      refine wpAnyH_take (i := 2) (v := ?_) rfl (by kernel_rfl) (by kernel_rfl) (by kernel_rfl) (fun _ _ _ h => h) (Or.inl ⟨by rfl, ?_⟩) (by assumption) ?_
      rotate_left 1
      · (intro w hSw; (try dsimp only at hSw); go_simp; try with_reducible rfl)
      try simp only [Act.put, List.getElem_toArray, List.getElem_cons_succ, List.getElem_cons_zero, List.setIfInBounds_toArray, List.set_cons_zero, List.set_cons_succ]
      refine wpAnyH_take (i := 4) (v := ?_) rfl (by kernel_rfl) (by kernel_rfl) (by kernel_rfl) (fun _ _ _ h => h) (Or.inl ⟨by rfl, ?_⟩) (by assumption) ?_
      rotate_left 1
      · (intro w hSw; (try dsimp only at hSw); go_simp; try with_reducible rfl)
      try simp only [Act.put, List.getElem_toArray, List.getElem_cons_succ, List.getElem_cons_zero, List.setIfInBounds_toArray, List.set_cons_zero, List.set_cons_succ]
      refine wpAnyH_take (i := 5) (v := ?_) rfl (by kernel_rfl) (by kernel_rfl) (by kernel_rfl) (fun _ _ _ h => h) (Or.inl ⟨by rfl, ?_⟩) (by assumption) ?_
      rotate_left 1
      · (intro w hSw; (try dsimp only at hSw); go_simp; try with_reducible rfl)
      try simp only [Act.put, List.getElem_toArray, List.getElem_cons_succ, List.getElem_cons_zero, List.setIfInBounds_toArray, List.set_cons_zero, List.set_cons_succ]
      refine wpAnyH_ready (rs := [3]) (by kernel_rfl) (by simp) ?_
      refine AllReadyH.cons rfl (fun K hK => ?_) AllReadyH.nil
      try simp only [Act.put, List.getElem_toArray, List.getElem_cons_succ, List.getElem_cons_zero, List.setIfInBounds_toArray, List.set_cons_zero, List.set_cons_succ]
      go_simp
      go_at_call 122
      refine HC.out.mono ?_
      rintro e w2 ⟨A3, c3, rfl, ho3, s2⟩
      have f0 := (s2.cell (p := ⟨wr.heap.size, 0, none⟩) (by dsimp only; omega)).trans e0
      have f1 := (s2.cell (p := ⟨wr.heap.size, 1, none⟩) (by dsimp only; omega)).trans e1
      dsimp only
      refine hK.out _ _ (⟨f0, f1⟩) (fun hHeld => ?_)
      clear hK K
      try simp only [Act.put, List.getElem_toArray, List.getElem_cons_succ, List.getElem_cons_zero, List.setIfInBounds_toArray, List.set_cons_zero, List.set_cons_succ]
      refine wpAnyH_take (i := 6) (v := ?_) rfl (by kernel_rfl) (by kernel_rfl) (by kernel_rfl) (fun _ _ _ h => h) (Or.inl ⟨by rfl, ?_⟩) (by assumption) ?_
      rotate_left 1
      · (intro w hSw; (try dsimp only at hSw); go_simp; try with_reducible rfl)
      try simp only [Act.put, List.getElem_toArray, List.getElem_cons_succ, List.getElem_cons_zero, List.setIfInBounds_toArray, List.set_cons_zero, List.set_cons_succ]
      refine wpAnyH_ready (rs := [7]) (by kernel_rfl) (by simp) ?_
      refine AllReadyH.cons rfl (fun K hK => ?_) AllReadyH.nil
      try simp only [Act.put, List.getElem_toArray, List.getElem_cons_succ, List.getElem_cons_zero, List.setIfInBounds_toArray, List.set_cons_zero, List.set_cons_succ]
      go_simp
      have g0 : (w2.alloc (.cells #[.slice A3 z1.way.length c3, .int .i64 z1.p] 34)).cell? ⟨wr.heap.size, 0, none⟩ = some (.slice Aw z1.way.length cw) := (World.cell?_alloc_old _ _ _ (by dsimp only; have := s2.size; omega)).trans f0
      have g1 : (w2.alloc (.cells #[.slice A3 z1.way.length c3, .int .i64 z1.p] 34)).cell? ⟨wr.heap.size, 1, none⟩ = some (.int .i64 z1.p) := (World.cell?_alloc_old _ _ _ (by dsimp only; have := s2.size; omega)).trans f1
      refine hK.out _ _ (⟨g0, g1⟩) (fun hHeld => ?_)
      clear hK K
      try simp only [Act.put, List.getElem_toArray, List.getElem_cons_succ, List.getElem_cons_zero, List.setIfInBounds_toArray, List.set_cons_zero, List.set_cons_succ]
      have hz2 := s2.size
      have hown2 := own_below hod s2 (Nat.le_refl _)
      have hown3 := hown2.alloc (.cells #[.slice A3 z1.way.length c3, .int .i64 z1.p] 34)
      have hb2 := bd.trans (s2.mono bd.size)
      have hb3 := hb2.alloc hb2.size (.cells #[.slice A3 z1.way.length c3, .int .i64 z1.p] 34)
      have o3 : O_Int64S w2 wb.drew.heap.size w2.heap.size (.slice A3 z1.way.length c3) z1.way := OwnV.of_row ho3 hwl
      have hlg := hide fun g h => (hown.lt g h).2
      have F2 : FamO w2 u3.ownBlock w.heap.size w2.heap.size (ps ++ [(.slice A3 z1.way.length c3, z1)]) :=
        (HF.out.below (bre.trans (s2.mono bre.size)) (Nat.le_refl _)).snoc (hi := w2.heap.size) (p := (.slice A3 z1.way.length c3, z1)) (by omega) hz2 (Nat.le_refl _) (fun g hg => by have := hlg.out g hg; omega) o3 hb.size
      have hsa : w2.heap.size + 1 ≤ (w2.alloc (.cells #[.slice A3 z1.way.length c3, .int .i64 z1.p] 34)).heap.size := by simp
      have F3 := (F2.below ((Below.refl _ w2).alloc (Nat.le_refl _) (.cells #[.slice A3 z1.way.length c3, .int .i64 z1.p] 34)) (Nat.le_refl _)).widen (hi' := (w2.alloc (.cells #[.slice A3 z1.way.length c3, .int .i64 z1.p] 34)).heap.size) (by omega) (Nat.le_refl _)
      have hrd := rd_new w2 [.slice A3 z1.way.length c3, .int .i64 z1.p] 34 _ rfl
      refine wpAnyH_ready (rs := [8]) (by kernel_rfl) (by simp) ?_
      refine AllReadyH.cons rfl (fun K hK => ?_) AllReadyH.nil
      try simp only [Act.put, List.getElem_toArray, List.getElem_cons_succ, List.getElem_cons_zero, List.setIfInBounds_toArray, List.set_cons_zero, List.set_cons_succ]
      rw [if_pos (by rfl)]
      refine op_app _ _ _ 26 rfl w.heap.size 34 i0 (.agg #[.slice none 0 0, .int .i64 0]) 2 32 Try.underlying26 hi0 hz0 hs0 hb0 rfl (by decide) _ _ _ rfl hown3 _ _ 1 1 [.slice A3 z1.way.length c3, .int .i64 z1.p] rfl rfl hrd (by intro u hu; simp at hu; rcases hu with rfl | rfl <;> rfl) (by omega) (by decide) hb3.size ?_
      intro v' w4 hown' hgrow hat
      have hk4 : ∀ j : Nat, w4.cell? ⟨wr.heap.size, j, none⟩ = (w2.alloc (.cells #[.slice A3 z1.way.length c3, .int .i64 z1.p] 34)).cell? ⟨wr.heap.size, j, none⟩ := fun j => World.cell?_of_block (a := ⟨wr.heap.size, j, none⟩) (hgrow.block wr.heap.size (by omega) fun e => by have := hlg.out _ e.symm; omega)
      have F4 := famO_grown F3 hown3 hgrow hat
      have hb4 := app_below hb3 hown3 hgrow (Nat.le_refl _) hb3.size
      have j0 := (hk4 0).trans g0
      have j1 := (hk4 1).trans g1
      dsimp only
      refine hK.out _ _ (⟨j0, j1⟩) (fun hHeld => ?_)
      clear hK K
      try simp only [Act.put, List.getElem_toArray, List.getElem_cons_succ, List.getElem_cons_zero, List.setIfInBounds_toArray, List.set_cons_zero, List.set_cons_succ]
      refine wpAnyH_take (i := 9) (v := ?_) rfl (by kernel_rfl) (by kernel_rfl) (by kernel_rfl) (fun _ _ _ h => h) (Or.inl ⟨by rfl, ?_⟩) (by assumption) ?_
      rotate_left 1
      · (intro w hSw; (try dsimp only at hSw); go_simp; try with_reducible rfl)
      try simp only [Act.put, List.getElem_toArray, List.getElem_cons_succ, List.getElem_cons_zero, List.setIfInBounds_toArray, List.set_cons_zero, List.set_cons_succ]
      refine wpAnyH_done (by kernel_rfl) ?_ _
      go_wp2_with fail
      go_roundg (x.length - (k + 1))
      case measure => have := hg.out; omega
      case rel =>
        refine ⟨k + 1, ps ++ [(.slice A3 z1.way.length c3, z1)], by omega, rfl, by go_num, ?_, by rw [List.flatMap_append]; exact hown', hide F4, hb4⟩
        unfold Hid; rw [List.map_append, HP.out, take_next Z1.out]; rfl
    · obtain rfl : k = x.length := by omega
      have hP := HP.out
      rw [List.take_length] at hP
      go_wp2_with fail
      go_ret
      exact ⟨_, rfl, ⟨ps, hP, OwnV.of_row hown hxl, HF.out, HS.out⟩, hb⟩
set_option maxRecDepth 100000 in
set_option maxHeartbeats 1000000 in
theorem l00OwnN_any (xs : List Int) (A : Option Addr) (c : Nat) (w : World) (hx : xs.length ≤ 1048576) (h1 : RdI w w.heap.size A xs) :
    Calls Try.prog 125 #[.slice A xs.length c] w fun e w' => ∃ A' c', e = .returned (.slice A' xs.length c') ∧ w'.ownsRow w.heap.size 2 1 (.slice A' xs.length c') xs.length (xs.map (Value.int .i64)) ∧ Below w.heap.size w w' := by
  obtain ⟨i0, hi0, hz0, hs0, hb0⟩ := info_parts int64_info
  have HX := hide h1; clear h1
  go_enter Try.func125, Try.ntmps125
  have ho0 := own_new0 w w.heap.size 2 1 (Nat.le_refl _)
  have hb1 : Below w.heap.size w (w.alloc (.cells #[] 2)) := (Below.refl _ _).alloc (Nat.le_refl _) _
  have HR := hide (Rd.below HX.out hb1)
  go_wp2_with (at_builtin; go_must (refine wp_app _ rfl _ _ 24 rfl w.heap.size 2 i0 (.int .i64 0) 1 8 Try.underlying24 hi0 hz0 hs0 hb0 rfl (by decide) _ _ _ rfl ho0 _ _ xs.length c _ rfl (by simp) HR.out (ints_one _) (by omega) (by decide) (by simp) ?_); intro v' w1 hown' hgrow hat)
  go_ret
  simp only [Nat.zero_add, List.nil_append] at hown'
  obtain ⟨A', c', rfl, _⟩ := own_shape hown'
  exact ⟨A', c', rfl, hown', app_below hb1 ho0 hgrow (Nat.le_refl _) (by simp)⟩

def lateR (x : List TN) (k by_ : Int) : List TN := match x[k.toNat]? with | none => x | some e => x.set k.toNat ⟨e.way, e.p + by_, e.q⟩
def delayRun (ts : List Int) (x : List TN) (k by_ : Int) : List TN × Int :=
  if vRuns ts x = true then (if (0 ≤ k ∧ k ≤ (x.length : Int) - 1) ∧ (0 ≤ by_ ∧ by_ ≤ 100000) then (if ((x[k.toNat]?).map fun e => e.p + by_).getD 0 ≤ 100000 then (lateR x k by_, 0) else ([], 5)) else ([], 2)) else ([], 1)
theorem onl_set {T : TypeId} {w : World} {lo hi n g c i : Nat} {x : List TN} {e : TN} {a : Int} (h : ON T 1 w lo hi (.slice (some ⟨g, 0, none⟩) n c) x) (hi' : x[i]? = some e) (hg : lo ≤ g ∧ g < hi) : ON T 1 (w.setCell ⟨g, i * 2 + 1, none⟩ (.int .i64 a)) lo hi (.slice (some ⟨g, 0, none⟩) n c) (x.set i ⟨e.way, a, e.q⟩) := by
  obtain ⟨ps, hP, hO, hF, hS⟩ := h
  obtain ⟨p, hp, hp2⟩ : ∃ p, ps[i]? = some p ∧ p.2 = e := by
    rw [← hP, List.getElem?_map] at hi'
    cases hq : ps[i]? with
    | none => rw [hq] at hi'; cases hi'
    | some p => rw [hq] at hi'; exact ⟨p, rfl, Option.some.inj hi'⟩
  refine ⟨ps.set i (p.1, ⟨e.way, a, e.q⟩), ?_, ?_, ?_, ?_⟩
  · rw [List.map_set, hP]
  · have hm := mark1 hp e.way a
    rw [hp2] at hm
    rw [← hm]
    obtain ⟨h1, h2, h3⟩ := hO
    rw [List.length_set]
    refine ⟨h1, h2, ?_⟩
    rcases h3 with ⟨h0, hx⟩ | ⟨ho, hlt⟩
    · exact absurd (lt_of_get hi') (by omega)
    · obtain ⟨_, _, he⟩ := h1
      simp only [Value.slice.injEq] at he
      obtain ⟨_, rfl, _⟩ := he
      exact .inr ⟨(ho.stored (i * 2 + 1) (.int .i64 a)).1, hlt⟩
  · have hF2 := FamO.keptB (g := g) (onlyN_set (w := w) (b := g) (j := i * 2 + 1) (v := .int .i64 a) (lo := g) (hi := g + 1) (Nat.le_refl _) (by omega)) hF
    have key : ∀ {ps : List (Value × TN)} {lo i : Nat} {p : Value × TN}, FamO (w.setCell ⟨g, i * 2 + 1, none⟩ (.int .i64 a)) (some g) lo hi ps → True := fun _ => trivial
    clear key
    have key : ∀ (W : World) (ps : List (Value × TN)) (lo i : Nat) (p q : Value × TN), ps[i]? = some p → q.1 = p.1 → q.2.way = p.2.way → FamO W (some g) lo hi ps → FamO W (some g) lo hi (ps.set i q) := by
      intro W ps
      induction ps with
      | nil => intro lo i p q h; simp at h
      | cons p' ps ih =>
        intro lo i p q hq h1 h2 hF
        obtain ⟨a1, b1, k1, k2, k3, k4, k5, k6⟩ := hF
        cases i with
        | zero => simp at hq; subst hq; rw [List.set_cons_zero]; exact ⟨a1, b1, k1, k2, k3, k4, by rw [h1, h2]; exact k5, k6⟩
        | succ i => rw [List.set_cons_succ]; exact ⟨a1, b1, k1, k2, k3, k4, k5, ih _ i p q (by simpa using hq) h1 h2 k6⟩
    exact key _ ps lo i p _ hp rfl (by rw [hp2]) hF2
  · unfold SmallN at hS ⊢
    have hm : ((x.set i ⟨e.way, a, e.q⟩).map fun e => e.way.length) = x.map fun e => e.way.length := by
      rw [List.map_set]
      refine List.ext_getElem? fun j => ?_
      by_cases hj : j = i
      · subst hj
        rw [List.getElem?_set_self (by rw [List.length_map]; exact lt_of_get hi'), List.getElem?_map, hi']; rfl
      · rw [List.getElem?_set_ne (fun e => hj e.symm)]
    rw [hm, List.length_set]; exact hS
set_option maxRecDepth 100000 in
set_option maxHeartbeats 4000000 in
theorem P_DelayRun (ts : List Int) (v : Value) (x : List TN) (u : Value) (k by_ : Int) (w : World) (h0 : ts.length ≤ 1048576) (_ : ∀ z ∈ ts, -9223372036854775808 ≤ z ∧ z ≤ 9223372036854775807) (h : R_Int64S w w.heap.size v ts) (hs : SmallN x) (_ : ∀ e ∈ x, e.Fits) (h2 : R_RunS w w.heap.size u x) (_ : -9223372036854775808 ≤ k) (_ : k ≤ 9223372036854775807) (_ : -9223372036854775808 ≤ by_) (_ : by_ ≤ 9223372036854775807) :
    Calls Try.prog 73 #[v, u, .int .i64 k, .int .i64 by_] w fun e w' => ∃ r, e = .returned (.tuple #[r, .int .i64 (delayRun ts x k by_).2]) ∧ O_RunS w' w.heap.size w'.heap.size r (delayRun ts x k by_).1 ∧ Below w.heap.size w w' := by
  obtain ⟨A0, c0, rfl, h1⟩ := h
  obtain ⟨A, c, rfl, h2⟩ := h2
  have hxl : x.length ≤ 1048576 := by unfold SmallN at hs; omega
  have HV := hide (validRuns_any ts x A0 c0 A c w h0 hs h1 h2)
  have HX := hide h2
  have HCP := hide fun W (hW : Below w.heap.size w W) => copyRuns_any x A c W hs ((h2.below hW).more hW.size)
  clear h1 h2
  cases hv : vRuns ts x
  · rw [hv] at HV
    have HR := hide (show delayRun ts x k by_ = ([], 1) by simp [delayRun, hv])
    clear hv
    go_enter Try.func73, Try.ntmps73
    go_wp2_with (go_at_call 95; refine (HV.out).mono ?_; rintro e w1 ⟨rfl, hb1⟩)
    go_ret2
    exact ⟨_, by rw [HR.out]; rfl, by rw [HR.out]; exact O_RunS.nil _ _ _ _ _, hb1⟩
  rw [hv] at HV
  obtain ⟨_, hl12, hok⟩ := vRuns_iff.1 hv
  by_cases g1 : 0 ≤ k ∧ k ≤ (x.length : Int) - 1
  case neg =>
    have g1' : k < 0 ∨ (x.length : Int) - 1 < k := by omega
    have HR := hide (show delayRun ts x k by_ = ([], 2) by unfold delayRun; rw [if_pos hv, if_neg fun h => g1 h.1])
    clear hv g1
    go_enter Try.func73, Try.ntmps73
    go_wp2_with (first | (go_at_call 95; refine (HV.out).mono ?_; rintro e w1 ⟨rfl, hb1⟩) | (go_at_call 103; first | (refine (within_t _ _ _ _ (by omega)).mono ?_; rintro e w' ⟨rfl, rfl⟩) | (refine (within_f _ _ _ _ (by omega)).mono ?_; rintro e w' ⟨rfl, rfl⟩)))
    go_ret2
    exact ⟨_, by rw [HR.out]; rfl, by rw [HR.out]; exact O_RunS.nil _ _ _ _ _, hb1⟩
  by_cases g2 : 0 ≤ by_ ∧ by_ ≤ 100000
  case neg =>
    have g2' : by_ < 0 ∨ 100000 < by_ := by omega
    have HR := hide (show delayRun ts x k by_ = ([], 2) by unfold delayRun; rw [if_pos hv, if_neg fun h => g2 h.2])
    obtain ⟨g1a, g1b⟩ := g1
    clear hv g2
    go_enter Try.func73, Try.ntmps73
    go_wp2_with (first | (go_at_call 95; refine (HV.out).mono ?_; rintro e w1 ⟨rfl, hb1⟩) | (go_at_call 103; first | (refine (within_t _ _ _ _ (by omega)).mono ?_; rintro e w' ⟨rfl, rfl⟩) | (refine (within_f _ _ _ _ (by omega)).mono ?_; rintro e w' ⟨rfl, rfl⟩)))
    go_ret2
    exact ⟨_, by rw [HR.out]; rfl, by rw [HR.out]; exact O_RunS.nil _ _ _ _ _, hb1⟩
  obtain ⟨n, rfl⟩ := Int.eq_ofNat_of_zero_le g1.1
  have hn : n < x.length := by omega
  obtain ⟨b1, o1, z1, Aw, cw, hA, hbb, hz1, hrw, hn0, hc1, hc2⟩ := HX.out.at_ (by omega) hn
  subst hA
  have hn1 := hc1 (by omega)
  have hzk := (hok z1 (List.mem_of_getElem? hz1)).2
  obtain ⟨hp0, hp1⟩ := hzk
  have hin1 : (n : Int) < x.length := by omega
  have hin0 : (0 : Int) ≤ (n : Int) := by omega
  by_cases g3 : z1.p + by_ ≤ 100000
  case neg =>
    have HR := hide (show delayRun ts x n by_ = ([], 5) by unfold delayRun; rw [if_pos hv, if_pos ⟨g1, g2⟩, if_neg (by rw [Int.toNat_natCast, hz1]; exact g3)])
    obtain ⟨g1a, g1b⟩ := g1
    obtain ⟨g2a, g2b⟩ := g2
    clear hv hrw hz1 hok hc1 hc2
    go_enter Try.func73, Try.ntmps73
    go_wp2_with (first | (go_at_call 95; refine (HV.out).mono ?_; rintro e w1 ⟨rfl, hb1⟩; have hr1 := (hb1.cell (p := ⟨b1, o1 + n * 2 + 1, none⟩) hbb).trans hn1) | (go_at_call 103; first | (refine (within_t _ _ _ _ (by omega)).mono ?_; rintro e w' ⟨rfl, rfl⟩) | (refine (within_f _ _ _ _ (by omega)).mono ?_; rintro e w' ⟨rfl, rfl⟩)))
    go_ret2
    exact ⟨_, by rw [HR.out]; rfl, by rw [HR.out]; exact O_RunS.nil _ _ _ _ _, hb1⟩
  have HR := hide (show delayRun ts x n by_ = (x.set n ⟨z1.way, z1.p + by_, z1.q⟩, 0) by unfold delayRun; rw [if_pos hv, if_pos ⟨g1, g2⟩, if_pos (by rw [Int.toNat_natCast, hz1]; exact g3)]; unfold lateR; rw [Int.toNat_natCast, hz1])
  have Z1 := hide hz1
  obtain ⟨g1a, g1b⟩ := g1
  obtain ⟨g2a, g2b⟩ := g2
  clear hv hrw hz1 hok hc1 hc2
  go_enter Try.func73, Try.ntmps73
  go_wp2_with (first | (go_at_call 95; refine (HV.out).mono ?_; rintro e w1 ⟨rfl, hb1⟩; have hr1 := (hb1.cell (p := ⟨b1, o1 + n * 2 + 1, none⟩) hbb).trans hn1) | (go_at_call 103; first | (refine (within_t _ _ _ _ (by omega)).mono ?_; rintro e w' ⟨rfl, rfl⟩) | (refine (within_f _ _ _ _ (by omega)).mono ?_; rintro e w' ⟨rfl, rfl⟩)) | (go_at_call 160; refine (HCP.out _ hb1).mono ?_; rintro e w3 ⟨v3, rfl, o3, hb3⟩; have o3' := o3; obtain ⟨ps, hP, hO, hF, hS⟩ := o3'; obtain ⟨g, c3, rfl, hlg, hgh, how, _⟩ := onv_block hO (by omega); have hpl : ps[n]? = some ((ps[n]?.map (·.1)).getD undef, z1) := (by have h := Z1.out; rw [← hP, List.getElem?_map] at h; cases hq : ps[n]? with | none => (rw [hq] at h; cases h) | some p => (rw [hq] at h; cases h; rfl)); have hq1 : w3.cell? ⟨g, n * 2 + 1, none⟩ = some (.int .i64 z1.p) := (how.cellAt (n * 2 + 1) (by omega)).trans (flatMap_get (Nc 1) 2 (fun _ => rfl) ps n 1 _ hpl (by omega)); have hf1 := how.frozenAt (n * 2 + 1); clear hP hO hF hS))
  go_ret2
  have hb4 := hb1.trans (hb3.mono hb1.size)
  refine ⟨_, by rw [HR.out]; rfl, ?_, hb4.setCell (Nat.le_trans hb1.size hlg) _⟩
  rw [HR.out]
  have hfin := onl_set (a := z1.p + by_) (o3 : ON _ _ _ _ _ _ _) Z1.out ⟨hlg, hgh⟩
  have hsz9 : w3.heap.size ≤ (w3.setCell ⟨g, n * 2 + 1, none⟩ (.int .i64 (z1.p + by_))).heap.size := by simp
  exact (hfin.widen hb1.size hsz9 : ON _ _ _ _ _ _ _)
end Go.Proofs.Ytfhociekhffjhaa
