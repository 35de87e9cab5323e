/-
  Drawn wishes.
-/
import Derived.Test.YtfhociekhffjhaaSrc3
namespace Go.Proofs.Ytfhociekhffjhaa
open Go.RowKit

theorem BoxN.only {w w' : World} {b lo hi : Nat} {cs : Array Value} {e : TypeId} (h : BoxN w b cs e) (k : Only lo hi w w') (hd : b < lo ∨ hi ≤ b) : BoxN w' b cs e := (k.2.2.2.2 b h.lt hd).trans h
theorem only_setNew {lo hi : Nat} {w0 w : World} (h : Only lo hi w0 w) (a : Addr) (v : Value) (hB : w0.heap.size ≤ a.block) : Only lo hi w0 (w.setCell a v) :=
  ⟨h.1, h.2.1, h.2.2.1, by have := h.size; simpa [World.setCell] using this, fun k hk ho => (Below.heap_setCell _ _ _ _ (by omega)).trans (h.2.2.2.2 k hk ho)⟩
theorem grown_setCell (w : World) (a : Addr) (v : Value) : w.grownBy (w.setCell a v) (some a.block) :=
  ⟨rfl, rfl, rfl, by simp [World.setCell], fun k _ hn => Below.heap_setCell _ _ _ _ (fun e => hn (by rw [e]))⟩
theorem SrcAt.set {b : Nat} {bs : List Int} {N : Int} {W : World} (h : SrcAt b bs N W) (a : Addr) (v : Value) (hb : b < a.block) : SrcAt b bs N (W.setCell a v) :=
  h.below (B := b + 1) ⟨rfl, rfl, rfl, by simp [World.setCell], fun k hk => Below.heap_setCell _ _ _ _ (by omega)⟩ (Nat.lt_succ_self b)
/-- A drawn wish, for n tubes. -/
def WDrawn (n : Nat) (e : TN) : Prop := ((1 ≤ e.way.length ∧ e.way.length ≤ 4) ∧ ∀ z ∈ e.way, 0 ≤ z ∧ z ≤ (n : Int) - 1) ∧ (0 ≤ e.p ∧ e.p ≤ 19) ∧ (0 ≤ e.q ∧ e.q ≤ 78)
set_option maxRecDepth 100000 in
set_option maxHeartbeats 4000000 in
theorem newWish_any (b : Nat) (bs : List Int) (N : Int) (n : Nat) (w : World) (hbs : BsOk bs) (hN : N ≤ 1099509000000) (hn : 1 ≤ n) (hn6 : n ≤ 1000) (h : SrcAt b bs N w) :
    Calls Try.prog 106 #[.pointer (some ⟨b, 0, none⟩), .int .i64 n] w fun e w' => ∃ (A : Option Addr) (c : Nat) (x : TN), e = .returned (.agg #[.slice A x.way.length c, .int .i64 x.p, .int .i64 x.q]) ∧ w'.ownsRow w.heap.size 2 1 (.slice A x.way.length c) x.way.length (x.way.map (Value.int .i64)) ∧ WDrawn n x ∧ SrcAt b bs (N + 20) w' ∧ Only b (b + 1) w w' := by
  have hbl := h.lt
  have HP := hide fun M n W (hM : M ≤ 1099511000000) (hW : SrcAt b bs M W) => pick_any b bs M n W hbs hM hW
  have HW := hide (drawWay_any b bs N n _ hbs (by omega) hn hn6 (h.alloc (.cells #[.slice none 0 0, .int .i64 0, .int .i64 0] 46)))
  have XR := hide (BoxN.new w #[.slice none 0 0, .int .i64 0, .int .i64 0] 46)
  have o0 : Only b (b + 1) w (w.alloc (.cells #[.slice none 0 0, .int .i64 0, .int .i64 0] 46)) := only_of_below ((Below.refl _ _).alloc (Nat.le_refl _) _)
  have z0 : w.heap.size + 1 ≤ (w.alloc (.cells #[.slice none 0 0, .int .i64 0, .int .i64 0] 46)).heap.size := by simp
  clear h
  go_enter Try.func106, Try.ntmps106
  go_wp2_with (go_at_call 174; refine (HW.out).mono ?_; rintro e w1 ⟨A, c, way, rfl, hown1, ⟨⟨hl1, hl4⟩, hway⟩, hs1, ho1⟩)
  have HWY := hide hway
  have XR1 := hide (XR.out.only ho1 (.inr (by omega)))
  have o1 := only_trans o0 ho1
  have z1 := ho1.size
  have O1 := hide (own_base hown1 (Nat.le_trans (Nat.le_succ _) z0))
  have hnr : (Value.slice A way.length c).ownBlock = none ∨ (Value.slice A way.length c).ownBlock ≠ some w.heap.size := .inr (fun e => by have := (hown1.lt _ e).1; omega)
  have XQ := hide (BoxN.new w1 #[.slice A way.length c, .int .i64 0, .int .i64 0] 46)
  have XR2 := hide (XR1.out.alloc (.cells #[.slice A way.length c, .int .i64 0, .int .i64 0] 46))
  have O2 := hide (O1.out.alloc (.cells #[.slice A way.length c, .int .i64 0, .int .i64 0] 46))
  have S2 := hide (hs1.alloc (.cells #[.slice A way.length c, .int .i64 0, .int .i64 0] 46))
  have o2 := only_alloc o1 (.cells #[.slice A way.length c, .int .i64 0, .int .i64 0] 46)
  have zz1 : w.heap.size < w1.heap.size := by omega
  have z2 : w1.heap.size < (w1.alloc (.cells #[.slice A way.length c, .int .i64 0, .int .i64 0] 46)).heap.size := by simp
  have HC := hide (HP.out (N + 14) 20 _ (by omega) S2.out)
  clear hway hown1 hs1 ho1 o1 HW XR o0 z0
  go_wp2_with (go_at_call 105; refine (HC.out).mono ?_; rintro e w2 ⟨p, rfl, ⟨hp0, hp1', _⟩, hs3, ho3⟩; have XQ3 := XQ.out.only ho3 (.inr (by omega)); have k1 : w2.cell? ⟨w1.heap.size, 1, none⟩ = some (.int .i64 0) := XQ3.cell 1; have f1 := XQ3.fro 1)
  have hp1 := hp1' (by omega)
  have XQ4 := hide (XQ3.set 1 (.int .i64 p))
  have XR4 := hide ((XR2.out.only ho3 (.inr (by omega))).other (b' := w1.heap.size) (by omega) 1 (.int .i64 p))
  have z3 := ho3.size
  have hne : ∀ g, (Value.slice A way.length c).ownBlock = some g → g < w1.heap.size := fun g e => by
    obtain ⟨rfl⟩ | ⟨g', hA, h2, h3⟩ := (own_block O1.out).imp (fun h => h.1) id
    · simp [Value.ownBlock] at e
    · subst hA; simp [Value.ownBlock] at e; omega
  have hnq : (Value.slice A way.length c).ownBlock = none ∨ (Value.slice A way.length c).ownBlock ≠ some w1.heap.size := .inr (fun e => by have := hne _ e; omega)
  have O4 := hide ((row_only O2.out ho3 (by omega)).kept (grown_setCell w2 ⟨w1.heap.size, 1, none⟩ (.int .i64 p)) hnq)
  have S4 := hide (hs3.set ⟨w1.heap.size, 1, none⟩ (.int .i64 p) (by dsimp only; omega))
  have o4 := only_setNew (only_trans o2 ho3) ⟨w1.heap.size, 1, none⟩ (.int .i64 p) (by dsimp only; omega)
  have z4 : w2.heap.size = (w2.setCell ⟨w1.heap.size, 1, none⟩ (.int .i64 p)).heap.size := by simp [World.setCell]
  have z4' : w2.heap.size ≤ (w2.setCell ⟨w1.heap.size, 1, none⟩ (.int .i64 p)).heap.size := by omega
  clear XQ3 k1 f1 hs3 ho3 o2 z4
  generalize w2.setCell ⟨w1.heap.size, 1, none⟩ (.int .i64 p) = w4 at *
  have e0 : w4.drew.cell? ⟨w1.heap.size, 1, none⟩ = some (.int .i64 p) := XQ4.out.cell 1
  have XQ5 : Hid (BoxN w4.drew w1.heap.size #[.slice A way.length c, .int .i64 p, .int .i64 0] 46) := XQ4.out
  have XR5 : Hid (BoxN w4.drew w.heap.size #[.slice none 0 0, .int .i64 0, .int .i64 0] 46) := XR4.out
  have O5 : Hid (w4.drew.ownsRow w.heap.size 2 1 (.slice A way.length c) way.length (way.map (Value.int .i64))) := O4.out
  have S5 : Hid (SrcAt b bs (N + 14 + 2) w4.drew) := S4.out
  have o5 : Only b (b + 1) w w4.drew := ⟨o4.1, o4.2.1, o4.2.2.1, o4.2.2.2.1, o4.2.2.2.2⟩
  have z5 : w2.heap.size ≤ w4.drew.heap.size := z4'
  have HC5 := hide (HP.out (N + 14 + 2) 60 _ (by omega) S5.out)
  refine wp_region_held_drew (S := fun W => W.cell? ⟨w1.heap.size, 1, none⟩ = some (.int .i64 p)) (by kernel_rfl) (e0) (fun hHeld => ?_)
  clear XQ4 XR4 O4 S4 o4 z4'
  generalize w4.drew = wd at *
  refine wpAnyH_take (i := 0) (v := ?_) rfl (by kernel_rfl) (by kernel_rfl) (by kernel_rfl) (fun _ _ _ h => h) (Or.inl ⟨by rfl, ?_⟩) (by assumption) ?_
  rotate_left 1
  · (intro w hSw; (try dsimp only at hSw); go_simp; try with_reducible rfl)
  try simp only [Act.put, List.getElem_toArray, List.getElem_cons_succ, List.getElem_cons_zero, List.setIfInBounds_toArray, List.set_cons_zero, List.set_cons_succ]
  refine wpAnyH_take (i := 1) (v := ?_) rfl (by kernel_rfl) (by kernel_rfl) (by kernel_rfl) (fun _ _ _ h => h) (Or.inl ⟨by rfl, ?_⟩) (by assumption) ?_
  rotate_left 1
  · (intro w hSw; (try dsimp only at hSw); go_simp; try with_reducible rfl)
  try simp only [Act.put, List.getElem_toArray, List.getElem_cons_succ, List.getElem_cons_zero, List.setIfInBounds_toArray, List.set_cons_zero, List.set_cons_succ]
  refine wpAnyH_take (i := 2) (v := ?_) rfl (by kernel_rfl) (by kernel_rfl) (by kernel_rfl) (fun _ _ _ h => h) (Or.inl ⟨by rfl, ?_⟩) (by assumption) ?_
  rotate_left 1
  · (intro w hSw; (try dsimp only at hSw); go_simp; try with_reducible rfl)
  try simp only [Act.put, List.getElem_toArray, List.getElem_cons_succ, List.getElem_cons_zero, List.setIfInBounds_toArray, List.set_cons_zero, List.set_cons_succ]
  refine wpAnyH_ready (rs := [3]) (by kernel_rfl) (by simp) ?_
  refine AllReadyH.cons rfl (fun K hK => ?_) AllReadyH.nil
  try simp only [Act.put, List.getElem_toArray, List.getElem_cons_succ, List.getElem_cons_zero, List.setIfInBounds_toArray, List.set_cons_zero, List.set_cons_succ]
  go_simp
  go_at_call 105
  refine (HC5.out).mono ?_
  rintro e w6 ⟨q, rfl, ⟨hq0, hq1', _⟩, hs6, ho6⟩
  have hq1 := hq1' (by omega)
  have XQ6 := hide (XQ5.out.only ho6 (.inr (by omega)))
  have XR6 := hide (XR5.out.only ho6 (.inr (by omega)))
  have g0 : w6.cell? ⟨w1.heap.size, 1, none⟩ = some (.int .i64 p) := XQ6.out.cell 1
  have g2 : w6.cell? ⟨w1.heap.size, 2, none⟩ = some (.int .i64 0) := XQ6.out.cell 2
  have gf := XQ6.out.fro 2
  have O6 := hide (row_only O5.out ho6 (by omega))
  have o6 := only_trans o5 ho6
  have hwr : IntKind.i64.wrap (p + q) = p + q := by rw [IntKind.wrap_i64] <;> omega
  dsimp only
  refine hK.out _ _ (g0) (fun hHeld => ?_)
  clear hK K
  try simp only [Act.put, List.getElem_toArray, List.getElem_cons_succ, List.getElem_cons_zero, List.setIfInBounds_toArray, List.set_cons_zero, List.set_cons_succ]
  refine wpAnyH_take (i := 4) (v := ?_) rfl (by kernel_rfl) (by kernel_rfl) (by kernel_rfl) (fun _ _ _ h => h) (Or.inl ⟨by rfl, ?_⟩) (by assumption) ?_
  rotate_left 1
  · (intro w hSw; (try dsimp only at hSw); go_simp; try with_reducible rfl)
  try simp only [Act.put, List.getElem_toArray, List.getElem_cons_succ, List.getElem_cons_zero, List.setIfInBounds_toArray, List.set_cons_zero, List.set_cons_succ]
  refine wpAnyH_take (i := 5) (v := ?_) rfl (by kernel_rfl) (by kernel_rfl) (by kernel_rfl) (fun _ _ _ h => h) (Or.inl ⟨by rfl, ?_⟩) (by assumption) ?_
  rotate_left 1
  · (intro w hSw; (try dsimp only at hSw); go_simp; try with_reducible rfl)
  try simp only [Act.put, List.getElem_toArray, List.getElem_cons_succ, List.getElem_cons_zero, List.setIfInBounds_toArray, List.set_cons_zero, List.set_cons_succ]
  refine wpAnyH_ready (rs := [6]) (by kernel_rfl) (by simp) ?_
  refine AllReadyH.cons rfl (fun K hK => ?_) AllReadyH.nil
  try simp only [Act.put, List.getElem_toArray, List.getElem_cons_succ, List.getElem_cons_zero, List.setIfInBounds_toArray, List.set_cons_zero, List.set_cons_succ]
  go_simp
  have XQ7 := hide (XQ6.out.set 2 (.int .i64 (p + q)))
  have j0 : (w6.setCell ⟨w1.heap.size, 2, none⟩ (.int .i64 (p + q))).cell? ⟨w1.heap.size, 1, none⟩ = some (.int .i64 p) := XQ7.out.cell 1
  refine hK.out _ _ (j0) (fun hHeld => ?_)
  clear hK K
  try simp only [Act.put, List.getElem_toArray, List.getElem_cons_succ, List.getElem_cons_zero, List.setIfInBounds_toArray, List.set_cons_zero, List.set_cons_succ]
  refine wpAnyH_done (by kernel_rfl) ?_ _
  clear hwr
  have XR7 := hide (XR6.out.other (b' := w1.heap.size) (by omega) 2 (.int .i64 (p + q)))
  have O7 := hide (O6.out.kept (grown_setCell w6 ⟨w1.heap.size, 2, none⟩ (.int .i64 (p + q))) hnq)
  have S7 := hide (hs6.set ⟨w1.heap.size, 2, none⟩ (.int .i64 (p + q)) (by dsimp only; omega))
  have o7 := only_setNew o6 ⟨w1.heap.size, 2, none⟩ (.int .i64 (p + q)) (by dsimp only; omega)
  clear g0 g2 gf j0 e0 hs6 ho6 o6 XQ6 XR6 O6 HC5 HC HP
  generalize w6.setCell ⟨w1.heap.size, 2, none⟩ (.int .i64 (p + q)) = w7 at *
  have l0 : w7.cell? ⟨w1.heap.size, 0, none⟩ = some (.slice A way.length c) := XQ7.out.cell 0
  have l1 : w7.cell? ⟨w1.heap.size, 1, none⟩ = some (.int .i64 p) := XQ7.out.cell 1
  have l2 : w7.cell? ⟨w1.heap.size, 2, none⟩ = some (.int .i64 (p + q)) := XQ7.out.cell 2
  have T0 := hide (XR7.out.set 0 (.slice A way.length c))
  have T1 := hide (T0.out.set 1 (.int .i64 p))
  have T2 := hide (T1.out.set 2 (.int .i64 (p + q)))
  have m0 : w7.cell? ⟨w.heap.size, 0, none⟩ = some (.slice none 0 0) := XR7.out.cell 0
  have n0 := XR7.out.fro 0
  have m1 : (w7.setCell ⟨w.heap.size, 0, none⟩ (.slice A way.length c)).cell? ⟨w.heap.size, 1, none⟩ = some (.int .i64 0) := T0.out.cell 1
  have n1 := T0.out.fro 1
  have m2 : ((w7.setCell ⟨w.heap.size, 0, none⟩ (.slice A way.length c)).setCell ⟨w.heap.size, 1, none⟩ (.int .i64 p)).cell? ⟨w.heap.size, 2, none⟩ = some (.int .i64 0) := T1.out.cell 2
  have n2 := T1.out.fro 2
  go_wp2_with fail
  have q0 : (((w7.setCell ⟨w.heap.size, 0, none⟩ (.slice A way.length c)).setCell ⟨w.heap.size, 1, none⟩ (.int .i64 p)).setCell ⟨w.heap.size, 2, none⟩ (.int .i64 (p + q))).cell? ⟨w.heap.size, 0, none⟩ = some (.slice A way.length c) := T2.out.cell 0
  have q1 : (((w7.setCell ⟨w.heap.size, 0, none⟩ (.slice A way.length c)).setCell ⟨w.heap.size, 1, none⟩ (.int .i64 p)).setCell ⟨w.heap.size, 2, none⟩ (.int .i64 (p + q))).cell? ⟨w.heap.size, 1, none⟩ = some (.int .i64 p) := T2.out.cell 1
  have q2 : (((w7.setCell ⟨w.heap.size, 0, none⟩ (.slice A way.length c)).setCell ⟨w.heap.size, 1, none⟩ (.int .i64 p)).setCell ⟨w.heap.size, 2, none⟩ (.int .i64 (p + q))).cell? ⟨w.heap.size, 2, none⟩ = some (.int .i64 (p + q)) := T2.out.cell 2
  refine bodyPost_ret (v := .agg #[.slice A way.length c, .int .i64 p, .int .i64 (p + q)]) (by simp [results, Try.results106, go_sem, q0, q1, q2]) rfl ⟨A, c, ⟨way, p, p + q⟩, rfl, ?_, ⟨⟨⟨hl1, hl4⟩, HWY.out⟩, ⟨hp0, by dsimp only; omega⟩, ⟨by dsimp only; omega, by dsimp only; omega⟩⟩, ?_, ?_⟩
  · exact ((O7.out.kept (grown_setCell w7 ⟨w.heap.size, 0, none⟩ (.slice A way.length c)) hnr).kept (grown_setCell _ ⟨w.heap.size, 1, none⟩ (.int .i64 p)) hnr).kept (grown_setCell _ ⟨w.heap.size, 2, none⟩ (.int .i64 (p + q))) hnr
  · exact (((S7.out.set ⟨w.heap.size, 0, none⟩ (.slice A way.length c) hbl).set ⟨w.heap.size, 1, none⟩ (.int .i64 p) hbl).set ⟨w.heap.size, 2, none⟩ (.int .i64 (p + q)) hbl).more (by omega)
  · exact only_setNew (only_setNew (only_setNew o7 ⟨w.heap.size, 0, none⟩ (.slice A way.length c) (Nat.le_refl _)) ⟨w.heap.size, 1, none⟩ (.int .i64 p) (Nat.le_refl _)) ⟨w.heap.size, 2, none⟩ (.int .i64 (p + q)) (Nat.le_refl _)
end Go.Proofs.Ytfhociekhffjhaa
